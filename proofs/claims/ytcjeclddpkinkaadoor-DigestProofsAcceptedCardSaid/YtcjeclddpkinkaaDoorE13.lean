/- 'solventlaw02.DigestProofsAccepted' is proved: whatever the input, it answers true and leaves its input as it was; there is no condition but the variables that the row lists; and its tied card. -/
import Derived.Test.YtcjeclddpkinkaaDoorD32
import Derived.Test.YtcjeclddpkinkaaDoorRD
set_option linter.unusedSimpArgs false
set_option linter.unusedVariables false
namespace Go.Proofs.YtcjeclddpkinkaaDoor
open Go.ChangeShapes Go.WideShapes Go.ChangeAt Go.RowKit

set_option maxRecDepth 100000 in
theorem digestProofsAccepted_lifted (os : Os) (started : os.Started) (H : Type) (enc : TypeId × Value → H) :
    ReturnsInHanded {} Tryd.checked os 13 .any (fun w args => (Rows.digestProofsAcceptedSpec.pre enc Tryd.checked.prog Tryd.f13 [] false w args ∧ laidMetH Tryd.prog laid2 w) ∧ sizedMet enc Tryd.checked.prog Tryd.f13 (OpenSpec.ofChange Rows.digestProofsAcceptedSpec) false w args) (Rows.digestProofsAcceptedSpec.post enc Tryd.checked.prog Tryd.f13 false true false false) := by
  refine lift_law laid2 os started H enc Tryd.func13 (by kernel_rfl)
    (ChangeSpec.witness_shaped (enc := enc) (C := Tryd.checked) (os := os) (X := fun w _ => laidMetH Tryd.prog laid2 w) false (World.doorLaid Tryd.prog 24 os) #[.slice none 0 0] 8 rfl (World.shaped_of_RefB (by kernel_rfl) (by kernel_rfl)) (by kernel_rfl) (by kernel_rfl) (by kernel_rfl) (door_met2 os _)) rfl (by kernel_rfl) rfl ?_ ?_
  · intro W args ds p hA
    obtain ⟨args, rfl⟩ : ∃ a : Array Value, args = a.toList := ⟨args.toArray, by simp⟩
    obtain ⟨v0, d0, rfl, rfl, _⟩ := trodAll_one hA
    rfl
  · intro W base args ds p hval hA hsz hL
    obtain ⟨v0, d0, rfl, rfl, h0⟩ := trodAll_one hA
    obtain ⟨A, N, c, l, rfl, hr, hN, hc, hm, _⟩ := opens_D hsz (j := 0) rfl rfl (hval 0 63 _ rfl rfl) h0
    exact accepted_law A N c l W hr hN hc (glo2 hL)

theorem digestProofsAccepted_holds : Rows.DigestProofsAcceptedSaid :=
  OpenClaim.holds_of_wide 13 Tryd.f13 rfl rfl rfl rfl rfl rfl rfl ⟨rfl, rfl, rfl, rfl, rfl⟩ rfl rfl rfl rfl rfl (by kernel_rfl) Tryd.func13 (by kernel_rfl)
    (of_decide_eq_true (by kernel_rfl)) (by unfold Func.isWrapper; first | (rw [if_pos (by decide +kernel)]; kernel_rfl) | (rw [if_neg (by decide +kernel)]; exact ⟨rfl, rfl⟩))
    (fun os started H enc _ => digestProofsAccepted_lifted os started H enc)

theorem digestProofsAccepted_card_holds : Rows.DigestProofsAcceptedCardSaid :=
  Claim7.holds_tied_plain_at .later [] [.data, .data] true (true, "b3f345907343170a703516499e5ea42f12764b802fc9c4dec6731c82b6d1c84a") false
    digestProofsAccepted_holds (fun _ h => by cases h) (by kernel_rfl) (fun _ h => by cases h) digestProofsAccepted_row_tie rfl ⟨rfl, rfl⟩ (by kernel_rfl) rfl
    (fun f fn hf hfn => by
      obtain rfl : f = 13 := Option.some.inj ((show Tryd.prog.funcNamed "solvent/solventlaw02.DigestProofsAccepted" = some 13 by kernel_rfl).symm.trans hf) |>.symm
      obtain rfl : fn = Tryd.f13 := (Option.some.inj (Tryd.func13.symm.trans hfn)).symm
      exact ⟨by kernel_rfl, fun j t ht => by
        rw [Tryd.params13] at ht
        have hm : t ∈ [63] := by simpa using Array.mem_of_getElem? ht
        have hall : ([63].all fun u => !Tryd.prog.wantsStandIn u) = true := by kernel_rfl
        exact (show Tryd.prog.wantsStandIn t = false by simpa using List.all_eq_true.1 hall t hm)⟩)
    (by kernel_rfl)
end Go.Proofs.YtcjeclddpkinkaaDoor
