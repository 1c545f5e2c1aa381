/- 'solventlaw02.DigestTreesMatchSpec' is proved: whatever the input, it answers true and leaves its input as it was; there is no condition but the variables that the row lists; and its tied card. -/
import Derived.Test.YtcjeclddpkinkaaDoorD30
import Derived.Test.YtcjeclddpkinkaaDoorRD
set_option linter.unusedSimpArgs false
set_option linter.unusedVariables false
namespace Go.Proofs.YtcjeclddpkinkaaDoor
open Go.ChangeShapes Go.WideShapes Go.ChangeAt Go.RowKit

set_option maxRecDepth 100000 in
theorem digestTreesMatchSpec_lifted (os : Os) (started : os.Started) (H : Type) (enc : TypeId × Value → H) :
    ReturnsInHanded {} Tryd.checked os 9 .any (fun w args => (Rows.digestTreesMatchSpecSpec.pre enc Tryd.checked.prog Tryd.f9 [] false w args ∧ laidMetH Tryd.prog laid3 w) ∧ sizedMet enc Tryd.checked.prog Tryd.f9 (OpenSpec.ofChange Rows.digestTreesMatchSpecSpec) false w args) (Rows.digestTreesMatchSpecSpec.post enc Tryd.checked.prog Tryd.f9 false true false false) := by
  refine lift_law laid3 os started H enc Tryd.func9 (by kernel_rfl)
    (ChangeSpec.witness_shaped (enc := enc) (C := Tryd.checked) (os := os) (X := fun w _ => laidMetH Tryd.prog laid3 w) false (World.doorLaid Tryd.prog 24 os) #[.slice none 0 0, .int .i64 0] 8 rfl (World.shaped_of_RefB (by kernel_rfl) (by kernel_rfl)) (by kernel_rfl) (by kernel_rfl) (by kernel_rfl) (door_met3 os _)) rfl (by kernel_rfl) rfl ?_ ?_
  · intro W args ds p hA
    obtain ⟨args, rfl⟩ : ∃ a : Array Value, args = a.toList := ⟨args.toArray, by simp⟩
    obtain ⟨v0, v1, d0, d1, p0, p1, rfl, rfl, rfl, _, _⟩ := trodAll_two hA
    rfl
  · intro W base args ds p hval hA hsz hL
    obtain ⟨v0, v1, d0, d1, p0, p1, rfl, rfl, rfl, h0, h1⟩ := trodAll_two hA
    obtain ⟨A, N, c, l, rfl, hr, hN, hc, hm, _⟩ := opens_D hsz (j := 0) rfl rfl (hval 0 63 _ rfl rfl) h0
    obtain ⟨x1, rfl, xa1, xb1⟩ := opens_int Tryd.und_int (hval 1 3 _ rfl rfl) h1
    exact trees_law A N c l x1 W hr hN hc (glo3 hL)

theorem digestTreesMatchSpec_holds : Rows.DigestTreesMatchSpecSaid :=
  OpenClaim.holds_of_wide 9 Tryd.f9 rfl rfl rfl rfl rfl rfl rfl ⟨rfl, rfl, rfl, rfl, rfl⟩ rfl rfl rfl rfl rfl (by kernel_rfl) Tryd.func9 (by kernel_rfl)
    (of_decide_eq_true (by kernel_rfl)) (by unfold Func.isWrapper; first | (rw [if_pos (by decide +kernel)]; kernel_rfl) | (rw [if_neg (by decide +kernel)]; exact ⟨rfl, rfl⟩))
    (fun os started H enc _ => digestTreesMatchSpec_lifted os started H enc)

theorem digestTreesMatchSpec_card_holds : Rows.DigestTreesMatchSpecCardSaid :=
  Claim7.holds_tied_plain_at .later [] [.data, .data, .data] true (true, "b3f345907343170a703516499e5ea42f12764b802fc9c4dec6731c82b6d1c84a") false
    digestTreesMatchSpec_holds (fun _ h => by cases h) (by kernel_rfl) (fun _ h => by cases h) digestTreesMatchSpec_row_tie rfl ⟨rfl, rfl⟩ (by kernel_rfl) rfl
    (fun f fn hf hfn => by
      obtain rfl : f = 9 := Option.some.inj ((show Tryd.prog.funcNamed "solvent/solventlaw02.DigestTreesMatchSpec" = some 9 by kernel_rfl).symm.trans hf) |>.symm
      obtain rfl : fn = Tryd.f9 := (Option.some.inj (Tryd.func9.symm.trans hfn)).symm
      exact ⟨by kernel_rfl, fun j t ht => by
        rw [Tryd.params9] at ht
        have hm : t ∈ [63,3] := by simpa using Array.mem_of_getElem? ht
        have hall : ([63,3].all fun u => !Tryd.prog.wantsStandIn u) = true := by kernel_rfl
        exact (show Tryd.prog.wantsStandIn t = false by simpa using List.all_eq_true.1 hall t hm)⟩)
    (by kernel_rfl)
end Go.Proofs.YtcjeclddpkinkaaDoor
