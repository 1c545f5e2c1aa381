/- 'solventlaw02.DigestOfMatchesSpec' is proved: whatever the input, it answers true and leaves its input as it was; there is no condition but the variables that the row lists; and its tied card. -/
import Derived.Test.YtcjeclddpkinkaaDoorD28
import Derived.Test.YtcjeclddpkinkaaDoorRE
set_option linter.unusedSimpArgs false
set_option linter.unusedVariables false
namespace Go.Proofs.YtcjeclddpkinkaaDoor
open Go.ChangeShapes Go.WideShapes Go.ChangeAt Go.RowKit

set_option maxRecDepth 100000 in
theorem digestOfMatchesSpec_lifted (os : Os) (started : os.Started) (H : Type) (enc : TypeId × Value → H) :
    ReturnsInHanded {} Tryd.checked os 6 .any (fun w args => (Rows.digestOfMatchesSpecSpec.pre enc Tryd.checked.prog Tryd.f6 [] false w args ∧ laidMetH Tryd.prog laid3 w) ∧ sizedMet enc Tryd.checked.prog Tryd.f6 (OpenSpec.ofChange Rows.digestOfMatchesSpecSpec) false w args) (Rows.digestOfMatchesSpecSpec.post enc Tryd.checked.prog Tryd.f6 false true false false) := by
  refine lift_law laid3 os started H enc Tryd.func6 (by kernel_rfl)
    (ChangeSpec.witness_shaped (enc := enc) (C := Tryd.checked) (os := os) (X := fun w _ => laidMetH Tryd.prog laid3 w) false (World.doorLaid Tryd.prog 24 os) #[.int .i64 0, .int .i8 0, .slice none 0 0] 8 rfl (World.shaped_of_RefB (by kernel_rfl) (by kernel_rfl)) (by kernel_rfl) (by kernel_rfl) (by kernel_rfl) (door_met3 os _)) rfl (by kernel_rfl) rfl ?_ ?_
  · intro W args ds p hA
    obtain ⟨args, rfl⟩ : ∃ a : Array Value, args = a.toList := ⟨args.toArray, by simp⟩
    obtain ⟨v0, v1, v2, d0, d1, d2, p0, p1, p2, rfl, rfl, rfl, _, _, _⟩ := trodAll_three hA
    rfl
  · intro W base args ds p hval hA hsz hL
    obtain ⟨v0, v1, v2, d0, d1, d2, p0, p1, p2, rfl, rfl, rfl, h0, h1, h2⟩ := trodAll_three hA
    obtain ⟨x0, rfl, xa0, xb0⟩ := opens_int Tryd.und_int (hval 0 3 _ rfl rfl) h0
    obtain ⟨x1, rfl, xa1, xb1⟩ := opens_i8 (hval 1 43 _ rfl rfl) h1
    obtain ⟨A, N, c, l, rfl, hr, hN, hc, hm⟩ := opens_S (hval 2 22 _ rfl rfl) h2
    exact of_law x0 x1 A N c l W ⟨xa0, xb0⟩ ⟨xa1, xb1⟩ hr hN (glo3 hL)

theorem digestOfMatchesSpec_holds : Rows.DigestOfMatchesSpecSaid :=
  OpenClaim.holds_of_wide 6 Tryd.f6 rfl rfl rfl rfl rfl rfl rfl ⟨rfl, rfl, rfl, rfl, rfl⟩ rfl rfl rfl rfl rfl (by kernel_rfl) Tryd.func6 (by kernel_rfl)
    (of_decide_eq_true (by kernel_rfl)) (by unfold Func.isWrapper; first | (rw [if_pos (by decide +kernel)]; kernel_rfl) | (rw [if_neg (by decide +kernel)]; exact ⟨rfl, rfl⟩))
    (fun os started H enc _ => digestOfMatchesSpec_lifted os started H enc)

theorem digestOfMatchesSpec_card_holds : Rows.DigestOfMatchesSpecCardSaid :=
  Claim7.holds_tied_plain_at .later [] [.data, .data, .data] true (true, "b3f345907343170a703516499e5ea42f12764b802fc9c4dec6731c82b6d1c84a") false
    digestOfMatchesSpec_holds (fun _ h => by cases h) (by kernel_rfl) (fun _ h => by cases h) digestOfMatchesSpec_row_tie rfl ⟨rfl, rfl⟩ (by kernel_rfl) rfl
    (fun f fn hf hfn => by
      obtain rfl : f = 6 := Option.some.inj ((show Tryd.prog.funcNamed "solvent/solventlaw02.DigestOfMatchesSpec" = some 6 by kernel_rfl).symm.trans hf) |>.symm
      obtain rfl : fn = Tryd.f6 := (Option.some.inj (Tryd.func6.symm.trans hfn)).symm
      exact ⟨by kernel_rfl, fun j t ht => by
        rw [Tryd.params6] at ht
        have hm : t ∈ [3,43,22] := by simpa using Array.mem_of_getElem? ht
        have hall : ([3,43,22].all fun u => !Tryd.prog.wantsStandIn u) = true := by kernel_rfl
        exact (show Tryd.prog.wantsStandIn t = false by simpa using List.all_eq_true.1 hall t hm)⟩)
    (by kernel_rfl)
end Go.Proofs.YtcjeclddpkinkaaDoor
