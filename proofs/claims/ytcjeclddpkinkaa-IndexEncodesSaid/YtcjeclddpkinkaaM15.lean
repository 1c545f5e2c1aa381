/- 'solventlaw23.IndexEncodes' is proved: whatever the input, it answers true and leaves its input as it was; there is no condition. -/
import Derived.Test.YtcjeclddpkinkaaK15
import Derived.Test.YtcjeclddpkinkaaR2
import Derived.Test.YtcjeclddpkinkaaRows
set_option linter.unusedSimpArgs false
set_option linter.unusedVariables false
namespace Go.Proofs.Ytcjeclddpkinkaa
open Go.ChangeShapes Go.WideShapes Go.ChangeAt Go.RowKit

set_option maxRecDepth 100000 in
theorem indexEncodes_lifted (os : Os) (started : os.Started) (H : Type) (enc : TypeId × Value → H) :
    ReturnsInHanded {} Try.checked os 15 .any (Rows.indexEncodesSpec.pre6 enc Try.prog Try.f15 Rows.indexEncodesRow.domain false) (Rows.indexEncodesSpec.post enc Try.prog Try.f15 false true false false) := by
  refine lift_law os started H enc Try.func15 (by kernel_rfl)
    (ChangeSpec.witness6 (enc := enc) (C := Try.checked) false ⟨#[], #[.int .i64 0, .slice none 0 0], []⟩ 8 (by kernel_rfl) (by kernel_rfl) (by kernel_rfl) (by kernel_rfl)) rfl (by kernel_rfl) rfl ?_ ?_
  · intro W args ds p hA
    obtain ⟨args, rfl⟩ : ∃ a : Array Value, args = a.toList := ⟨args.toArray, by simp⟩
    obtain ⟨v0, v1, d0, d1, p0, p1, rfl, rfl, rfl, _, _⟩ := trodAll_two hA
    rfl
  · intro W base args ds p hval hA hsz
    obtain ⟨v0, v1, d0, d1, p0, p1, rfl, rfl, rfl, h0, h1⟩ := trodAll_two hA
    obtain ⟨x0, rfl, xa0, xb0⟩ := opens_int Try.und_int (hval 0 3 _ rfl rfl) h0
    obtain ⟨A1, N1, c1, l1, rfl, hr1, hN1, hc1, hm1, hb1, hi1⟩ := opens_O hsz (j := 1) rfl rfl (hval 1 22 _ rfl rfl) h1
    exact encodes_law _ _ _ _ _ _  hr1 hN1 (by omega) hi1

theorem indexEncodes_holds : Rows.IndexEncodesSaid :=
  OpenClaim.holds_of_wide 15 Try.f15 rfl rfl rfl rfl rfl rfl rfl ⟨rfl, rfl, rfl, rfl, rfl⟩ rfl rfl rfl rfl rfl (by kernel_rfl) Try.func15 (by kernel_rfl)
    (of_decide_eq_true (by kernel_rfl)) (by unfold Func.isWrapper; first | (rw [if_pos (by decide +kernel)]; kernel_rfl) | (rw [if_neg (by decide +kernel)]; exact ⟨rfl, rfl⟩))
    (fun os started H enc _ => indexEncodes_lifted os started H enc)

end Go.Proofs.Ytcjeclddpkinkaa
