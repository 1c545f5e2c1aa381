/- 'solventlaw23.IndexIncludes' is proved: whatever the input, it answers true and leaves its input as it was; there is no condition. -/
import Derived.Test.YtcjeclddpkinkaaJ3
import Derived.Test.YtcjeclddpkinkaaR2
import Derived.Test.YtcjeclddpkinkaaRows
set_option linter.unusedSimpArgs false
set_option linter.unusedVariables false
namespace Go.Proofs.Ytcjeclddpkinkaa
open Go.ChangeShapes Go.WideShapes Go.ChangeAt Go.RowKit

set_option maxRecDepth 100000 in
theorem indexIncludes_lifted (os : Os) (started : os.Started) (H : Type) (enc : TypeId × Value → H) :
    ReturnsInHanded {} Try.checked os 3 .any (Rows.indexIncludesSpec.pre6 enc Try.prog Try.f3 Rows.indexIncludesRow.domain false) (Rows.indexIncludesSpec.post enc Try.prog Try.f3 false true false false) := by
  refine lift_law os started H enc Try.func3 (by kernel_rfl)
    (ChangeSpec.witness6 (enc := enc) (C := Try.checked) false ⟨#[], #[.int .i64 0, .int .i64 0, .slice none 0 0], []⟩ 8 (by kernel_rfl) (by kernel_rfl) (by kernel_rfl) (by kernel_rfl)) rfl (by kernel_rfl) rfl ?_ ?_
  · intro W args ds p hA
    obtain ⟨args, rfl⟩ : ∃ a : Array Value, args = a.toList := ⟨args.toArray, by simp⟩
    obtain ⟨v0, v1, v2, d0, d1, d2, p0, p1, p2, rfl, rfl, rfl, _, _, _⟩ := trodAll_three hA
    rfl
  · intro W base args ds p hval hA hsz
    obtain ⟨v0, v1, v2, d0, d1, d2, p0, p1, p2, rfl, rfl, rfl, h0, h1, h2⟩ := trodAll_three hA
    obtain ⟨x0, rfl, xa0, xb0⟩ := opens_int Try.und_int (hval 0 3 _ rfl rfl) h0
    obtain ⟨x1, rfl, xa1, xb1⟩ := opens_int Try.und_int (hval 1 3 _ rfl rfl) h1
    obtain ⟨A2, N2, c2, l2, rfl, hr2, hN2, hc2, hm2, hb2, hi2⟩ := opens_O hsz (j := 2) rfl rfl (hval 2 22 _ rfl rfl) h2
    exact includes_law _ _ _ _ _ _ _   hr2 hN2 (by omega) hi2

theorem indexIncludes_holds : Rows.IndexIncludesSaid :=
  OpenClaim.holds_of_wide 3 Try.f3 rfl rfl rfl rfl rfl rfl rfl ⟨rfl, rfl, rfl, rfl, rfl⟩ rfl rfl rfl rfl rfl (by kernel_rfl) Try.func3 (by kernel_rfl)
    (of_decide_eq_true (by kernel_rfl)) (by unfold Func.isWrapper; first | (rw [if_pos (by decide +kernel)]; kernel_rfl) | (rw [if_neg (by decide +kernel)]; exact ⟨rfl, rfl⟩))
    (fun os started H enc _ => indexIncludes_lifted os started H enc)

end Go.Proofs.Ytcjeclddpkinkaa
