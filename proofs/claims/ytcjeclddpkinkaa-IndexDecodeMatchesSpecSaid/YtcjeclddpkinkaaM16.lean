/- 'solventlaw23.IndexDecodeMatchesSpec' is proved: whatever the input, it answers true and leaves its input as it was; there is no condition. -/
import Derived.Test.YtcjeclddpkinkaaK14
import Derived.Test.YtcjeclddpkinkaaR1
import Derived.Test.YtcjeclddpkinkaaRows
set_option linter.unusedSimpArgs false
set_option linter.unusedVariables false
namespace Go.Proofs.Ytcjeclddpkinkaa
open Go.ChangeShapes Go.WideShapes Go.ChangeAt Go.RowKit

set_option maxRecDepth 100000 in
theorem indexDecodeMatchesSpec_lifted (os : Os) (started : os.Started) (H : Type) (enc : TypeId × Value → H) :
    ReturnsInHanded {} Try.checked os 16 .any (Rows.indexDecodeMatchesSpecSpec.pre6 enc Try.prog Try.f16 Rows.indexDecodeMatchesSpecRow.domain false) (Rows.indexDecodeMatchesSpecSpec.post enc Try.prog Try.f16 false true false false) := by
  refine lift_law os started H enc Try.func16 (by kernel_rfl)
    (ChangeSpec.witness6 (enc := enc) (C := Try.checked) false ⟨#[], #[.slice none 0 0], []⟩ 8 (by kernel_rfl) (by kernel_rfl) (by kernel_rfl) (by kernel_rfl)) rfl (by kernel_rfl) rfl ?_ ?_
  · intro W args ds p hA
    obtain ⟨args, rfl⟩ : ∃ a : Array Value, args = a.toList := ⟨args.toArray, by simp⟩
    obtain ⟨v0, d0, rfl, rfl, _⟩ := trodAll_one hA
    rfl
  · intro W base args ds p hval hA hsz
    obtain ⟨v0, d0, rfl, rfl, h0⟩ := trodAll_one hA
    obtain ⟨A0, N0, c0, l0, rfl, hr0, hN0, hc0, hm0, hb0⟩ := opens_8 hsz (j := 0) rfl rfl (hval 0 57 _ rfl rfl) h0
    exact decspec_law _ _ _ _ _ hr0 hN0 hc0 hm0

theorem indexDecodeMatchesSpec_holds : Rows.IndexDecodeMatchesSpecSaid :=
  OpenClaim.holds_of_wide 16 Try.f16 rfl rfl rfl rfl rfl rfl rfl ⟨rfl, rfl, rfl, rfl, rfl⟩ rfl rfl rfl rfl rfl (by kernel_rfl) Try.func16 (by kernel_rfl)
    (of_decide_eq_true (by kernel_rfl)) (by unfold Func.isWrapper; first | (rw [if_pos (by decide +kernel)]; kernel_rfl) | (rw [if_neg (by decide +kernel)]; exact ⟨rfl, rfl⟩))
    (fun os started H enc _ => indexDecodeMatchesSpec_lifted os started H enc)

end Go.Proofs.Ytcjeclddpkinkaa
