/- 'solventlaw01.WireTruncated' is proved: whatever the input, it answers true and leaves its input as it was; there is no condition. -/
import Derived.Test.YtcjeclddpkinkaaL13
import Derived.Test.YtcjeclddpkinkaaR1
import Derived.Test.YtcjeclddpkinkaaRows
set_option linter.unusedSimpArgs false
set_option linter.unusedVariables false
namespace Go.Proofs.Ytcjeclddpkinkaa
open Go.ChangeShapes Go.WideShapes Go.ChangeAt Go.RowKit

set_option maxRecDepth 100000 in
theorem wireTruncated_lifted (os : Os) (started : os.Started) (H : Type) (enc : TypeId × Value → H) :
    ReturnsInHanded {} Try.checked os 13 .any (Rows.wireTruncatedSpec.pre6 enc Try.prog Try.f13 Rows.wireTruncatedRow.domain false) (Rows.wireTruncatedSpec.post enc Try.prog Try.f13 false true false false) := by
  refine lift_law os started H enc Try.func13 (by kernel_rfl)
    (ChangeSpec.witness6 (enc := enc) (C := Try.checked) false ⟨#[], #[.int .i64 0, .string ⟨#[]⟩, .slice none 0 0, .slice none 0 0], []⟩ 8 (by kernel_rfl) (by kernel_rfl) (by kernel_rfl) (by kernel_rfl)) rfl (by kernel_rfl) rfl ?_ ?_
  · intro W args ds p hA
    obtain ⟨args, rfl⟩ : ∃ a : Array Value, args = a.toList := ⟨args.toArray, by simp⟩
    obtain ⟨v0, v1, v2, v3, d0, d1, d2, d3, p0, p1, p2, p3, rfl, rfl, rfl, _, _, _, _⟩ := trodAll_four hA
    rfl
  · intro W base args ds p hval hA hsz
    obtain ⟨v0, v1, v2, v3, d0, d1, d2, d3, p0, p1, p2, p3, rfl, rfl, rfl, h0, h1, h2, h3⟩ := trodAll_four hA
    obtain ⟨x0, rfl, xa0, xb0⟩ := opens_int Try.und_int (hval 0 3 _ rfl rfl) h0
    obtain ⟨s1, rfl, sm1⟩ := opens_str hsz (j := 1) rfl rfl (hval 1 9 _ rfl rfl) h1
    obtain ⟨A2, N2, c2, l2, rfl, hr2, hN2, hc2, hm2, hb2, hi2⟩ := opens_64 hsz (j := 2) rfl rfl (hval 2 30 _ rfl rfl) h2
    obtain ⟨A3, N3, c3, l3, rfl, hr3, hN3, hc3, hm3, hb3⟩ := opens_D hsz (j := 3) rfl rfl (hval 3 55 _ rfl rfl) h3
    exact truncated_law _ _ _ _ _ _ _ _ _ _ _ xa0 xb0 (by omega) hr2 hN2 (by omega) hi2 hr3 hN3 (by omega)

theorem wireTruncated_holds : Rows.WireTruncatedSaid :=
  OpenClaim.holds_of_wide 13 Try.f13 rfl rfl rfl rfl rfl rfl rfl ⟨rfl, rfl, rfl, rfl, rfl⟩ rfl rfl rfl rfl rfl (by kernel_rfl) Try.func13 (by kernel_rfl)
    (of_decide_eq_true (by kernel_rfl)) (by unfold Func.isWrapper; first | (rw [if_pos (by decide +kernel)]; kernel_rfl) | (rw [if_neg (by decide +kernel)]; exact ⟨rfl, rfl⟩))
    (fun os started H enc _ => wireTruncated_lifted os started H enc)

end Go.Proofs.Ytcjeclddpkinkaa
