/- 'solventlaw01.WireListRoundTrip' is proved: whatever the input, it answers true and leaves its input as it was; there is no condition. -/
import Derived.Test.YtcjeclddpkinkaaL12
import Derived.Test.YtcjeclddpkinkaaR1
import Derived.Test.YtcjeclddpkinkaaRows
set_option linter.unusedSimpArgs false
set_option linter.unusedVariables false
namespace Go.Proofs.Ytcjeclddpkinkaa
open Go.ChangeShapes Go.WideShapes Go.ChangeAt Go.RowKit

set_option maxRecDepth 100000 in
theorem wireListRoundTrip_lifted (os : Os) (started : os.Started) (H : Type) (enc : TypeId × Value → H) :
    ReturnsInHanded {} Try.checked os 12 .any (Rows.wireListRoundTripSpec.pre6 enc Try.prog Try.f12 Rows.wireListRoundTripRow.domain false) (Rows.wireListRoundTripSpec.post enc Try.prog Try.f12 false true false false) := by
  refine lift_law os started H enc Try.func12 (by kernel_rfl)
    (ChangeSpec.witness6 (enc := enc) (C := Try.checked) false ⟨#[], #[.string ⟨#[]⟩, .slice none 0 0, .slice none 0 0, .slice none 0 0], []⟩ 8 (by kernel_rfl) (by kernel_rfl) (by kernel_rfl) (by kernel_rfl)) rfl (by kernel_rfl) rfl ?_ ?_
  · intro W args ds p hA
    obtain ⟨args, rfl⟩ : ∃ a : Array Value, args = a.toList := ⟨args.toArray, by simp⟩
    obtain ⟨v0, v1, v2, v3, d0, d1, d2, d3, p0, p1, p2, p3, rfl, rfl, rfl, _, _, _, _⟩ := trodAll_four hA
    rfl
  · intro W base args ds p hval hA hsz
    obtain ⟨v0, v1, v2, v3, d0, d1, d2, d3, p0, p1, p2, p3, rfl, rfl, rfl, h0, h1, h2, h3⟩ := trodAll_four hA
    obtain ⟨s0, rfl, sm0⟩ := opens_str hsz (j := 0) rfl rfl (hval 0 9 _ rfl rfl) h0
    obtain ⟨A1, N1, c1, l1, rfl, hr1, hN1, hc1, hm1, hb1, hi1⟩ := opens_64 hsz (j := 1) rfl rfl (hval 1 30 _ rfl rfl) h1
    obtain ⟨A2, N2, c2, l2, rfl, hr2, hN2, hc2, hm2, hb2⟩ := opens_D hsz (j := 2) rfl rfl (hval 2 55 _ rfl rfl) h2
    obtain ⟨A3, N3, c3, l3, rfl, hr3, hN3, hc3, hm3, hb3⟩ := opens_8 hsz (j := 3) rfl rfl (hval 3 57 _ rfl rfl) h3
    exact listroundtrip_law _ _ _ _ _ _ _ _ _ _ _ _ _ _ (by omega) hr1 hN1 (by omega) hi1 hr2 hN2 (by omega) hr3 hN3 hc3 hm3 (by omega)

theorem wireListRoundTrip_holds : Rows.WireListRoundTripSaid :=
  OpenClaim.holds_of_wide 12 Try.f12 rfl rfl rfl rfl rfl rfl rfl ⟨rfl, rfl, rfl, rfl, rfl⟩ rfl rfl rfl rfl rfl (by kernel_rfl) Try.func12 (by kernel_rfl)
    (of_decide_eq_true (by kernel_rfl)) (by unfold Func.isWrapper; first | (rw [if_pos (by decide +kernel)]; kernel_rfl) | (rw [if_neg (by decide +kernel)]; exact ⟨rfl, rfl⟩))
    (fun os started H enc _ => wireListRoundTrip_lifted os started H enc)

end Go.Proofs.Ytcjeclddpkinkaa
