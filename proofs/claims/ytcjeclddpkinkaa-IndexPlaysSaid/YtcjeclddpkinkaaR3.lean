/- One step of a script by value, and a byte, opened as they came in. -/
import Derived.Test.YtcjeclddpkinkaaR2
set_option linter.unusedSimpArgs false
set_option linter.unusedVariables false
namespace Go.Proofs.Ytcjeclddpkinkaa
open Go.ChangeShapes Go.WideShapes Go.ChangeAt Go.RowKit Ix

section
variable {H : Type} {enc : TypeId × Value → H} {W : World} {base : Nat} {p : List MemPlace} {d : DataW H} {v : Value}
set_option maxRecDepth 100000 in
theorem opens_op (hval : Value.okWide Try.prog W .any base 34 v) (h : DataW.Trod enc Try.prog W 0 (fun _ => true) true 34 v d p) :
    ∃ b x c, v = .agg #[.bool b, .int .u32 x, .int .i64 c] ∧ OkO ⟨b, x, c⟩ := by
  obtain ⟨cs, rfl, hs⟩ := okWide_struct op_und hval
  rw [Try.cells_op] at hs
  obtain ⟨fuel, hf⟩ := h
  obtain ⟨ys, m, _, _, _, hyl, hys⟩ := DataW.trod_struct op_und hf
  obtain ⟨f, g, k, hf0, hg0, hk0, f1, f2, g1, g2, k1, k2, hsz3⟩ := op_three
  rw [hsz3] at hyl
  have a0 := hys 0 f hf0
  have a1 := hys 1 g hg0
  have a2 := hys 2 k hk0
  rw [f1, f2, Try.cells_bool, List.getElem?_eq_getElem (by omega)] at a0
  rw [g1, g2, Try.cells_u32, List.getElem?_eq_getElem (by omega)] at a1
  rw [k1, k2, Try.cells_int, List.getElem?_eq_getElem (by omega)] at a2
  obtain ⟨z0, e0, _⟩ := DataW.trod_bool Try.und_bool a0
  obtain ⟨z1, e1, _, w1⟩ := DataW.trod_int Try.und_u32 a1
  obtain ⟨z2, e2, _, w2⟩ := DataW.trod_int Try.und_int a2
  simp only [Value.cells] at e0 e1 e2
  have b1 := wf_u32 w1
  have b2 := wf_i64 w2
  obtain ⟨l⟩ := cs
  rcases l with _ | ⟨x0, _ | ⟨x1, _ | ⟨x2, _ | ⟨x3, l⟩⟩⟩⟩ <;> simp at hs
  simp at e0 e1 e2
  subst e0; subst e1; subst e2
  exact ⟨z0, z1, z2, rfl, b1.1, b1.2, b2.1, b2.2⟩
set_option maxRecDepth 100000 in
theorem opens_byte (hval : Value.okWide Try.prog W .any base 5 v) (h : DataW.Trod enc Try.prog W 0 (fun _ => true) true 5 v d p) :
    ∃ n : Int, v = .int .u8 n ∧ 0 ≤ n ∧ n ≤ 255 := by
  obtain ⟨n, rfl, _, _, hw⟩ := open_int Try.und_u8 hval h
  have := wf_u8 hw
  have h2 := (UInt8.ofNat n.toNat).toNat_lt
  exact ⟨n, rfl, by omega, by omega⟩
end

end Go.Proofs.Ytcjeclddpkinkaa
