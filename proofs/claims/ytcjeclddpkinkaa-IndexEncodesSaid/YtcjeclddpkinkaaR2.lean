/- A script, opened: []solventref23.Op as it came in. -/
import Derived.Test.YtcjeclddpkinkaaR1
import Derived.Test.YtcjeclddpkinkaaJ1
set_option linter.unusedSimpArgs false
set_option linter.unusedVariables false
namespace Go.Proofs.Ytcjeclddpkinkaa
open Go.ChangeShapes Go.WideShapes Go.ChangeAt Go.RowKit Ix

theorem op_fields : ((Try.prog.fieldsOf 34).toList.map fun f => (f.type, f.offset)) = [(4, 0), (32, 1), (3, 2)] := by kernel_rfl
theorem op_und : Try.prog.underlying 34 = some (.struct (Try.prog.fieldsOf 34)) := by kernel_rfl
theorem ops_und : Try.prog.underlying 22 = some (.slice 34) := by kernel_rfl
theorem Try.cells_op : Try.prog.cellsOf 34 = 3 := by kernel_rfl
theorem Try.cells_bool : Try.prog.cellsOf 4 = 1 := by kernel_rfl
theorem Try.cells_u32 : Try.prog.cellsOf 32 = 1 := by kernel_rfl
theorem Try.und_u32 : Try.prog.underlying 32 = some (.int .u32) := by kernel_rfl
theorem Try.und_bool : Try.prog.underlying 4 = some .bool := by kernel_rfl
theorem wf_u32 {n : Int} (h : (Lit.int .u32 n).wf = true) : 0 ≤ n ∧ n ≤ 4294967295 := by
  have h1 : IntKind.u32.min = 0 := rfl
  have h2 : IntKind.u32.max = 4294967295 := rfl
  simp only [Lit.wf, Bool.and_eq_true, decide_eq_true_eq] at h
  omega

section
variable {H : Type} {enc : TypeId × Value → H} {W : World} {base : Nat} {p : List MemPlace} {d : DataW H} {v : Value}
theorem op_three : ∃ f g h, (Try.prog.fieldsOf 34)[0]? = some f ∧ (Try.prog.fieldsOf 34)[1]? = some g ∧ (Try.prog.fieldsOf 34)[2]? = some h ∧ f.type = 4 ∧ f.offset = 0 ∧ g.type = 32 ∧ g.offset = 1 ∧ h.type = 3 ∧ h.offset = 2 ∧ (Try.prog.fieldsOf 34).size = 3 := by
  have hf := op_fields
  generalize Try.prog.fieldsOf 34 = A at hf
  obtain ⟨l⟩ := A
  simp only at hf
  rcases l with _ | ⟨f, _ | ⟨g, _ | ⟨h, _ | ⟨x, l⟩⟩⟩⟩
  · cases hf
  · simp at hf
  · simp at hf
  · simp only [List.map_cons, List.map_nil, List.cons.injEq, Prod.mk.injEq, and_true] at hf
    exact ⟨f, g, h, rfl, rfl, rfl, hf.1.1, hf.1.2, hf.2.1.1, hf.2.1.2, hf.2.2.1, hf.2.2.2, rfl⟩
  · simp at hf

set_option maxRecDepth 100000 in
theorem opens_O {ts : List TypeId} {xs : List (DataW H)} {j : Nat} (hsz : (DataW.weightsEach Try.prog ts xs).all (· ≤ reachBytes) = true) (hj : ts[j]? = some 22) (hx : xs[j]? = some d)
    (hval : Value.okWide Try.prog W .any base 22 v) (h : DataW.Trod enc Try.prog W 0 (fun _ => true) true 22 v d p) :
    ∃ A N c l, v = .slice A N c ∧ Rd W A (opCells l) ∧ l.length = N ∧ N ≤ c ∧ c ≤ maxLen ∧ N ≤ 1000000000000 * 100 ∧ ∀ o ∈ l, OkO o := by
  obtain ⟨a0, len, cap, rfl⟩ := okWide_slice ops_und hval
  obtain ⟨fuel, hf⟩ := h
  rcases DataW.trod_slice ops_und hf with ⟨hcs, _⟩ | ⟨a, len', cap', elems, rest, n, _, hcs, he, _, hl, hm, hlen, hel, _, _⟩
  · simp [Value.cells] at hcs
    obtain ⟨rfl, rfl, rfl⟩ := hcs
    exact ⟨_, _, _, [], rfl, Rd.nil _ _, rfl, Nat.le_refl _, Nat.zero_le _, Nat.zero_le _, by intro o ho; simp at ho⟩
  · simp [Value.cells] at hcs
    obtain ⟨rfl, rfl, rfl⟩ := hcs
    simp only [Prod.mk.injEq] at he
    obtain ⟨rfl, rfl⟩ := he
    have hb1 : 2 ≤ Try.prog.bytesOf 34 := by
      have : Try.prog.bytesOf 34 = 16 := by kernel_rfl
      omega
    have hs := sized_slice hsz hj hx ops_und
    simp only [List.length_map, reachBytes] at hs
    have hs2 : elems.length + rest.length ≤ 140737488351232 / 2 := by
      have := Nat.mul_le_mul_left (elems.length + rest.length) hb1
      omega
    obtain ⟨f, g, k, hf0, hg0, hk0, f1, f2, g1, g2, k1, k2, hsz3⟩ := op_three
    have each : ∀ i, i < len → ∃ x : Op3, OkO x ∧ ∀ q u, ([.bool x.drop, .int .u32 x.print, .int .i64 x.chunk] : List Value)[q]? = some u → W.cell? (a.add (i * 3 + q)) = some u := by
      intro i hi
      have h1 := hel i hi
      rw [Try.cells_op, List.getElem?_eq_getElem (by omega), Option.bind_eq_some_iff] at h1
      obtain ⟨cs, hcs, hy⟩ := h1
      obtain ⟨_, hcl, hcc⟩ := World.cells?_some hcs
      obtain ⟨ys, m, _, _, _, hyl, hys⟩ := DataW.trod_struct op_und hy
      rw [hsz3] at hyl
      have a0 := hys 0 f hf0
      have a1 := hys 1 g hg0
      have a2 := hys 2 k hk0
      rw [f1, f2, Try.cells_bool, List.getElem?_eq_getElem (by omega)] at a0
      rw [g1, g2, Try.cells_u32, List.getElem?_eq_getElem (by omega)] at a1
      rw [k1, k2, Try.cells_int, List.getElem?_eq_getElem (by omega)] at a2
      obtain ⟨z0, e0, _⟩ := DataW.trod_bool Try.und_bool a0
      obtain ⟨z1, e1, _, w1⟩ := DataW.trod_int Try.und_u32 a1
      obtain ⟨z2, e2, _, w2⟩ := DataW.trod_int Try.und_int a2
      have c0 : cs[0]? = some (.bool z0) := by have := congrArg (fun l => l[0]?) e0; simpa [List.getElem?_take, List.getElem?_drop] using this
      have c1 : cs[1]? = some (.int .u32 z1) := by have := congrArg (fun l => l[0]?) e1; simpa [List.getElem?_take, List.getElem?_drop] using this
      have c2 : cs[2]? = some (.int .i64 z2) := by have := congrArg (fun l => l[0]?) e2; simpa [List.getElem?_take, List.getElem?_drop] using this
      have b1 := wf_u32 w1
      have b2 := wf_i64 w2
      refine ⟨⟨z0, z1, z2⟩, ⟨b1.1, b1.2, b2.1, b2.2⟩, fun q u hu => ?_⟩
      have hq : q < 3 := (List.getElem?_eq_some_iff.1 hu).1
      rw [← addr_add_add, hcc q hq]
      rcases (show q = 0 ∨ q = 1 ∨ q = 2 by omega) with rfl | rfl | rfl
      · rw [c0]; exact hu
      · rw [c1]; exact hu
      · rw [c2]; exact hu
    obtain ⟨l, hll, hlp⟩ := list_of (fun i (x : Op3) => OkO x ∧ ∀ q u, ([.bool x.drop, .int .u32 x.print, .int .i64 x.chunk] : List Value)[q]? = some u → W.cell? (a.add (i * 3 + q)) = some u) len each
    refine ⟨some a, len, cap, l, rfl, ?_, hll, hl, hm, by omega, ?_⟩
    · intro hp
      have hlen0 : 0 < len := by
        rw [opCells_length] at hp; omega
      obtain ⟨b, off, spot⟩ := a
      have hspot : spot = none := by simpa [Addr.add] using World.cell?_spot ((hlp 0 (by omega)).2 0 _ rfl)
      subst hspot
      refine ⟨b, off, rfl, fun i u hu => ?_⟩
      have hi : i < l.length * 3 := by
        have := (List.getElem?_eq_some_iff.1 hu).1
        rw [opCells_length] at this; omega
      have hk : i / 3 < l.length := by omega
      have hq3 : i % 3 < 3 := by omega
      have hg : ([.bool l[i / 3].drop, .int .u32 l[i / 3].print, .int .i64 l[i / 3].chunk] : List Value)[i % 3]? = some u := by
        have ex : ∃ u', ([.bool l[i / 3].drop, .int .u32 l[i / 3].print, .int .i64 l[i / 3].chunk] : List Value)[i % 3]? = some u' := ⟨_, List.getElem?_eq_getElem (by simpa using hq3)⟩
        obtain ⟨u', hu'⟩ := ex
        have := op_at hk (i % 3) hu'
        rw [show i / 3 * 3 + i % 3 = i from by omega, hu] at this
        rw [hu', this]
      have := (hlp (i / 3) hk).2 (i % 3) u hg
      rw [show i / 3 * 3 + i % 3 = i from by omega, Addr.add_lit] at this
      exact this
    · intro o ho
      obtain ⟨i, hi, rfl⟩ := List.getElem_of_mem ho
      exact (hlp i hi).1
end

end Go.Proofs.Ytcjeclddpkinkaa
