/- The index's list in memory, and the contract of join. -/
import Derived.Test.YtcjeclddpkinkaaI1
import Derived.StillTailTactics
import Derived.BigRegion
set_option linter.unusedSimpArgs false
set_option linter.unusedVariables false
namespace Go.Proofs.Ytcjeclddpkinkaa
open Go.RowKit Go.ChangeMaps

abbrev Lk := Int × Int × Int
def lv (x : Lk) : Value := .agg #[.int .u32 x.1, .int .i64 x.2.1, .int .i64 x.2.2]
def In (c : Int) : Prop := 0 ≤ c ∧ c ≤ 65536
theorem In.wf {c : Int} (h : In c) : (Lit.int .i64 c).wf = true := by
  have h1 : IntKind.i64.min = -9223372036854775808 := rfl
  have h2 : IntKind.i64.max = 9223372036854775807 := rfl
  obtain ⟨h3, h4⟩ := h
  simp only [Lit.wf, Bool.and_eq_true, decide_eq_true_eq]
  omega

/-- an Index: its block p, its map r -/
def IxR (w : World) (p r : Nat) (cap fst lst : Int) (f : Int → Option Lk) (n : Nat) : Prop :=
  w.heap[p]? = some (.cells #[.int .i64 cap, .map (some r), .int .i64 fst, .int .i64 lst] 92 (0, 0)) ∧ MapAt w r (fun c => (f c).map lv) n

/-- two blocks alone may have turned, new ones may have come -/
structure Keep2 (p r : Nat) (w w' : World) : Prop where
  os : w'.os = w.os
  tape : w'.tape = w.tape
  output : w'.output = w.output
  size : w.heap.size ≤ w'.heap.size
  block : ∀ k, k < w.heap.size → k ≠ p → k ≠ r → w'.heap[k]? = w.heap[k]?
theorem Keep2.refl (p r : Nat) (w : World) : Keep2 p r w w := ⟨rfl, rfl, rfl, Nat.le_refl _, fun _ _ _ _ => rfl⟩
theorem Keep2.trans {p r : Nat} {a b c : World} (h : Keep2 p r a b) (k : Keep2 p r b c) : Keep2 p r a c :=
  ⟨k.os.trans h.os, k.tape.trans h.tape, k.output.trans h.output, Nat.le_trans h.size k.size, fun i hi h1 h2 => (k.block i (Nat.lt_of_lt_of_le hi h.size) h1 h2).trans (h.block i hi h1 h2)⟩
theorem Keep2.ext {p r : Nat} {a b c : World} (h : Keep2 p r a b) (k : Ext b c) : Keep2 p r a c := h.trans ⟨k.os, k.tape, k.output, k.size, fun i hi _ _ => k.block i hi⟩
theorem Keep2.grown {p r : Nat} {a b c : World} (h : Keep2 p r a b) (k : b.grownBy c (some r)) : Keep2 p r a c := h.trans ⟨k.os, k.tape, k.output, k.size, fun i hi _ h2 => k.block i hi (by simpa using h2)⟩
theorem Keep2.grownP {p r : Nat} {a b c : World} (h : Keep2 p r a b) (k : b.grownBy c (some p)) : Keep2 p r a c := h.trans ⟨k.os, k.tape, k.output, k.size, fun i hi h1 _ => k.block i hi (by simpa using h1)⟩
theorem Keep2.alloc {p r : Nat} {a b : World} (h : Keep2 p r a b) (o : Obj) : Keep2 p r a (b.alloc o) := h.ext ((Ext.refl b).alloc o)
theorem Keep2.drew {p r : Nat} {a b : World} (h : Keep2 p r a b) : Keep2 p r a b.drew := h.ext (Ext.refl b).drew

theorem Try.und_map : Try.prog.underlying 90 = some (.map 3 88) := by kernel_rfl
theorem Try.und_i : Try.prog.underlying 3 = some (.int .i64) := by kernel_rfl
theorem agg_lk : AggOf Try.prog 88 3 := ⟨by kernel_rfl, by kernel_rfl⟩
theorem Try.zero_lk (w : World) : (zeroValue 88).run Try.prog w = .ok (lv (0, 0, 0)) w := by
  have h : (Try.prog.info? 88).map (·.zero) = some (some (lv (0, 0, 0))) := by kernel_rfl
  obtain ⟨i, hi, hz⟩ := Option.map_eq_some_iff.1 h
  simp [zeroValue, typeInfo, hi, hz]

section
variable {w : World} {ops : Array Oper} {rest : List Oper} {o : Oper} {a : Act} {Q : Exit → Act → World → Prop}
theorem wpList_lookOk (hgd : o.guard = none) (m x : Operand) (ho : o.op = .lookup 90 m x true) {r n : Nat} {f : Int → Option Lk} (h : MapAt w r (fun c => (f c).map lv) n) {c : Int} (hc : (Lit.int .i64 c).wf = true) (hm : a.eval m = .map (some r)) (hx : a.eval x = .int .i64 c) {y : Option Lk} (hy : f c = y)
    (hk : wpList Try.prog ops Q rest (a.put o.dst (.tuple #[lv (y.getD (0, 0, 0)), .bool y.isSome])) w) : wpList Try.prog ops Q (o :: rest) a w := by
  refine wpList_value hgd ?_ hk
  unfold execOp
  rw [ho]
  have := run_look Try.und_map Try.und_i h hc (Try.zero_lk w) true
  rw [hy] at this
  simp only [Sem.run_bind, Sem.run_pure, hm, hx, this, Result.andThen]
  cases y <;> rfl
theorem wpList_look (hgd : o.guard = none) (m x : Operand) (ho : o.op = .lookup 90 m x false) {r n : Nat} {f : Int → Option Lk} (h : MapAt w r (fun c => (f c).map lv) n) {c : Int} (hc : (Lit.int .i64 c).wf = true) (hm : a.eval m = .map (some r)) (hx : a.eval x = .int .i64 c) {y : Option Lk} (hy : f c = y)
    (hk : wpList Try.prog ops Q rest (a.put o.dst (lv (y.getD (0, 0, 0)))) w) : wpList Try.prog ops Q (o :: rest) a w := by
  refine wpList_value hgd ?_ hk
  unfold execOp
  rw [ho]
  have := run_look Try.und_map Try.und_i h hc (Try.zero_lk w) false
  rw [hy] at this
  simp only [Sem.run_bind, Sem.run_pure, hm, hx, this, Result.andThen]
  cases y <;> rfl
theorem wpList_lookSome (hgd : o.guard = none) (m x : Operand) (ho : o.op = .lookup 90 m x true) {r n : Nat} {f : Int → Option Lk} (h : MapAt w r (fun c => (f c).map lv) n) {c : Int} (hc : (Lit.int .i64 c).wf = true) (hm : a.eval m = .map (some r)) (hx : a.eval x = .int .i64 c) {y0 y1 y2 : Int} (hy : f c = some (y0, y1, y2))
    (hk : wpList Try.prog ops Q rest (a.put o.dst (.tuple #[.agg #[.int .u32 y0, .int .i64 y1, .int .i64 y2], .bool true])) w) : wpList Try.prog ops Q (o :: rest) a w := wpList_lookOk hgd m x ho h hc hm hx hy hk
theorem wpList_lookNone (hgd : o.guard = none) (m x : Operand) (ho : o.op = .lookup 90 m x true) {r n : Nat} {f : Int → Option Lk} (h : MapAt w r (fun c => (f c).map lv) n) {c : Int} (hc : (Lit.int .i64 c).wf = true) (hm : a.eval m = .map (some r)) (hx : a.eval x = .int .i64 c) (hy : f c = none)
    (hk : wpList Try.prog ops Q rest (a.put o.dst (.tuple #[.agg #[.int .u32 0, .int .i64 0, .int .i64 0], .bool false])) w) : wpList Try.prog ops Q (o :: rest) a w := wpList_lookOk hgd m x ho h hc hm hx hy hk
theorem wpList_upd (hgd : o.guard = none) (m x v : Operand) (ho : o.op = .mapUpdate 90 m x v) {r n : Nat} {f : Int → Option Lk} (h : MapAt w r (fun c => (f c).map lv) n) {c : Int} (hc : (Lit.int .i64 c).wf = true) (hm : a.eval m = .map (some r)) (hx : a.eval x = .int .i64 c) {l : Lk} (hv : a.eval v = lv l)
    (hk : ∀ w', MapAt w' r (fun c' => (updF f c (some l) c').map lv) (if (f c).isSome then n else n + 1) → w.grownBy w' (some r) → w'.heap.size = w.heap.size → wpList Try.prog ops Q rest (a.put o.dst undef) w') : wpList Try.prog ops Q (o :: rest) a w := by
  obtain ⟨w', hr, h1, h2, h3⟩ := run_upd Try.und_map Try.und_i h hc (lv l)
  refine wpList_skip hgd (w' := w') ?_ (hk w' ?_ h2 h3)
  · unfold execOp
    rw [ho]
    simp only [Sem.run_bind, Sem.run_pure, hm, hx, hv, hr, Result.andThen]
  · have e : (fun c' => (updF f c (some l) c').map lv) = updF (fun c => (f c).map lv) c (some (lv l)) := by
      funext c'
      by_cases h : c' = c
      · subst h; rw [updF_same, updF_same]; rfl
      · rw [updF_other _ _ h, updF_other _ _ h]
    rw [e]
    have e2 : ((f c).map lv).isSome = (f c).isSome := by cases f c <;> rfl
    rw [e2] at h1
    exact h1
theorem wpList_del (hgd : o.guard = none) (m x : Operand) (ho : o.op = .call { callee := .builtin .delete, args := #[m, x], argTypes := #[90, 3] }) {r n : Nat} {f : Int → Option Lk} (h : MapAt w r (fun c => (f c).map lv) n) {c : Int} (hc : (Lit.int .i64 c).wf = true) (hm : a.eval m = .map (some r)) (hx : a.eval x = .int .i64 c)
    (hk : ∀ w' v, MapAt w' r (fun c' => (updF f c none c').map lv) (if (f c).isSome then n - 1 else n) → w.grownBy w' (some r) → w'.heap.size = w.heap.size → wpList Try.prog ops Q rest (a.put o.dst v) w') : wpList Try.prog ops Q (o :: rest) a w := by
  obtain ⟨w', hr, h1, h2, h3⟩ := run_del Try.und_map Try.und_i h hc o.type
  refine wpList_plain hgd fun K hK => ?_
  unfold Oper.wp execOp
  simp only [ho, resolve, invoke, builtin, Sem.run_bind, Sem.run_pure, Result.andThen_ok, List.map_toArray, List.map_cons, List.map_nil, hm, hx, hr]
  refine hK _ _ (hk w' _ ?_ h2 h3)
  have e : (fun c' => (updF f c none c').map lv) = updF (fun c => (f c).map lv) c none := by
    funext c'
    by_cases h : c' = c
    · subst h; rw [updF_same, updF_same]; rfl
    · rw [updF_other _ _ h, updF_other _ _ h]
  rw [e]
  have e2 : ((f c).map lv).isSome = (f c).isSome := by cases f c <;> rfl
  rw [e2] at h1
  exact h1
end

end Go.Proofs.Ytcjeclddpkinkaa
