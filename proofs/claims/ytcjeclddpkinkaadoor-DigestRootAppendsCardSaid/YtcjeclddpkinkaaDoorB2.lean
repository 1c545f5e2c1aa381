/- Laws for the walk, over any program: whole arrays and structs that are loaded, stored, boxed and appended with their cells under one name. -/
import Derived.Test.YtcjeclddpkinkaaDoorB0
set_option linter.unusedVariables false
set_option linter.unusedSimpArgs false
namespace Go.Proofs.YtcjeclddpkinkaaDoor
open Go.RowKit

section
variable {P : Program}

theorem wpList_skip {w w' : World} {ops : Array Oper} {rest : List Oper} {o : Oper} {a : Act} {Q : Exit → Act → World → Prop} (hgd : o.guard = none)
    (hrun : (execOp a.eval o).run P w = .ok .skip w') (h : wpList P ops Q rest (a.put o.dst undef) w') : wpList P ops Q (o :: rest) a w := by
  refine wpList_plain hgd fun K hK => ?_
  unfold Oper.wp
  rw [hrun]
  exact hK _ _ h

/-- of a type with several cells -/
def AggOf (P : Program) (t : TypeId) (n : Nat) : Prop := (P.underlying t).map (fun d => match d with | .struct _ | .array _ _ => true | _ => false) = some true ∧ (P.info? t).map (·.size) = some n
theorem AggOf.parts {t : TypeId} {n : Nat} (h : AggOf P t n) : ∃ d i, P.underlying t = some d ∧ (match d with | .struct _ | .array _ _ => true | _ => false) = true ∧ P.info? t = some i ∧ i.size = n := by
  obtain ⟨d, hd, h1⟩ := Option.map_eq_some_iff.1 h.1
  obtain ⟨i, hi, h2⟩ := Option.map_eq_some_iff.1 h.2
  exact ⟨d, i, hd, h1, hi, h2⟩

theorem run_loadAgg {t : TypeId} {n : Nat} (hT : AggOf P t n) (w : World) (b o : Nat) (cs : List Value) (hl : cs.length = n) (hc : ∀ j u, cs[j]? = some u → w.cell? ⟨b, o + j, none⟩ = some u) :
    (Instr.loadAt t (.pointer (some ⟨b, o, none⟩))).run P w = .ok (.agg cs.toArray) w := by
  obtain ⟨d, i, hd, h1, hi, hs⟩ := hT.parts
  have hld := run_loadCells_list (P := P) (w := w) ⟨b, o, none⟩ cs (fun j v hj => by rw [Addr.add_lit]; exact hc j v hj)
  rw [hl] at hld
  have hagg : (isAgg t).run P w = .ok true w := by
    cases d <;> simp_all [isAgg, run_underlying hd]
  simp [Instr.loadAt, Instr.sureAddr, loadVar, hagg, sizeOf, typeInfo, hi, hs, hld, Result.andThen]

theorem wpList_loadAgg {t : TypeId} {n : Nat} (hT : AggOf P t n) (w : World) {ops : Array Oper} {rest : List Oper} {o : Oper} {a : Act} {Q : Exit → Act → World → Prop} (hgd : o.guard = none) (x : Operand) (ho : o.op = .load t x)
    (b off : Nat) (hx : a.eval x = .pointer (some ⟨b, off, none⟩)) (cs : List Value) (hl : cs.length = n) (hc : ∀ j u, cs[j]? = some u → w.cell? ⟨b, off + j, none⟩ = some u)
    (h : wpList P ops Q rest (a.put o.dst (.agg cs.toArray)) w) : wpList P ops Q (o :: rest) a w := by
  refine wpList_value hgd ?_ h
  unfold execOp
  rw [ho]
  simp only [Sem.run_bind, Sem.run_pure, hx, run_loadAgg hT w b off cs hl hc, Result.andThen]

theorem run_storeAgg {t : TypeId} {n : Nat} (hT : AggOf P t n) (w : World) (g off : Nat) (ty : TypeId) (cur : Array Value) (hg : w.heap[g]? = some (.cells cur ty (0, 0))) (cs : List Value) (hl : cs.length = n) (h1 : ∀ u ∈ cs, u.oneCell' = true) (hfit : off + n ≤ cur.size) :
    (Instr.storeAt t (.pointer (some ⟨g, off, none⟩)) (.agg cs.toArray)).run P w = .ok () (w.setRow g (cur.toList.take off ++ cs ++ cur.toList.drop (off + n)).toArray) := by
  obtain ⟨d, i, hd, h1', hi, hs⟩ := hT.parts
  have hst := run_storeCells_at P g off ty cs 0 cur w hg (by omega) h1
  simp only [Nat.add_zero, hl] at hst
  simp [Instr.storeAt, Instr.sureAddr, storeVar, Value.cells, hl, sizeOf, typeInfo, hi, hs, hst, Result.andThen]

theorem setRow_alloc (w : World) (cur cs : Array Value) (ty : TypeId) : (w.alloc (.cells cur ty)).setRow w.heap.size cs = w.alloc (.cells cs ty) := by
  simp only [World.setRow, World.alloc]
  congr 1
  apply Array.ext_getElem?
  intro j
  rw [Array.getElem?_modify, Array.getElem?_push, Array.getElem?_push]
  by_cases h : j = w.heap.size
  · subst h; simp
  · rw [if_neg h, if_neg (fun e => h e.symm), if_neg h]

/-- a store of a whole value into the variable that was laid last -/
theorem wpList_storeNew {t : TypeId} {n : Nat} (hT : AggOf P t n) (w : World) (cur : Array Value) (ty : TypeId) {ops : Array Oper} {rest : List Oper} {o : Oper} {a : Act} {Q : Exit → Act → World → Prop} (hgd : o.guard = none) (p x : Operand) (ho : o.op = .store t p x)
    (hp : a.eval p = .pointer (some ⟨w.heap.size, 0, none⟩)) (cs : List Value) (hx : a.eval x = .agg cs.toArray) (hl : cs.length = n) (hcur : cur.size = n) (h1 : ∀ u ∈ cs, u.oneCell' = true)
    (h : wpList P ops Q rest (a.put o.dst undef) (w.alloc (.cells cs.toArray ty))) : wpList P ops Q (o :: rest) a (w.alloc (.cells cur ty)) := by
  refine wpList_skip hgd ?_ h
  have hr := run_storeAgg hT (w.alloc (.cells cur ty)) w.heap.size 0 ty cur (heap_alloc_new w _) cs hl h1 (by omega)
  rw [List.take_zero, List.nil_append, Nat.zero_add, List.drop_of_length_le (by rw [Array.length_toList]; omega), List.append_nil, setRow_alloc] at hr
  unfold execOp
  rw [ho]
  simp only [Sem.run_bind, Sem.run_pure, hp, hx, hr, Result.andThen]

/-- a parameter of several cells that moves into a variable -/
theorem wpList_boxAgg (t : TypeId) (w : World) {ops : Array Oper} {rest : List Oper} {o : Oper} {a : Act} {Q : Exit → Act → World → Prop} (hgd : o.guard = none) (x : Operand) (ho : o.op = .box t x) (cs : List Value) (hx : a.eval x = .agg cs.toArray)
    (h : wpList P ops Q rest (a.put o.dst (.pointer (some ⟨w.heap.size, 0, none⟩))) (w.alloc (.cells cs.toArray t))) : wpList P ops Q (o :: rest) a w := by
  refine wpList_value hgd ?_ h
  unfold execOp
  rw [ho]
  simp [Instr.box, newVar, newRow, newObj, hx, Value.cells, Result.andThen]
  rfl

theorem foldl_set (cs : List Value) : ∀ (k : Nat) (acc : Array Value), k + cs.length ≤ acc.size →
    (cs.zipIdx k).foldl (fun (r : Array Value) (x : Value × Nat) => r.setIfInBounds (0 + x.2) x.1) acc = (acc.toList.take k ++ cs ++ acc.toList.drop (k + cs.length)).toArray := by
  induction cs with
  | nil => intro k acc _; simp
  | cons c cs ih =>
    intro k acc hk
    simp only [List.length_cons] at hk
    simp only [List.zipIdx_cons, List.foldl_cons]
    rw [ih (k + 1) _ (by simp; omega)]
    congr 1
    simp only [Nat.zero_add, Array.toList_setIfInBounds, List.length_cons]
    apply List.ext_getElem?
    intro j
    simp only [List.getElem?_append, List.length_append, List.length_take, List.length_set, Array.length_toList, List.length_cons, List.getElem?_take, List.getElem?_drop, List.getElem?_set]
    by_cases h1 : j < k
    · rw [if_pos (by omega), if_pos (by omega), if_pos (by omega), if_neg (by omega), if_pos (by omega), if_pos (by omega), if_pos (by omega)]
    · by_cases h2 : j = k
      · subst h2
        rw [if_pos (by omega), if_pos (by omega), if_pos (by omega), if_pos rfl, if_pos (by omega)]
        simp [show min j acc.size = j from by omega]
      · by_cases h3 : j < k + (cs.length + 1)
        · rw [if_pos (by omega), if_neg (by omega), if_pos (by omega), if_neg (by omega)]
          rw [show j - min k acc.size = (j - min (k + 1) acc.size) + 1 from by omega, List.getElem?_cons_succ]
        · rw [if_neg (by omega), if_neg (by omega)]
          rw [if_neg (by omega)]
          congr 1
          omega

/-- a new row of one element of several cells -/
theorem wpList_buildOne (w : World) {ops : Array Oper} {rest : List Oper} {o : Oper} {a : Act} {Q : Exit → Act → World → Prop} (hgd : o.guard = none) (t e : TypeId) (i : TypeInfo) (z : Value) (x : Operand) (ho : o.op = .buildSlice t 1 #[(0, x)])
    (ht : P.underlying t = some (.slice e)) (hi : P.info? e = some i) (hz : i.zero = some z) (hs0 : 0 < i.size) (hs1 : i.size ≤ 16777216) (cs : List Value) (hx : (a.eval x).cells = cs.toArray) (hl : cs.length = i.size)
    (h : wpList P ops Q rest (a.put o.dst (.slice (some ⟨w.heap.size, 0, none⟩) 1 1)) (w.alloc (.cells cs.toArray e))) : wpList P ops Q (o :: rest) a w := by
  refine wpList_value hgd ?_ h
  unfold execOp
  rw [ho]
  have hb : ¬ (1 * i.size > 2 ^ 24) := by simp; omega
  have hfill : Instr.fill (fun k => some (k * i.size, i.size)) ((Array.range (1 * i.size)).map (fun j => z.cells[j % z.cells.size]!)) [(0, a.eval x)] = some cs.toArray := by
    simp only [Instr.fill, hx, Nat.zero_mul]
    rw [if_neg (by simp [hl])]
    congr 1
    have := foldl_set cs 0 ((Array.range (1 * i.size)).map (fun j => z.cells[j % z.cells.size]!)) (by simp [hl])
    have e1 : (cs.toArray.zipIdx).foldl (fun (r : Array Value) (x : Value × Nat) => r.setIfInBounds (0 + x.2) x.1) ((Array.range (1 * i.size)).map (fun j => z.cells[j % z.cells.size]!)) = (cs.zipIdx 0).foldl (fun (r : Array Value) (x : Value × Nat) => r.setIfInBounds (0 + x.2) x.1) ((Array.range (1 * i.size)).map (fun j => z.cells[j % z.cells.size]!)) := by
      rw [← Array.foldl_toList, Array.toList_zipIdx]
    rw [e1, this]
    simp [hl]
  have hne : ¬ (1 * i.size = 0) := by omega
  simp only [Nat.one_mul] at hb hfill hne
  simp [Instr.buildSlice, run_underlying ht, sizeOf, typeInfo, hi, hb, hne, zeroValue, hz, hfill, newRow, newObj, Result.andThen, -gt_iff_lt, -Nat.not_lt]
  rfl
end

/-! ### a block whose cells are known whole -/
/-- block B is a row of just these cells, none of them frozen -/
def Blk (w : World) (B : Nat) (t : TypeId) (cs : List Value) : Prop := w.heap[B]? = some (.cells cs.toArray t (0, 0))
theorem Blk.lt {w : World} {B : Nat} {t : TypeId} {cs : List Value} (h : Blk w B t cs) : B < w.heap.size := (Array.getElem?_eq_some_iff.1 h).1
theorem Blk.cell {w : World} {B : Nat} {t : TypeId} {cs : List Value} (h : Blk w B t cs) (j : Nat) : w.cell? ⟨B, j, none⟩ = cs[j]? := by
  unfold Blk at h
  simp [World.cell?, h]
theorem Blk.free {w : World} {B : Nat} {t : TypeId} {cs : List Value} (h : Blk w B t cs) (j : Nat) : w.frozen? ⟨B, j, none⟩ = false := by
  unfold Blk at h
  simp [World.frozen?, h]
theorem Blk.new (w : World) (cs : List Value) (t : TypeId) : Blk (w.alloc (.cells cs.toArray t)) w.heap.size t cs := heap_alloc_new w _
theorem Blk.set {w : World} {B : Nat} {t : TypeId} {cs : List Value} (h : Blk w B t cs) (j : Nat) (v : Value) : Blk (w.setCell ⟨B, j, none⟩ v) B t (cs.set j v) := by
  unfold Blk at h ⊢
  simp [World.setCell, Array.getElem?_modify, h]
theorem Blk.alloc {w : World} {B : Nat} {t : TypeId} {cs : List Value} (h : Blk w B t cs) (o : Obj) : Blk (w.alloc o) B t cs := by
  have := h.lt
  unfold Blk at h ⊢
  rw [Below.heap_alloc _ _ _ this]; exact h
theorem Blk.grown {w w' : World} {B : Nat} {t : TypeId} {cs : List Value} (h : Blk w B t cs) {row : Option Nat} (hg : w.grownBy w' row) (hne : some B ≠ row) : Blk w' B t cs := by
  have := h.lt
  unfold Blk at h ⊢
  rw [hg.block B this hne]; exact h
theorem Blk.below {w w' : World} {B : Nat} {t : TypeId} {cs : List Value} (h : Blk w B t cs) (hb : Below w.heap.size w w') : Blk w' B t cs := by
  have := h.lt
  unfold Blk at h ⊢
  rw [hb.block B this]; exact h
theorem Blk.drewN {w : World} {B : Nat} {t : TypeId} {cs : List Value} (h : Blk w B t cs) (n : Nat) : Blk (w.drewN n) B t cs := h
theorem Blk.drew {w : World} {B : Nat} {t : TypeId} {cs : List Value} (h : Blk w B t cs) : Blk w.drew B t cs := h
theorem Blk.rd {w : World} {B : Nat} {t : TypeId} {cs : List Value} (h : Blk w B t cs) : Rd w (some ⟨B, 0, none⟩) cs := fun _ => ⟨B, 0, rfl, fun j u hu => by rw [Nat.zero_add, h.cell]; exact hu⟩
theorem Blk.setOther {w : World} {B : Nat} {t : TypeId} {cs : List Value} (h : Blk w B t cs) {p : Addr} (hne : p.block ≠ B) (v : Value) : Blk (w.setCell p v) B t cs := by
  unfold Blk at h ⊢
  rw [Below.heap_setCell _ _ _ _ (Ne.symm hne)]; exact h
theorem grownBy_setCell (w : World) (B o : Nat) (u : Value) : w.grownBy (w.setCell ⟨B, o, none⟩ u) (some B) :=
  ⟨rfl, rfl, rfl, by simp [World.setCell], fun k hk hne => Below.heap_setCell w _ _ _ (by intro e; exact hne (by rw [e]))⟩
theorem grownBy_drewN {w w' : World} {r : Option Nat} (h : w.grownBy w' r) (n : Nat) : w.grownBy (w'.drewN n) r := ⟨h.os, h.tape, h.output, h.size, h.block⟩
theorem grownBy_trans {a b c : World} {r : Option Nat} (h : a.grownBy b r) (k : b.grownBy c r) : a.grownBy c r :=
  ⟨k.os.trans h.os, k.tape.trans h.tape, k.output.trans h.output, Nat.le_trans h.size k.size, fun i hi hn => (k.block i (Nat.lt_of_lt_of_le hi h.size) hn).trans (h.block i hi hn)⟩
theorem grownBy_below {a b : World} (h : Below a.heap.size a b) (r : Option Nat) : a.grownBy b r := ⟨h.os, h.tape, h.output, h.size, fun i hi _ => h.block i hi⟩

/-- an array that is filled from its front -/
theorem fill_set {α : Type} {x : List α} {j n : Nat} {z c : α} (hx : x.length = n) (hj : j < n) (hc : x[j]? = some c) :
    (x.take j ++ List.replicate (n - j) z).set j c = x.take (j + 1) ++ List.replicate (n - (j + 1)) z := by
  have hl : (x.take j).length = j := by rw [List.length_take]; omega
  rw [List.set_append_right _ _ (by omega), hl, Nat.sub_self, List.take_add_one, hc, show n - j = (n - (j + 1)) + 1 from by omega, List.replicate_succ, List.set_cons_zero, List.append_assoc]
  rfl

end Go.Proofs.YtcjeclddpkinkaaDoor
