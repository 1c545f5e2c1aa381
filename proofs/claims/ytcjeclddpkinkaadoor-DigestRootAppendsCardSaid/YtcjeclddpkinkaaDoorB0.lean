/- Small lemmas on memory, over any program: slices that are read whatever their address, rows that the call owns, append with one law. -/
import Derived.WalkKit
import Derived.Carry
import Derived.Lib.Hide
import Derived.Lib.AppendStr
import Derived.Deep.LoopGhost
import Derived.Maps.AppendAt
import Derived.Deep.Draws
import Derived.Laws.AppendOwnNone
namespace Go.Proofs.YtcjeclddpkinkaaDoor
open Go.RowKit

/-! ### Values of lists -/
def u8s (l : List UInt8) : List Value := l.map fun c => .int .u8 (c.toNat : Int)
def i64s (l : List Int) : List Value := l.map fun n => .int .i64 n
theorem u8s_length (l : List UInt8) : (u8s l).length = l.length := by simp [u8s]
theorem i64s_length (l : List Int) : (i64s l).length = l.length := by simp [i64s]
theorem u8s_append (l m : List UInt8) : u8s (l ++ m) = u8s l ++ u8s m := by simp [u8s]
theorem i64s_append (l m : List Int) : i64s (l ++ m) = i64s l ++ i64s m := by simp [i64s]
theorem u8s_one (l : List UInt8) : ∀ u ∈ u8s l, u.oneCell' = true := by
  intro u hu; obtain ⟨_, _, rfl⟩ := List.mem_map.1 hu; rfl
theorem i64s_one (l : List Int) : ∀ u ∈ i64s l, u.oneCell' = true := by
  intro u hu; obtain ⟨_, _, rfl⟩ := List.mem_map.1 hu; rfl
theorem u8s_at {l : List UInt8} {j : Nat} (h : j < l.length) : (u8s l)[j]? = some (.int .u8 ((l.getD j 0).toNat : Int)) := by
  simp [u8s, h]
theorem i64s_at {l : List Int} {j : Nat} (h : j < l.length) : (i64s l)[j]? = some (.int .i64 (l.getD j 0)) := by
  simp [i64s, h]

/-! ### A slice that is read -/
/-- The cells xs lie behind the address A (an address is asked for where there is a cell). -/
def Rd (w : World) (A : Option Addr) (xs : List Value) : Prop :=
  0 < xs.length → ∃ b o, A = some ⟨b, o, none⟩ ∧ ∀ j u, xs[j]? = some u → w.cell? ⟨b, o + j, none⟩ = some u

theorem Rd.nil (w : World) (A : Option Addr) : Rd w A [] := fun h => by simp at h

theorem Rd.add {w : World} {a : Addr} {xs : List Value} (h : Rd w (some a) xs) : ∀ j u, xs[j]? = some u → w.cell? (a.add j) = some u := by
  intro j u hu
  have hlt := (List.getElem?_eq_some_iff.1 hu).1
  obtain ⟨b, o, e, hc⟩ := h (by omega)
  obtain rfl := Option.some.inj e
  rw [Addr.add_lit]
  exact hc j u hu

theorem lt_of_cell {w : World} {b o : Nat} {v : Value} (h : w.cell? ⟨b, o, none⟩ = some v) : b < w.heap.size := World.block_lt_of_cell? w ⟨b, o, none⟩ h

theorem Rd.of_block {w w' : World} {A : Option Addr} {xs : List Value} (h : Rd w A xs) (hk : ∀ b o, A = some ⟨b, o, none⟩ → b < w.heap.size → w'.heap[b]? = w.heap[b]?) : Rd w' A xs := by
  intro hl
  obtain ⟨b, o, e, hc⟩ := h hl
  refine ⟨b, o, e, fun j u hu => ?_⟩
  have := hc j u hu
  rw [World.cell?_of_block (w := w) (a := ⟨b, o + j, none⟩) (hk b o e (lt_of_cell this))]
  exact this

theorem Rd.below {w w' : World} {A : Option Addr} {xs : List Value} (h : Rd w A xs) (hb : Below w.heap.size w w') : Rd w' A xs :=
  h.of_block fun b _ _ hlt => hb.block b hlt

theorem Rd.alloc {w : World} {A : Option Addr} {xs : List Value} (h : Rd w A xs) (o : Obj) : Rd (w.alloc o) A xs :=
  h.of_block fun b _ _ hlt => Below.heap_alloc w o b hlt

theorem Rd.drew {w : World} {A : Option Addr} {xs : List Value} (h : Rd w A xs) : Rd w.drew A xs := h

theorem Rd.drewN {w : World} {A : Option Addr} {xs : List Value} (h : Rd w A xs) (n : Nat) : Rd (w.drewN n) A xs := h

theorem Rd.grown {w w' : World} {row : Option Nat} {A : Option Addr} {xs : List Value} (h : Rd w A xs) (hg : w.grownBy w' row) (hne : ∀ b o, A = some ⟨b, o, none⟩ → some b ≠ row) : Rd w' A xs :=
  h.of_block fun b o e hlt => hg.block b hlt (hne b o e)

/-- a part of it: Go's x[l:h], element size s (l in cells) -/
theorem Rd.part {w : World} {A : Option Addr} {xs : List Value} (h : Rd w A xs) (l n : Nat) : Rd w (A.map (·.add l)) ((xs.drop l).take n) := by
  intro hl
  have h1 : l < xs.length := by
    simp only [List.length_take, List.length_drop] at hl; omega
  obtain ⟨b, o, e, hc⟩ := h (by omega)
  subst e
  refine ⟨b, o + l, by simp [Addr.add_lit], fun j u hu => ?_⟩
  rw [List.getElem?_take] at hu
  split at hu
  · rw [List.getElem?_drop] at hu
    rw [Nat.add_assoc]
    exact hc (l + j) u hu
  · cases hu

theorem Rd.congr {w : World} {A B : Option Addr} {xs : List Value} (h : Rd w A xs) (e : 0 < xs.length → A = B) : Rd w B xs := by
  intro hl
  have := e hl
  subst this
  exact h hl

/-- the address as the model writes it: the old one where the cut stands at the capacity's end -/
theorem Rd.cut {w : World} {A : Option Addr} {xs : List Value} (h : Rd w A xs) {n l m cap s : Nat} (hl : l + m ≤ n) (hc : n ≤ cap) :
    Rd w (if cap = l then A else A.map (·.add (l * s))) ((xs.drop (l * s)).take (m * s)) := by
  refine (h.part (l * s) (m * s)).congr fun hp => ?_
  have : 0 < m := by
    rcases Nat.eq_zero_or_pos m with h0 | h0
    · subst h0; simp at hp
    · exact h0
  rw [if_neg (by omega)]

/-! ### Rows that the call owns -/
theorem own_slice {w : World} {base : Nat} {e : TypeId} {size : Nat} {v : Value} {n : Nat} {xs : List Value} (h : w.ownsRow base e size v n xs) :
    ∃ A cap, v = .slice A n cap ∧ n ≤ cap ∧ cap ≤ maxLen ∧ Rd w A xs := by
  rcases h.2 with ⟨rfl, rfl⟩ | ⟨g, cap, cur, rfl, hb, hg, hn, hc, hs, ht⟩
  · have hx : xs = [] := List.eq_nil_of_length_eq_zero (by simpa using h.1)
    subst hx
    exact ⟨none, 0, rfl, Nat.le_refl _, Nat.zero_le _, Rd.nil _ _⟩
  · refine ⟨some ⟨g, 0, none⟩, cap, rfl, hn, hc, fun _ => ⟨g, 0, rfl, fun j u hu => ?_⟩⟩
    rw [Nat.zero_add, cell_of_row w g j cur e (0, 0) hg]
    rw [← ht, List.getElem?_take] at hu
    split at hu
    · simpa using hu
    · cases hu

theorem own_rebase {w : World} {base base' : Nat} {e : TypeId} {size : Nat} {v : Value} {n : Nat} {xs : List Value} (h : w.ownsRow base e size v n xs) (hb : base' ≤ base) : w.ownsRow base' e size v n xs := by
  refine ⟨h.1, ?_⟩
  rcases h.2 with h2 | ⟨g, cap, cur, hv, hg, hh, r⟩
  · exact Or.inl h2
  · exact Or.inr ⟨g, cap, cur, hv, by omega, hh, r⟩

theorem own_below {w w1 : World} {base : Nat} {e : TypeId} {size n : Nat} {v : Value} {xs : List Value} (h : w.ownsRow base e size v n xs) (hb : Below w.heap.size w w1) : w1.ownsRow base e size v n xs :=
  h.kept (row := none) ⟨hb.os, hb.tape, hb.output, hb.size, fun i hi _ => hb.block i hi⟩ (by cases v.ownBlock <;> simp)

/-! ### Below -/
theorem below_then {B : Nat} {w w1 w2 : World} (h : Below B w w1) (hB : B ≤ w1.heap.size) (k : Below w1.heap.size w1 w2) : Below B w w2 :=
  h.trans (k.mono hB)

/-! ### Draws -/
/-- the world is the old one, some orders having been drawn -/
def Drawn (w w' : World) : Prop := ∃ n, w' = w.drewN n
theorem Drawn.refl (w : World) : Drawn w w := ⟨0, rfl⟩
theorem Drawn.step {w w1 : World} (h : Drawn w w1) (n : Nat) : Drawn w (w1.drewN n) := by
  obtain ⟨m, rfl⟩ := h
  exact ⟨m + n, World.drewN_drewN ..⟩
theorem Drawn.trans {w w1 w2 : World} (h : Drawn w w1) (k : Drawn w1 w2) : Drawn w w2 := by
  obtain ⟨n, rfl⟩ := k
  exact h.step n
theorem Drawn.one {w w1 : World} (h : Drawn w w1) : Drawn w w1.drew := h.step 1
theorem below_drewN {B : Nat} {w w1 : World} (h : Below B w w1) (n : Nat) : Below B w (w1.drewN n) := ⟨h.os, h.tape, h.output, h.size, h.block⟩
theorem Drawn.below {w w1 : World} (h : Drawn w w1) (B : Nat) : Below B w w1 := by
  obtain ⟨n, rfl⟩ := h
  exact below_drewN (Below.refl _ _) n

/-! ### append: one law, nil or not -/
theorem run_app {P : Program} (w : World) (base : Nat) (t ty e : TypeId) (i : TypeInfo) (z : Value) (size bytes : Nat) (ht : P.underlying t = some (.slice e)) (hi : P.info? e = some i) (hz : i.zero = some z)
    (hsize : i.size = size) (hby : i.bytes = bytes) (hzs : z.cells.size = size) (hsz : 0 < size)
    (v : Value) (n : Nat) (xs : List Value) (hown : w.ownsRow base e size v n xs)
    (A : Option Addr) (m c : Nat) (news : List Value) (hl : news.length = m * size) (hr : Rd w A news) (h1 : ∀ u ∈ news, u.oneCell' = true)
    (hbytes : (n + m) * bytes ≤ 140737488355328) (hb0 : 0 < bytes) (hbase : base ≤ w.heap.size) :
    ∃ v' w', (Builtin.append_ #[t, t] ty #[v, .slice A m c]).run P w = .ok v' w' ∧ w'.ownsRow base e size v' (n + m) (xs ++ news) ∧ w.grownBy w' v.ownBlock ∧
      (v' = .slice none 0 0 ↔ v = .slice none 0 0 ∧ m = 0) := by
  have h63 : n + m ≤ maxLen := by
    have : n + m ≤ (n + m) * bytes := Nat.le_mul_of_pos_right _ hb0
    simp only [maxLen]; omega
  cases A with
  | some a => exact run_append_own w base t ty e i z size bytes ht hi hz hsize hby hzs hsz v n xs hown a m c news hl hr.add h1 h63 hbytes hbase
  | none =>
    have hn0 : news = [] := by
      cases news with
      | nil => rfl
      | cons x r => obtain ⟨b, o, e, _⟩ := hr (by simp); cases e
    subst hn0
    have hm : m = 0 := by
      have : m * size = 0 := by simpa using hl.symm
      rcases Nat.mul_eq_zero.1 this with h | h
      · exact h
      · omega
    subst hm
    refine ⟨v, w, ?_, by simpa using hown, World.grownBy.refl _ _, by simp⟩
    obtain ⟨A', cap, rfl, hnc, _, _⟩ := own_slice hown
    cases A' with
    | none => simp [Builtin.append_, run_underlying ht, sizeOf, typeInfo, hi, Builtin.lenOf, Builtin.firstCells, hnc]
    | some a => simp [Builtin.append_, run_underlying ht, sizeOf, typeInfo, hi, Builtin.lenOf, Builtin.firstCells, hnc, storeCells, Result.andThen]

theorem wpList_app {P : Program} (w : World) {ops : Array Oper} {rest : List Oper} {o : Oper} {a : Act} {Q : Exit → Act → World → Prop} (hgd : o.guard = none) (s x : Operand) (t : TypeId)
    (ho : o.op = .call { callee := .builtin .append, args := #[s, x], argTypes := #[t, t] })
    (base : Nat) (e : TypeId) (i : TypeInfo) (z : Value) (size bytes : Nat) (ht : P.underlying t = some (.slice e)) (hi : P.info? e = some i) (hz : i.zero = some z)
    (hsize : i.size = size) (hby : i.bytes = bytes) (hzs : z.cells.size = size) (hsz : 0 < size)
    (v : Value) (n : Nat) (xs : List Value) (hs : a.eval s = v) (hown : w.ownsRow base e size v n xs)
    (A : Option Addr) (m c : Nat) (news : List Value) (hx : a.eval x = .slice A m c) (hl : news.length = m * size) (hr : Rd w A news) (h1 : ∀ u ∈ news, u.oneCell' = true)
    (hbytes : (n + m) * bytes ≤ 140737488355328) (hb0 : 0 < bytes) (hbase : base ≤ w.heap.size)
    (h : ∀ v' w', w'.ownsRow base e size v' (n + m) (xs ++ news) → w.grownBy w' v.ownBlock → (v' = .slice none 0 0 ↔ v = .slice none 0 0 ∧ m = 0) → wpList P ops Q rest (a.put o.dst v') w') : wpList P ops Q (o :: rest) a w := by
  refine wpList_plain hgd fun K hK => ?_
  obtain ⟨v', w', hr', h2, h3, h4⟩ := run_app (P := P) w base t o.type e i z size bytes ht hi hz hsize hby hzs hsz v n xs hown A m c news hl hr h1 hbytes hb0 hbase
  unfold Oper.wp execOp
  simp only [ho, resolve, invoke, builtin, Sem.run_bind, Sem.run_pure, Result.andThen_ok, List.map_toArray, List.map_cons, List.map_nil, hs, hx, hr']
  exact hK _ _ (h v' w' h2 h3 h4)

/-! ### slicing: the address as a new name -/
theorem wpList_value {P : Program} {w w' : World} {ops : Array Oper} {rest : List Oper} {o : Oper} {a : Act} {Q : Exit → Act → World → Prop} {v : Value} (hgd : o.guard = none)
    (hrun : (execOp a.eval o).run P w = .ok (.value v) w') (h : wpList P ops Q rest (a.put o.dst v) w') : wpList P ops Q (o :: rest) a w := by
  refine wpList_plain hgd fun K hK => ?_
  unfold Oper.wp
  rw [hrun]
  exact hK _ _ h

theorem run_slice_all3 {P : Program} (w : World) (t e : TypeId) (i : TypeInfo) (ht : P.underlying t = some (.slice e)) (hi : P.info? e = some i) (A : Option Addr) (n cap : Nat) (lo hi' : Option Value) (l h : Nat)
    (hlo : (lo = none ∧ l = 0) ∨ ∃ k, lo = some (.int k (l : Int))) (hhi : (hi' = none ∧ h = n) ∨ ∃ k, hi' = some (.int k (h : Int))) (hlh : l ≤ h) (hhc : h ≤ cap) :
    (Instr.sliceAt t (.slice A n cap) lo hi' none).run P w = .ok (.slice (if cap = l then A else A.map (·.add (l * i.size))) (h - l) (cap - l)) w := by
  have hq : P.elem t = e := by simp [Program.elem, ht]
  have ht' : P.underlying t = some (.slice (P.elem t)) := by rw [hq]; exact ht
  rw [run_sliceAt_slice w t _ _ _ _ ht']
  rcases hlo with ⟨rfl, rfl⟩ | ⟨k1, rfl⟩ <;> rcases hhi with ⟨rfl, rfl⟩ | ⟨k2, rfl⟩
  · rw [run_slice_all w t A h cap ht', hq]
    simp [sizeOf, typeInfo, hi, sliced, Result.andThen]
  · rw [run_slice_h w t A n cap ht' k2 (h : Int) (by omega) (by omega), hq]
    simp [sizeOf, typeInfo, hi, sliced, Result.andThen]
  · rw [run_slice_l w t A h cap ht' k1 (l : Int) (by omega) (by omega), hq]
    simp [sizeOf, typeInfo, hi, sliced, Result.andThen]
  · rw [run_slice_lh w t A n cap ht' k1 k2 (l : Int) (h : Int) (by omega) (by omega) (by omega), hq]
    simp [sizeOf, typeInfo, hi, sliced, Result.andThen]

theorem wpList_slice {P : Program} (w : World) {ops : Array Oper} {rest : List Oper} {o : Oper} {a : Act} {Q : Exit → Act → World → Prop} (hgd : o.guard = none) (x : Operand) (lo hi' : Option Operand) (t : TypeId)
    (ho : o.op = .slice t x lo hi' none) (e : TypeId) (i : TypeInfo) (size : Nat) (ht : P.underlying t = some (.slice e)) (hi : P.info? e = some i) (hsz : i.size = size)
    (A : Option Addr) (n cap : Nat) (xs : List Value) (hx : a.eval x = .slice A n cap) (hr : Rd w A xs) (hn : n ≤ cap) (l h : Nat)
    (hlo : (lo = none ∧ l = 0) ∨ ∃ p k, lo = some p ∧ a.eval p = .int k (l : Int)) (hhi : (hi' = none ∧ h = n) ∨ ∃ p k, hi' = some p ∧ a.eval p = .int k (h : Int)) (hlh : l ≤ h) (hhn : h ≤ n)
    (hK : ∀ A', Rd w A' ((xs.drop (l * size)).take ((h - l) * size)) → wpList P ops Q rest (a.put o.dst (.slice A' (h - l) (cap - l))) w) : wpList P ops Q (o :: rest) a w := by
  subst hsz
  refine wpList_value (w' := w) hgd ?_ (hK _ (hr.cut (n := n) (l := l) (m := h - l) (cap := cap) (s := i.size) (by omega) hn))
  unfold execOp
  rw [ho]
  have h1 := run_slice_all3 (P := P) w t e i ht hi A n cap (lo.map a.eval) (hi'.map a.eval) l h
    (by rcases hlo with ⟨rfl, rfl⟩ | ⟨p, k, rfl, hp⟩
        · exact .inl ⟨rfl, rfl⟩
        · exact .inr ⟨k, by rw [Option.map_some, hp]⟩)
    (by rcases hhi with ⟨rfl, rfl⟩ | ⟨p, k, rfl, hp⟩
        · exact .inl ⟨rfl, rfl⟩
        · exact .inr ⟨k, by rw [Option.map_some, hp]⟩) hlh (by omega)
  simp only [Option.map_none, Sem.run_bind, Sem.run_pure, hx, h1, Result.andThen]

/-- the one-element row that the translation lays for an appended value -/
theorem Rd.one (w : World) (x : Value) (t : TypeId) : Rd (w.alloc (.cells #[x] t)) (some ⟨w.heap.size, 0, none⟩) [x] := by
  intro _
  refine ⟨w.heap.size, 0, rfl, fun j u hu => ?_⟩
  have := cell_one_new w x t j u hu
  rw [Addr.add_lit] at this
  exact this

end Go.Proofs.YtcjeclddpkinkaaDoor
