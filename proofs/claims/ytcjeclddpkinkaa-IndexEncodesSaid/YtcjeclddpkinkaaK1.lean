/- The reference's index: its block, and the contracts of New, Cap, Len, All, Find, Drop, Put, Clone. -/
import Derived.Test.YtcjeclddpkinkaaJ3
set_option linter.unusedSimpArgs false
set_option linter.unusedVariables false
namespace Go.Proofs.Ytcjeclddpkinkaa
open Go.RowKit Go.ChangeMaps Ix

theorem enCells_one (L : List En) : ∀ u ∈ enCells L, u.oneCell' = true := by
  intro u hu
  obtain ⟨x, _, hx⟩ := List.mem_flatMap.1 hu
  simp only [List.mem_cons, List.not_mem_nil, or_false] at hx
  rcases hx with rfl | rfl <;> rfl
theorem OwnE.base_le {w : World} {base : Nat} {v : Value} {L : List En} (h : OwnE w base v L) : ∀ k, v.ownBlock = some k → base ≤ k ∧ k < w.heap.size := World.ownsRow.lt h
theorem OwnE.alloc {w : World} {base : Nat} {v : Value} {L : List En} (h : OwnE w base v L) (o : Obj) : OwnE (w.alloc o) base v L := World.ownsRow.alloc h o
theorem OwnE.ext {w w' : World} {base : Nat} {v : Value} {L : List En} (h : OwnE w base v L) (hb : Ext w w') : OwnE w' base v L := own_below h hb

theorem wpList_appE (w : World) {ops : Array Oper} {rest : List Oper} {o : Oper} {a : Act} {Q : Exit → Act → World → Prop} (hgd : o.guard = none) (s x : Operand)
    (ho : o.op = .call { callee := .builtin .append, args := #[s, x], argTypes := #[27, 27] })
    (base : Nat) (v : Value) (L : List En) (hs : a.eval s = v) (hown : OwnE w base v L) (A : Option Addr) (n c : Nat) (news : List En) (hx : a.eval x = .slice A n c) (hn : news.length = n) (hr : Rd w A (enCells news))
    (hbytes : (L.length + n) * 16 ≤ 140737488355328) (hbase : base ≤ w.heap.size)
    (h : ∀ v' w', OwnE w' base v' (L ++ news) → w.grownBy w' v.ownBlock → (∀ B w0, B ≤ base → Below B w0 w → Below B w0 w') → wpList Try.prog ops Q rest (a.put o.dst v') w') : wpList Try.prog ops Q (o :: rest) a w := by
  subst hn
  obtain ⟨i0, hi, hz0, hz1, hz2⟩ := info_parts info_en
  refine wpList_app w hgd s x 27 ho base 39 i0 (.agg #[.int .u32 0, .int .i64 0]) 2 16 Try.und_es hi hz0 hz1 hz2 rfl (by decide) v L.length (enCells L) hs hown A news.length c (enCells news) hx (enCells_length _) hr (enCells_one _) (by omega) (by decide) hbase ?_
  intro v' w' h1 h2 _
  refine h v' w' (by unfold OwnE; rw [enCells_append, List.length_append]; exact h1) h2 fun B w0 hB hb => hb.grown h2 (by omega) fun k hk => ?_
  have := hown.base_le k hk
  omega
theorem wpList_appEone (w0 : World) {ops : Array Oper} {rest : List Oper} {o : Oper} {a : Act} {Q : Exit → Act → World → Prop} (hgd : o.guard = none) (s x : Operand)
    (ho : o.op = .call { callee := .builtin .append, args := #[s, x], argTypes := #[27, 27] })
    (base : Nat) (v : Value) (L : List En) (p c : Int) (hs : a.eval s = v) (hown : OwnE w0 base v L) (hx : a.eval x = .slice (some ⟨w0.heap.size, 0, none⟩) 1 1)
    (hbytes : L.length < 1000000000000) (hbase : base ≤ w0.heap.size)
    (h : ∀ v' w', OwnE w' base v' (L ++ [(p, c)]) → (w0.alloc (.cells #[.int .u32 p, .int .i64 c] 39)).grownBy w' v.ownBlock → (∀ B w1, B ≤ base → Below B w1 w0 → Below B w1 w') → wpList Try.prog ops Q rest (a.put o.dst v') w') : wpList Try.prog ops Q (o :: rest) a (w0.alloc (.cells #[.int .u32 p, .int .i64 c] 39)) := by
  refine wpList_appE _ hgd s x ho base v L hs (hown.alloc _) (some ⟨w0.heap.size, 0, none⟩) 1 1 [(p, c)] hx rfl ?_ (by omega) (by simp; omega) fun v' w' h1 h2 h3 => h v' w' h1 h2 fun B w1 hB hb => h3 B w1 hB (hb.alloc (by omega) _)
  exact (Blk.new w0 [.int .u32 p, .int .i64 c] 39).rd

/-- block q is a reference Index that holds L; its entries lie in blocks from base on, other than q -/
def RixA (w : World) (base q cap : Nat) (L : List En) (A : Option Addr) (c : Nat) : Prop :=
  w.heap[q]? = some (.cells #[.int .i64 cap, .slice A L.length c] 80 (0, 0)) ∧ L.length ≤ c ∧ c ≤ maxLen ∧ Rd w A (enCells L) ∧ (∀ b o, A = some ⟨b, o, none⟩ → base ≤ b ∧ b ≠ q)
def Rix (w : World) (base q cap : Nat) (L : List En) : Prop := ∃ A c, RixA w base q cap L A c
theorem RixA.kept {w w' : World} {base q cap c : Nat} {L : List En} {A : Option Addr} (h : RixA w base q cap L A c) (hq : w'.heap[q]? = w.heap[q]?) (hb : ∀ b, base ≤ b → b ≠ q → b < w.heap.size → w'.heap[b]? = w.heap[b]?) : RixA w' base q cap L A c := by
  obtain ⟨h1, h2, h3, h4, h5⟩ := h
  exact ⟨hq.trans h1, h2, h3, h4.of_block fun b o e hlt => hb b (h5 b o e).1 (h5 b o e).2 hlt, h5⟩
theorem RixA.lt {w : World} {base q cap c : Nat} {L : List En} {A : Option Addr} (h : RixA w base q cap L A c) : q < w.heap.size := (Array.getElem?_eq_some_iff.1 h.1).1
theorem RixA.ext {w w' : World} {base q cap c : Nat} {L : List En} {A : Option Addr} (h : RixA w base q cap L A c) (k : Ext w w') : RixA w' base q cap L A c := h.kept (k.block q h.lt) fun b _ _ hb => k.block b hb
theorem RixA.cell {w : World} {base q cap c : Nat} {L : List En} {A : Option Addr} (h : RixA w base q cap L A c) : w.cell? ⟨q, 0, none⟩ = some (.int .i64 cap) ∧ w.cell? ⟨q, 1, none⟩ = some (.slice A L.length c) ∧ w.frozen? ⟨q, 1, none⟩ = false := by
  have hb : Blk w q 80 [.int .i64 cap, .slice A L.length c] := h.1
  exact ⟨hb.cell 0, hb.cell 1, hb.free 1⟩
theorem Rix.ext {w w' : World} {base q cap : Nat} {L : List En} (h : Rix w base q cap L) (k : Ext w w') : Rix w' base q cap L := by
  obtain ⟨A, c, h⟩ := h
  exact ⟨A, c, h.ext k⟩
theorem Rix.lt {w : World} {base q cap : Nat} {L : List En} (h : Rix w base q cap L) : q < w.heap.size := by
  obtain ⟨A, c, h⟩ := h
  exact h.lt
theorem Rix.keep {w w' : World} {base q cap p r : Nat} {L : List En} (h : Rix w base q cap L) (k : Keep2 p r w w') (hp : p < base) (hr : r < base) (h1 : q ≠ p) (h2 : q ≠ r) : Rix w' base q cap L := by
  obtain ⟨A, c, h⟩ := h
  exact ⟨A, c, h.kept (k.block q h.lt h1 h2) fun b hb _ hl => k.block b hl (by omega) (by omega)⟩
theorem Ixd.keep {w w' : World} {p r cap p' r' : Nat} {L : List En} (h : Ixd w p r cap L) (k : Keep2 p' r' w w') (h1 : p ≠ p') (h2 : p ≠ r') (h3 : r ≠ p') (h4 : r ≠ r') : Ixd w' p r cap L :=
  ⟨⟨(k.block p h.1.lt h1 h2).trans h.1.1, h.1.2.kept (k.block r h.1.2.lt h3 h4)⟩, h.2⟩

set_option maxRecDepth 100000 in
set_option maxHeartbeats 400000 in
theorem refnew_bad (n : Int) (w : World) (h : n < 1 ∨ n > 4096) :
    Calls Try.prog 27 #[.int .i64 n] w fun e w' => e = .returned (.tuple #[.pointer none, .int .i64 1]) ∧ w = w' := by
  by_cases h1 : n < 1
  · have g1 : decide (n < 1) = true := decide_eq_true h1
    clear h
    go_enter Try.func27, Try.ntmps27
    go_wp2
    go_ret2
    exact ⟨rfl, rfl⟩
  · have g1 : decide (n < 1) = false := decide_eq_false h1
    have g2 : decide (n > 4096) = true := decide_eq_true (h.resolve_left h1)
    clear h
    go_enter Try.func27, Try.ntmps27
    go_wp2
    go_ret2
    exact ⟨rfl, rfl⟩

set_option maxRecDepth 100000 in
set_option maxHeartbeats 400000 in
theorem refnew_calls (n : Nat) (w : World) (h1 : 1 ≤ n) (h2 : n ≤ 4096) :
    Calls Try.prog 27 #[.int .i64 (n : Int)] w fun e w' => e = .returned (.tuple #[.pointer (some ⟨w.heap.size, 0, none⟩), .int .i64 0]) ∧ Rix w' w.heap.size w.heap.size n [] ∧ Ext w w' := by
  have g1 : decide ((n : Int) < 1) = false := by rw [decide_eq_false_iff_not]; omega
  have g2 : decide ((n : Int) > 4096) = false := by rw [decide_eq_false_iff_not]; omega
  go_enter Try.func27, Try.ntmps27
  go_wp2
  go_ret2
  exact ⟨rfl, ⟨none, 0, heap_alloc_new _ _, Nat.le_refl _, Nat.zero_le _, Rd.nil _ _, fun b o e => by cases e⟩, (Ext.refl w).alloc _⟩

set_option maxRecDepth 100000 in
set_option maxHeartbeats 400000 in
theorem refcap_calls (base q cap : Nat) (L : List En) (w : World) (h : Rix w base q cap L) :
    Calls Try.prog 37 #[.pointer (some ⟨q, 0, none⟩)] w fun e w' => e = .returned (.int .i64 (cap : Int)) ∧ w = w' := by
  obtain ⟨A, c, h⟩ := h
  obtain ⟨c0, c1, _⟩ := h.cell
  go_enter Try.func37, Try.ntmps37
  go_wp2
  go_ret
  exact ⟨rfl, rfl⟩

set_option maxRecDepth 100000 in
set_option maxHeartbeats 400000 in
theorem reflen_calls (base q cap : Nat) (L : List En) (w : World) (h : Rix w base q cap L) :
    Calls Try.prog 35 #[.pointer (some ⟨q, 0, none⟩)] w fun e w' => e = .returned (.int .i64 (L.length : Int)) ∧ w = w' := by
  obtain ⟨A, c, h⟩ := h
  obtain ⟨c0, c1, _⟩ := h.cell
  go_enter Try.func35, Try.ntmps35
  go_wp2
  go_ret
  exact ⟨rfl, rfl⟩

set_option maxRecDepth 100000 in
set_option maxHeartbeats 400000 in
theorem refall_calls (base q cap : Nat) (L : List En) (hlen : L.length ≤ 1000000) (w : World) (h : Rix w base q cap L) :
    Calls Try.prog 33 #[.pointer (some ⟨q, 0, none⟩)] w fun e w' => ∃ v, e = .returned v ∧ OwnE w' w.heap.size v L ∧ Ext w w' := by
  obtain ⟨A, c, h⟩ := h
  obtain ⟨c0, c1, _⟩ := h.cell
  have hr := h.2.2.2.1
  have HR := Lib.hid hr
  clear h hr
  have h0 : OwnE w w.heap.size (.slice none 0 0) [] := World.ownsRow_nil _ _ _ _
  have H0 := Lib.hid h0
  clear h0
  go_enter Try.func33, Try.ntmps33
  go_wp2_with (first
    | ((with_reducible show wpList _ _ _ (⟨some 9, _, _, _, _, _⟩ :: _) _ _); go_must (refine wpList_appE _ rfl (.tmp 4) (.tmp 8) rfl w.heap.size _ [] rfl H0.out A L.length c L rfl rfl HR.out (by simp; omega) (Nat.le_refl _) ?_); intro v' w1 hown' hgrow hbel)
    | fail)
  go_ret
  exact ⟨_, rfl, hown', hbel _ _ (Nat.le_refl _) (Below.refl _ _)⟩

end Go.Proofs.Ytcjeclddpkinkaa
