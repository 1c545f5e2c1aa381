/- The reference's pair of roots, and its VerifyPrefix. -/
import Derived.Test.YtcjeclddpkinkaaDoorD31
set_option linter.unusedSimpArgs false
set_option linter.unusedVariables false
namespace Go.Proofs.YtcjeclddpkinkaaDoor
open Go.RowKit
open Wz (Dg)

/-- the cells of a pair -/
def prs (x y : Dg) (b : Bool) : List Value := u8s x.1 ++ u8s y.1 ++ [.bool b]
abbrev prV (x y : Dg) (b : Bool) : Value := .agg (prs x y b).toArray
theorem prs_len (x y : Dg) (b : Bool) : (prs x y b).length = 33 := by rw [prs, List.length_append, List.length_append, dg_len, dg_len]; rfl
theorem prs_one (x y : Dg) (b : Bool) : ∀ u ∈ prs x y b, u.oneCell' = true := by
  intro u hu
  rw [prs, List.mem_append, List.mem_append] at hu
  rcases hu with (h | h) | h
  · exact u8s_one _ u h
  · exact u8s_one _ u h
  · rw [List.mem_singleton] at h; rw [h]; rfl
theorem agg_pr : AggOf Tryd.prog 159 33 := ⟨by kernel_rfl, by kernel_rfl⟩
theorem list16 {α : Type} : ∀ (l : List α), l.length = 16 → ∃ a0 a1 a2 a3 a4 a5 a6 a7 a8 a9 a10 a11 a12 a13 a14 a15, l = [a0, a1, a2, a3, a4, a5, a6, a7, a8, a9, a10, a11, a12, a13, a14, a15]
  | [a0, a1, a2, a3, a4, a5, a6, a7, a8, a9, a10, a11, a12, a13, a14, a15], _ => ⟨a0, a1, a2, a3, a4, a5, a6, a7, a8, a9, a10, a11, a12, a13, a14, a15, rfl⟩
theorem run_buildP0 (a0 a1 a2 a3 a4 a5 a6 a7 a8 a9 a10 a11 a12 a13 a14 a15 b0 b1 b2 b3 b4 b5 b6 b7 b8 b9 b10 b11 b12 b13 b14 b15 : Value) (b : Bool) (w : World) : (Instr.build 159 #[(0, .agg #[a0, a1, a2, a3, a4, a5, a6, a7, a8, a9, a10, a11, a12, a13, a14, a15]), (1, .agg #[b0, b1, b2, b3, b4, b5, b6, b7, b8, b9, b10, b11, b12, b13, b14, b15]), (2, .bool b)]).run Tryd.prog w = .ok (.agg #[a0, a1, a2, a3, a4, a5, a6, a7, a8, a9, a10, a11, a12, a13, a14, a15, b0, b1, b2, b3, b4, b5, b6, b7, b8, b9, b10, b11, b12, b13, b14, b15, .bool b]) w := by
  kernel_rfl
theorem run_buildP (x y : Dg) (b : Bool) (w : World) : (Instr.build 159 #[(0, dgV x), (1, dgV y), (2, .bool b)]).run Tryd.prog w = .ok (prV x y b) w := by
  obtain ⟨a0, a1, a2, a3, a4, a5, a6, a7, a8, a9, a10, a11, a12, a13, a14, a15, h1⟩ := list16 (u8s x.1) (dg_len x)
  obtain ⟨b0, b1, b2, b3, b4, b5, b6, b7, b8, b9, b10, b11, b12, b13, b14, b15, h2⟩ := list16 (u8s y.1) (dg_len y)
  unfold prV prs dgV
  rw [h1, h2]
  exact run_buildP0 a0 a1 a2 a3 a4 a5 a6 a7 a8 a9 a10 a11 a12 a13 a14 a15 b0 b1 b2 b3 b4 b5 b6 b7 b8 b9 b10 b11 b12 b13 b14 b15 b w
theorem run_buildZp (w : World) : (Instr.build 159 #[]).run Tryd.prog w = .ok (prV Mk.dg0 Mk.dg0 false) w := by
  kernel_rfl
theorem exec_buildP {o : Oper} {a : Act} {x y z : Operand} {p q : Dg} {b : Bool} (ho : o.op = .build 159 #[(0, x), (1, y), (2, z)]) (hx : a.eval x = dgV p) (hy : a.eval y = dgV q) (hz : a.eval z = .bool b) (w : World) : (execOp a.eval o).run Tryd.prog w = .ok (.value (prV p q b)) w := by
  have h1 := run_buildP p q b w
  unfold execOp
  rw [ho]
  simp only [Sem.run_bind, Sem.run_pure, List.map_toArray, List.map_cons, List.map_nil, hx, hy, hz, h1, Result.andThen]
theorem exec_buildZp {o : Oper} {a : Act} (ho : o.op = .build 159 #[]) (w : World) : (execOp a.eval o).run Tryd.prog w = .ok (.value (prV Mk.dg0 Mk.dg0 false)) w := by
  have h1 := run_buildZp w
  unfold execOp
  rw [ho]
  simp only [Sem.run_bind, Sem.run_pure, List.map_toArray, List.map_nil, h1, Result.andThen]
theorem prs_x {w : World} {g : Nat} {x y : Dg} {b : Bool} (h : Blk w g 159 (prs x y b)) : ∀ j u, (u8s x.1)[j]? = some u → w.cell? ⟨g, 0 + j, none⟩ = some u := fun j u hu => by
  rw [Nat.zero_add, h.cell, prs, List.append_assoc, List.getElem?_append_left (List.getElem?_eq_some_iff.1 hu).1]; exact hu
theorem prs_y {w : World} {g : Nat} {x y : Dg} {b : Bool} (h : Blk w g 159 (prs x y b)) : ∀ j u, (u8s y.1)[j]? = some u → w.cell? ⟨g, 16 + j, none⟩ = some u := fun j u hu => by
  have hj := (List.getElem?_eq_some_iff.1 hu).1
  rw [h.cell, prs, List.append_assoc, List.getElem?_append_right (by rw [dg_len]; omega), dg_len, Nat.add_sub_cancel_left, List.getElem?_append_left hj]; exact hu
theorem prs_b {w : World} {g : Nat} {x y : Dg} {b : Bool} (h : Blk w g 159 (prs x y b)) : w.cell? ⟨g, 32, none⟩ = some (.bool b) := by
  rw [h.cell, prs, List.getElem?_append_right (by rw [List.length_append, dg_len, dg_len]; decide), List.length_append, dg_len, dg_len]; rfl
theorem Ext.grown' {w w1 w2 : World} {g : Nat} (h : Ext w w1) (hg : w1.grownBy w2 (some g)) (hw : w.heap.size ≤ g) : Ext w w2 := Below.grown h hg h.size (fun k hk => by have := Option.some.inj hk; omega)

attribute [local irreducible] wpQuiet
set_option maxRecDepth 100000 in
set_option maxHeartbeats 4000000 in
/-- the reference's pairOf -/
theorem pair_calls (old : Dg) : ∀ (n m : Nat), 1 ≤ m → m ≤ n → n ≤ 9223372036854775807 → ∀ (b : Bool) (A : Option Addr) (N c : Nat) (L : List Dg) (w : World), Rd w A (dgs L) → L.length = N → N ≤ c → N ≤ 1000 → GloR w →
    Calls Tryd.prog 106 #[dgV old, .int .i64 (m : Int), .int .i64 (n : Int), .bool b, .slice A N c] w (fun e w' => e = .returned (prV (Mk.pairF shF old n m b L).1 (Mk.pairF shF old n m b L).2.1 (Mk.pairF shF old n m b L).2.2) ∧ Ext w w') := by
  intro n
  induction n using Nat.strongRecOn with
  | ind n ih =>
    intro m hm hmn hn b A N c L w hr hL hc hN hG
    obtain ⟨B, hB⟩ : ∃ B, w.heap.size = B := ⟨_, rfl⟩
    have hwB : w.heap.size ≤ B + 1 := by omega
    have HB : Hid (Blk ((w.alloc (Obj.cells (u8s old.1).toArray 45)).alloc (Obj.cells (prs Mk.dg0 Mk.dg0 false).toArray 159)) B 45 (u8s old.1) ∧ Blk ((w.alloc (Obj.cells (u8s old.1).toArray 45)).alloc (Obj.cells (prs Mk.dg0 Mk.dg0 false).toArray 159)) (B + 1) 159 (prs Mk.dg0 Mk.dg0 false) ∧ Ext w ((w.alloc (Obj.cells (u8s old.1).toArray 45)).alloc (Obj.cells (prs Mk.dg0 Mk.dg0 false).toArray 159))) := by
      subst hB
      refine Lib.hid ⟨(Blk.new w _ 45).alloc _, ?_, ((Ext.refl w).alloc _).alloc _⟩
      have := Blk.new (w.alloc (Obj.cells (u8s old.1).toArray 45)) (prs Mk.dg0 Mk.dg0 false) 159
      rwa [World.size_alloc] at this
    by_cases hw : m = n ∧ b = true
    · obtain ⟨hmn', hb⟩ := hw
      subst hmn'
      subst hb
      have hmn1 : ((m : Int) == (m : Int)) = true := by rw [beq_iff_eq]
      by_cases hN0 : N = 0
      · have hbq : (((N : Nat) : Int) == 0) = true := by first | (rw [beq_iff_eq]; omega) | (rw [beq_eq_false_iff_ne]; omega)
        have hlq : decide (L.length = 0) = true := by rw [hL]; first | exact decide_eq_true hN0 | exact decide_eq_false hN0
        rw [Mk.pair_whole shF (Nat.le_refl _), hlq]
        clear hr hL hlq ih hG
        go_enter Tryd.func106, Tryd.ntmps106
        go_upto_region 1 with (first
          | ((with_reducible show wpList _ _ _ (⟨some 5, _, _, _, _, _⟩ :: _) _ _); go_must (refine wpList_boxAgg 45 _ rfl (.tmp 0) rfl _ rfl ?_)))
        rw [show (#[.int .u8 0, .int .u8 0, .int .u8 0, .int .u8 0, .int .u8 0, .int .u8 0, .int .u8 0, .int .u8 0, .int .u8 0, .int .u8 0, .int .u8 0, .int .u8 0, .int .u8 0, .int .u8 0, .int .u8 0, .int .u8 0, .int .u8 0, .int .u8 0, .int .u8 0, .int .u8 0, .int .u8 0, .int .u8 0, .int .u8 0, .int .u8 0, .int .u8 0, .int .u8 0, .int .u8 0, .int .u8 0, .int .u8 0, .int .u8 0, .int .u8 0, .int .u8 0, .bool false] : Array Value) = (prs Mk.dg0 Mk.dg0 false).toArray from rfl]
        generalize (w.alloc (Obj.cells (u8s old.1).toArray 45)).alloc (Obj.cells (prs Mk.dg0 Mk.dg0 false).toArray 159) = w1 at HB ⊢
        go_wp2_with (first
          | ((with_reducible show wpList _ _ _ (⟨some 22, _, _, _, _, _⟩ :: _) _ _); go_must (refine wpList_loadAgg agg_dg w1 rfl (.tmp 5) rfl B 0 rfl (u8s old.1) (dg_len old) HB.out.1.at0 ?_))
          | ((with_reducible show wpList _ _ _ (⟨some 23, _, _, _, _, _⟩ :: _) _ _); go_must (refine wpList_loadAgg agg_dg w1 rfl (.tmp 5) rfl B 0 rfl (u8s old.1) (dg_len old) HB.out.1.at0 ?_))
          | ((with_reducible show wpList _ _ _ (⟨some 27, _, _, _, _, _⟩ :: _) _ _); go_must (refine wpList_value rfl (exec_buildP rfl rfl rfl rfl _) ?_))
          | ((with_reducible show wpList _ _ _ (⟨Option.none, .store _ (.tmp 10) _, _, _, _, _⟩ :: _) _ _); go_must (refine wpList_storeBlk agg_pr _ (B + 1) 159 (prs Mk.dg0 Mk.dg0 false) HB.out.2.1 rfl (.tmp 10) (.tmp 27) rfl rfl (prs old old true) rfl (prs_len old old true) (prs_len _ _ _) (prs_one old old true) ?_); intro w9 hB9 hg9)
          | fail)
        refine bodyPost_ret (results_cell rfl agg_pr _ w9 (B + 1) rfl (prs old old true) (prs_len old old true) 159 hB9) rfl ?_
        exact ⟨rfl, Ext.grown' HB.out.2.2 hg9 (by omega)⟩
      · have hbq : (((N : Nat) : Int) == 0) = false := by first | (rw [beq_iff_eq]; omega) | (rw [beq_eq_false_iff_ne]; omega)
        have hlq : decide (L.length = 0) = false := by rw [hL]; first | exact decide_eq_true hN0 | exact decide_eq_false hN0
        rw [Mk.pair_whole shF (Nat.le_refl _), hlq]
        clear hr hL hlq ih hG
        go_enter Tryd.func106, Tryd.ntmps106
        go_upto_region 1 with (first
          | ((with_reducible show wpList _ _ _ (⟨some 5, _, _, _, _, _⟩ :: _) _ _); go_must (refine wpList_boxAgg 45 _ rfl (.tmp 0) rfl _ rfl ?_)))
        rw [show (#[.int .u8 0, .int .u8 0, .int .u8 0, .int .u8 0, .int .u8 0, .int .u8 0, .int .u8 0, .int .u8 0, .int .u8 0, .int .u8 0, .int .u8 0, .int .u8 0, .int .u8 0, .int .u8 0, .int .u8 0, .int .u8 0, .int .u8 0, .int .u8 0, .int .u8 0, .int .u8 0, .int .u8 0, .int .u8 0, .int .u8 0, .int .u8 0, .int .u8 0, .int .u8 0, .int .u8 0, .int .u8 0, .int .u8 0, .int .u8 0, .int .u8 0, .int .u8 0, .bool false] : Array Value) = (prs Mk.dg0 Mk.dg0 false).toArray from rfl]
        generalize (w.alloc (Obj.cells (u8s old.1).toArray 45)).alloc (Obj.cells (prs Mk.dg0 Mk.dg0 false).toArray 159) = w1 at HB ⊢
        go_wp2_with (first
          | ((with_reducible show wpList _ _ _ (⟨some 22, _, _, _, _, _⟩ :: _) _ _); go_must (refine wpList_loadAgg agg_dg w1 rfl (.tmp 5) rfl B 0 rfl (u8s old.1) (dg_len old) HB.out.1.at0 ?_))
          | ((with_reducible show wpList _ _ _ (⟨some 23, _, _, _, _, _⟩ :: _) _ _); go_must (refine wpList_loadAgg agg_dg w1 rfl (.tmp 5) rfl B 0 rfl (u8s old.1) (dg_len old) HB.out.1.at0 ?_))
          | ((with_reducible show wpList _ _ _ (⟨some 27, _, _, _, _, _⟩ :: _) _ _); go_must (refine wpList_value rfl (exec_buildP rfl rfl rfl rfl _) ?_))
          | ((with_reducible show wpList _ _ _ (⟨Option.none, .store _ (.tmp 10) _, _, _, _, _⟩ :: _) _ _); go_must (refine wpList_storeBlk agg_pr _ (B + 1) 159 (prs Mk.dg0 Mk.dg0 false) HB.out.2.1 rfl (.tmp 10) (.tmp 27) rfl rfl (prs old old false) rfl (prs_len old old false) (prs_len _ _ _) (prs_one old old false) ?_); intro w9 hB9 hg9)
          | fail)
        refine bodyPost_ret (results_cell rfl agg_pr _ w9 (B + 1) rfl (prs old old false) (prs_len old old false) 159 hB9) rfl ?_
        exact ⟨rfl, Ext.grown' HB.out.2.2 hg9 (by omega)⟩
    · have hnw : m = n → b = false := fun h => by cases b <;> simp_all
      by_cases hN0 : N = 0
      · by_cases hmn' : m = n
        · have hpf : Mk.pairF shF old n m b L = (Mk.dg0, Mk.dg0, false) := by
            have hL0 : L = [] := List.eq_nil_of_length_eq_zero (by omega)
            subst hL0
            rcases Nat.lt_or_ge m n with h | h
            · exact Mk.pair_nil shF h hm old b
            · have hb : b = false := hnw (by omega)
              subst hb
              rw [Mk.pair_part shF h, if_pos List.length_nil]
          rw [hpf]
          clear hr hL hpf ih hG
          have hN0' : (((N : Nat) : Int) == 0) = true := by rw [beq_iff_eq]; omega
          have hb := hnw hmn'
          subst hb
          have hmn1 : ((m : Int) == (n : Int)) = true := by rw [beq_iff_eq]; omega
          go_enter Tryd.func106, Tryd.ntmps106
          go_upto_region 1 with (first
            | ((with_reducible show wpList _ _ _ (⟨some 5, _, _, _, _, _⟩ :: _) _ _); go_must (refine wpList_boxAgg 45 _ rfl (.tmp 0) rfl _ rfl ?_)))
          rw [show (#[.int .u8 0, .int .u8 0, .int .u8 0, .int .u8 0, .int .u8 0, .int .u8 0, .int .u8 0, .int .u8 0, .int .u8 0, .int .u8 0, .int .u8 0, .int .u8 0, .int .u8 0, .int .u8 0, .int .u8 0, .int .u8 0, .int .u8 0, .int .u8 0, .int .u8 0, .int .u8 0, .int .u8 0, .int .u8 0, .int .u8 0, .int .u8 0, .int .u8 0, .int .u8 0, .int .u8 0, .int .u8 0, .int .u8 0, .int .u8 0, .int .u8 0, .int .u8 0, .bool false] : Array Value) = (prs Mk.dg0 Mk.dg0 false).toArray from rfl]
          generalize (w.alloc (Obj.cells (u8s old.1).toArray 45)).alloc (Obj.cells (prs Mk.dg0 Mk.dg0 false).toArray 159) = w1 at HB ⊢
          go_wp2_with (first
            | ((with_reducible show wpList _ _ _ (⟨some 31, _, _, _, _, _⟩ :: _) _ _); go_must (refine wpList_value rfl (exec_buildZp rfl _) ?_))
            | ((with_reducible show wpList _ _ _ (⟨Option.none, .store _ (.tmp 10) _, _, _, _, _⟩ :: _) _ _); go_must (refine wpList_storeBlk agg_pr _ (B + 1) 159 (prs Mk.dg0 Mk.dg0 false) HB.out.2.1 rfl (.tmp 10) (.tmp 31) rfl rfl (prs Mk.dg0 Mk.dg0 false) rfl (prs_len Mk.dg0 Mk.dg0 false) (prs_len _ _ _) (prs_one Mk.dg0 Mk.dg0 false) ?_); intro w9 hB9 hg9)
            | fail)
          refine bodyPost_ret (results_cell rfl agg_pr _ w9 (B + 1) rfl (prs Mk.dg0 Mk.dg0 false) (prs_len Mk.dg0 Mk.dg0 false) 159 hB9) rfl ?_
          exact ⟨rfl, Ext.grown' HB.out.2.2 hg9 (by omega)⟩
        · have hpf : Mk.pairF shF old n m b L = (Mk.dg0, Mk.dg0, false) := by
            have hL0 : L = [] := List.eq_nil_of_length_eq_zero (by omega)
            subst hL0
            rcases Nat.lt_or_ge m n with h | h
            · exact Mk.pair_nil shF h hm old b
            · have hb : b = false := hnw (by omega)
              subst hb
              rw [Mk.pair_part shF h, if_pos List.length_nil]
          rw [hpf]
          clear hr hL hpf ih hG
          have hN0' : (((N : Nat) : Int) == 0) = true := by rw [beq_iff_eq]; omega
          have hmn1 : ((m : Int) == (n : Int)) = false := by rw [beq_eq_false_iff_ne]; omega
          go_enter Tryd.func106, Tryd.ntmps106
          go_upto_region 1 with (first
            | ((with_reducible show wpList _ _ _ (⟨some 5, _, _, _, _, _⟩ :: _) _ _); go_must (refine wpList_boxAgg 45 _ rfl (.tmp 0) rfl _ rfl ?_)))
          rw [show (#[.int .u8 0, .int .u8 0, .int .u8 0, .int .u8 0, .int .u8 0, .int .u8 0, .int .u8 0, .int .u8 0, .int .u8 0, .int .u8 0, .int .u8 0, .int .u8 0, .int .u8 0, .int .u8 0, .int .u8 0, .int .u8 0, .int .u8 0, .int .u8 0, .int .u8 0, .int .u8 0, .int .u8 0, .int .u8 0, .int .u8 0, .int .u8 0, .int .u8 0, .int .u8 0, .int .u8 0, .int .u8 0, .int .u8 0, .int .u8 0, .int .u8 0, .int .u8 0, .bool false] : Array Value) = (prs Mk.dg0 Mk.dg0 false).toArray from rfl]
          generalize (w.alloc (Obj.cells (u8s old.1).toArray 45)).alloc (Obj.cells (prs Mk.dg0 Mk.dg0 false).toArray 159) = w1 at HB ⊢
          go_wp2_with (first
            | ((with_reducible show wpList _ _ _ (⟨some 31, _, _, _, _, _⟩ :: _) _ _); go_must (refine wpList_value rfl (exec_buildZp rfl _) ?_))
            | ((with_reducible show wpList _ _ _ (⟨Option.none, .store _ (.tmp 10) _, _, _, _, _⟩ :: _) _ _); go_must (refine wpList_storeBlk agg_pr _ (B + 1) 159 (prs Mk.dg0 Mk.dg0 false) HB.out.2.1 rfl (.tmp 10) (.tmp 31) rfl rfl (prs Mk.dg0 Mk.dg0 false) rfl (prs_len Mk.dg0 Mk.dg0 false) (prs_len _ _ _) (prs_one Mk.dg0 Mk.dg0 false) ?_); intro w9 hB9 hg9)
            | fail)
          refine bodyPost_ret (results_cell rfl agg_pr _ w9 (B + 1) rfl (prs Mk.dg0 Mk.dg0 false) (prs_len Mk.dg0 Mk.dg0 false) 159 hB9) rfl ?_
          exact ⟨rfl, Ext.grown' HB.out.2.2 hg9 (by omega)⟩
      · by_cases hmn' : m = n
        · by_cases hN1' : N = 1
          · obtain ⟨N1, hN1⟩ : ∃ N1, N = N1 + 1 := ⟨N - 1, by omega⟩
            subst hN1
            obtain ⟨ps, p, rfl⟩ : ∃ ps p, L = ps ++ [p] := ⟨L.dropLast, L.getLast (by rintro rfl; simp at hL), (List.dropLast_concat_getLast _).symm⟩
            have hps : ps.length = N1 := by rw [List.length_append, List.length_singleton] at hL; omega
            obtain ⟨A2, hs2, hr2, _⟩ := run_sliceD hr hL hc none (some (.int .i64 (N1 : Int))) 0 N1 (.inl ⟨rfl, rfl⟩) (.inr ⟨_, rfl⟩) (by omega) (by omega)
            rw [List.drop_zero, Nat.sub_zero, List.take_append_of_le_length (by omega), List.take_of_length_le (by omega)] at hr2
            simp only [Nat.sub_zero] at hs2
            obtain ⟨bp, op, hA, hcp⟩ := hr (by rw [dgs_length, hL]; omega)
            subst hA
            have hcpk := dg_cells hcp (i := N1) (by rw [hL]; omega)
            rw [show (ps ++ [p])[N1]'(by rw [hL]; omega) = p from by rw [List.getElem_append_right (by omega)]; simp [hps]] at hcpk
            have HCP := Lib.hid hcpk
            have hbw : bp < w.heap.size := lt_of_cell (hcpk 0 _ (List.getElem?_eq_getElem (by rw [dg_len]; decide)))
            have hw1 : IntKind.i64.wrap (N1 : Int) = (N1 : Int) := IntWalk.i64_in (N1 : Int) (by omega)
            have hsub1 : (((N1 + 1 : Nat) : Int)) - 1 = (N1 : Int) := by omega
            have hN0' : ((((N1 + 1 : Nat)) : Int) == 0) = false := by rw [beq_eq_false_iff_ne]; omega
            have hN0'' : (((N1 : Int) + 1) == 0) = false := by rw [beq_eq_false_iff_ne]; omega
            have hb : b = false := hnw hmn'
            subst hb
            have hbq : (((N1 : Nat) : Int) == 0) = true := by first | (rw [beq_iff_eq]; omega) | (rw [beq_eq_false_iff_ne]; omega)
            have hpf : Mk.pairF shF old n m false (ps ++ [p]) = (p, p, true) := by
              rw [Mk.pair_part shF (by omega), if_neg (by simp)]
              simp only [List.getLastD_concat, List.length_append, List.length_singleton, hps]
              congr 2
              first | exact decide_eq_true (by omega) | exact decide_eq_false (by omega)
            rw [hpf]
            have hmn1 : ((m : Int) == (n : Int)) = true := by rw [beq_iff_eq]; omega
            clear hr hL hpf ih hG hcp hcpk hN1'
            go_enter Tryd.func106, Tryd.ntmps106
            go_upto_region 1 with (first
              | ((with_reducible show wpList _ _ _ (⟨some 5, _, _, _, _, _⟩ :: _) _ _); go_must (refine wpList_boxAgg 45 _ rfl (.tmp 0) rfl _ rfl ?_)))
            rw [show (#[.int .u8 0, .int .u8 0, .int .u8 0, .int .u8 0, .int .u8 0, .int .u8 0, .int .u8 0, .int .u8 0, .int .u8 0, .int .u8 0, .int .u8 0, .int .u8 0, .int .u8 0, .int .u8 0, .int .u8 0, .int .u8 0, .int .u8 0, .int .u8 0, .int .u8 0, .int .u8 0, .int .u8 0, .int .u8 0, .int .u8 0, .int .u8 0, .int .u8 0, .int .u8 0, .int .u8 0, .int .u8 0, .int .u8 0, .int .u8 0, .int .u8 0, .int .u8 0, .bool false] : Array Value) = (prs Mk.dg0 Mk.dg0 false).toArray from rfl]
            generalize (w.alloc (Obj.cells (u8s old.1).toArray 45)).alloc (Obj.cells (prs Mk.dg0 Mk.dg0 false).toArray 159) = w1 at HB ⊢
            go_upto_region 7 with (first
              | ((with_reducible show wpList _ _ _ (⟨some 37, _, _, _, _, _⟩ :: _) _ _); go_must (refine wpList_loadAgg agg_dg w1 rfl (.tmp 36) rfl bp (op + N1 * 16) rfl (u8s p.1) (dg_len p) (fun j u hu => (HB.out.2.2.cell (p := ⟨bp, op + N1 * 16 + j, none⟩) hbw).trans (HCP.out j u hu)) ?_))
              | ((with_reducible show wpList _ _ _ (⟨Option.none, .store _ (.tmp 11) _, _, _, _, _⟩ :: _) _ _); go_must (refine wpList_storeNew agg_dg w1 _ 45 rfl (.tmp 11) (.tmp 37) rfl rfl (u8s p.1) rfl (dg_len p) rfl (u8s_one _) ?_))
              | ((with_reducible show wpList _ _ _ (⟨some 42, _, _, _, _, _⟩ :: _) _ _); go_must (refine wpList_value rfl (exec_slice rfl rfl rfl rfl hs2 _) ?_))
              | fail)
            have HP5 : Hid (Blk (w1.alloc (.cells (u8s p.1).toArray 45)) w1.heap.size 45 (u8s p.1) ∧ Blk (w1.alloc (.cells (u8s p.1).toArray 45)) B 45 (u8s old.1) ∧ Blk (w1.alloc (.cells (u8s p.1).toArray 45)) (B + 1) 159 (prs Mk.dg0 Mk.dg0 false) ∧ Ext w (w1.alloc (.cells (u8s p.1).toArray 45))) := Lib.hid ⟨Blk.new _ _ _, HB.out.1.alloc _, HB.out.2.1.alloc _, HB.out.2.2.alloc _⟩
            generalize w1.alloc (.cells (u8s p.1).toArray 45) = w5 at HP5 ⊢
            obtain ⟨g11, hg11⟩ : ∃ g, w1.heap.size = g := ⟨_, rfl⟩
            rw [hg11] at HP5 ⊢
            clear hg11 HB
            go_wp2_with (first
              | ((with_reducible show wpList _ _ _ (⟨some 46, _, _, _, _, _⟩ :: _) _ _); go_must (refine wpList_loadAgg agg_dg w5 rfl (.tmp 11) rfl g11 0 rfl (u8s p.1) (dg_len p) HP5.out.1.at0 ?_))
              | ((with_reducible show wpList _ _ _ (⟨some 47, _, _, _, _, _⟩ :: _) _ _); go_must (refine wpList_loadAgg agg_dg w5 rfl (.tmp 11) rfl g11 0 rfl (u8s p.1) (dg_len p) HP5.out.1.at0 ?_))
              | ((with_reducible show wpList _ _ _ (⟨some 51, _, _, _, _, _⟩ :: _) _ _); go_must (refine wpList_value rfl (exec_buildP rfl rfl rfl rfl _) ?_))
              | ((with_reducible show wpList _ _ _ (⟨Option.none, .store _ (.tmp 10) _, _, _, _, _⟩ :: _) _ _); go_must (refine wpList_storeBlk agg_pr _ (B + 1) 159 (prs Mk.dg0 Mk.dg0 false) HP5.out.2.2.1 rfl (.tmp 10) (.tmp 51) rfl rfl (prs p p true) rfl (prs_len p p true) (prs_len _ _ _) (prs_one p p true) ?_); intro w9 hB9 hg9)
              | fail)
            refine bodyPost_ret (results_cell rfl agg_pr _ w9 (B + 1) rfl (prs p p true) (prs_len p p true) 159 hB9) rfl ?_
            exact ⟨rfl, Ext.grown' HP5.out.2.2.2 hg9 (by omega)⟩
          · obtain ⟨N1, hN1⟩ : ∃ N1, N = N1 + 1 := ⟨N - 1, by omega⟩
            subst hN1
            obtain ⟨ps, p, rfl⟩ : ∃ ps p, L = ps ++ [p] := ⟨L.dropLast, L.getLast (by rintro rfl; simp at hL), (List.dropLast_concat_getLast _).symm⟩
            have hps : ps.length = N1 := by rw [List.length_append, List.length_singleton] at hL; omega
            obtain ⟨A2, hs2, hr2, _⟩ := run_sliceD hr hL hc none (some (.int .i64 (N1 : Int))) 0 N1 (.inl ⟨rfl, rfl⟩) (.inr ⟨_, rfl⟩) (by omega) (by omega)
            rw [List.drop_zero, Nat.sub_zero, List.take_append_of_le_length (by omega), List.take_of_length_le (by omega)] at hr2
            simp only [Nat.sub_zero] at hs2
            obtain ⟨bp, op, hA, hcp⟩ := hr (by rw [dgs_length, hL]; omega)
            subst hA
            have hcpk := dg_cells hcp (i := N1) (by rw [hL]; omega)
            rw [show (ps ++ [p])[N1]'(by rw [hL]; omega) = p from by rw [List.getElem_append_right (by omega)]; simp [hps]] at hcpk
            have HCP := Lib.hid hcpk
            have hbw : bp < w.heap.size := lt_of_cell (hcpk 0 _ (List.getElem?_eq_getElem (by rw [dg_len]; decide)))
            have hw1 : IntKind.i64.wrap (N1 : Int) = (N1 : Int) := IntWalk.i64_in (N1 : Int) (by omega)
            have hsub1 : (((N1 + 1 : Nat) : Int)) - 1 = (N1 : Int) := by omega
            have hN0' : ((((N1 + 1 : Nat)) : Int) == 0) = false := by rw [beq_eq_false_iff_ne]; omega
            have hN0'' : (((N1 : Int) + 1) == 0) = false := by rw [beq_eq_false_iff_ne]; omega
            have hb : b = false := hnw hmn'
            subst hb
            have hbq : (((N1 : Nat) : Int) == 0) = false := by first | (rw [beq_iff_eq]; omega) | (rw [beq_eq_false_iff_ne]; omega)
            have hpf : Mk.pairF shF old n m false (ps ++ [p]) = (p, p, false) := by
              rw [Mk.pair_part shF (by omega), if_neg (by simp)]
              simp only [List.getLastD_concat, List.length_append, List.length_singleton, hps]
              congr 2
              first | exact decide_eq_true (by omega) | exact decide_eq_false (by omega)
            rw [hpf]
            have hmn1 : ((m : Int) == (n : Int)) = true := by rw [beq_iff_eq]; omega
            clear hr hL hpf ih hG hcp hcpk hN1'
            go_enter Tryd.func106, Tryd.ntmps106
            go_upto_region 1 with (first
              | ((with_reducible show wpList _ _ _ (⟨some 5, _, _, _, _, _⟩ :: _) _ _); go_must (refine wpList_boxAgg 45 _ rfl (.tmp 0) rfl _ rfl ?_)))
            rw [show (#[.int .u8 0, .int .u8 0, .int .u8 0, .int .u8 0, .int .u8 0, .int .u8 0, .int .u8 0, .int .u8 0, .int .u8 0, .int .u8 0, .int .u8 0, .int .u8 0, .int .u8 0, .int .u8 0, .int .u8 0, .int .u8 0, .int .u8 0, .int .u8 0, .int .u8 0, .int .u8 0, .int .u8 0, .int .u8 0, .int .u8 0, .int .u8 0, .int .u8 0, .int .u8 0, .int .u8 0, .int .u8 0, .int .u8 0, .int .u8 0, .int .u8 0, .int .u8 0, .bool false] : Array Value) = (prs Mk.dg0 Mk.dg0 false).toArray from rfl]
            generalize (w.alloc (Obj.cells (u8s old.1).toArray 45)).alloc (Obj.cells (prs Mk.dg0 Mk.dg0 false).toArray 159) = w1 at HB ⊢
            go_upto_region 7 with (first
              | ((with_reducible show wpList _ _ _ (⟨some 37, _, _, _, _, _⟩ :: _) _ _); go_must (refine wpList_loadAgg agg_dg w1 rfl (.tmp 36) rfl bp (op + N1 * 16) rfl (u8s p.1) (dg_len p) (fun j u hu => (HB.out.2.2.cell (p := ⟨bp, op + N1 * 16 + j, none⟩) hbw).trans (HCP.out j u hu)) ?_))
              | ((with_reducible show wpList _ _ _ (⟨Option.none, .store _ (.tmp 11) _, _, _, _, _⟩ :: _) _ _); go_must (refine wpList_storeNew agg_dg w1 _ 45 rfl (.tmp 11) (.tmp 37) rfl rfl (u8s p.1) rfl (dg_len p) rfl (u8s_one _) ?_))
              | ((with_reducible show wpList _ _ _ (⟨some 42, _, _, _, _, _⟩ :: _) _ _); go_must (refine wpList_value rfl (exec_slice rfl rfl rfl rfl hs2 _) ?_))
              | fail)
            have HP5 : Hid (Blk (w1.alloc (.cells (u8s p.1).toArray 45)) w1.heap.size 45 (u8s p.1) ∧ Blk (w1.alloc (.cells (u8s p.1).toArray 45)) B 45 (u8s old.1) ∧ Blk (w1.alloc (.cells (u8s p.1).toArray 45)) (B + 1) 159 (prs Mk.dg0 Mk.dg0 false) ∧ Ext w (w1.alloc (.cells (u8s p.1).toArray 45))) := Lib.hid ⟨Blk.new _ _ _, HB.out.1.alloc _, HB.out.2.1.alloc _, HB.out.2.2.alloc _⟩
            generalize w1.alloc (.cells (u8s p.1).toArray 45) = w5 at HP5 ⊢
            obtain ⟨g11, hg11⟩ : ∃ g, w1.heap.size = g := ⟨_, rfl⟩
            rw [hg11] at HP5 ⊢
            clear hg11 HB
            go_wp2_with (first
              | ((with_reducible show wpList _ _ _ (⟨some 46, _, _, _, _, _⟩ :: _) _ _); go_must (refine wpList_loadAgg agg_dg w5 rfl (.tmp 11) rfl g11 0 rfl (u8s p.1) (dg_len p) HP5.out.1.at0 ?_))
              | ((with_reducible show wpList _ _ _ (⟨some 47, _, _, _, _, _⟩ :: _) _ _); go_must (refine wpList_loadAgg agg_dg w5 rfl (.tmp 11) rfl g11 0 rfl (u8s p.1) (dg_len p) HP5.out.1.at0 ?_))
              | ((with_reducible show wpList _ _ _ (⟨some 51, _, _, _, _, _⟩ :: _) _ _); go_must (refine wpList_value rfl (exec_buildP rfl rfl rfl rfl _) ?_))
              | ((with_reducible show wpList _ _ _ (⟨Option.none, .store _ (.tmp 10) _, _, _, _, _⟩ :: _) _ _); go_must (refine wpList_storeBlk agg_pr _ (B + 1) 159 (prs Mk.dg0 Mk.dg0 false) HP5.out.2.2.1 rfl (.tmp 10) (.tmp 51) rfl rfl (prs p p false) rfl (prs_len p p false) (prs_len _ _ _) (prs_one p p false) ?_); intro w9 hB9 hg9)
              | fail)
            refine bodyPost_ret (results_cell rfl agg_pr _ w9 (B + 1) rfl (prs p p false) (prs_len p p false) 159 hB9) rfl ?_
            exact ⟨rfl, Ext.grown' HP5.out.2.2.2 hg9 (by omega)⟩
        · have hlt : m < n := by omega
          by_cases hik : m ≤ Mk.sp n
          · obtain ⟨N1, hN1⟩ : ∃ N1, N = N1 + 1 := ⟨N - 1, by omega⟩
            subst hN1
            obtain ⟨ps, p, rfl⟩ : ∃ ps p, L = ps ++ [p] := ⟨L.dropLast, L.getLast (by rintro rfl; simp at hL), (List.dropLast_concat_getLast _).symm⟩
            have hps : ps.length = N1 := by rw [List.length_append, List.length_singleton] at hL; omega
            obtain ⟨A2, hs2, hr2, _⟩ := run_sliceD hr hL hc none (some (.int .i64 (N1 : Int))) 0 N1 (.inl ⟨rfl, rfl⟩) (.inr ⟨_, rfl⟩) (by omega) (by omega)
            rw [List.drop_zero, Nat.sub_zero, List.take_append_of_le_length (by omega), List.take_of_length_le (by omega)] at hr2
            simp only [Nat.sub_zero] at hs2
            obtain ⟨bp, op, hA, hcp⟩ := hr (by rw [dgs_length, hL]; omega)
            subst hA
            have hcpk := dg_cells hcp (i := N1) (by rw [hL]; omega)
            rw [show (ps ++ [p])[N1]'(by rw [hL]; omega) = p from by rw [List.getElem_append_right (by omega)]; simp [hps]] at hcpk
            have HCP := Lib.hid hcpk
            have hbw : bp < w.heap.size := lt_of_cell (hcpk 0 _ (List.getElem?_eq_getElem (by rw [dg_len]; decide)))
            have hw1 : IntKind.i64.wrap (N1 : Int) = (N1 : Int) := IntWalk.i64_in (N1 : Int) (by omega)
            have hsub1 : (((N1 + 1 : Nat) : Int)) - 1 = (N1 : Int) := by omega
            have hN0' : ((((N1 + 1 : Nat)) : Int) == 0) = false := by rw [beq_eq_false_iff_ne]; omega
            have hN0'' : (((N1 : Int) + 1) == 0) = false := by rw [beq_eq_false_iff_ne]; omega
            have h2 : 2 ≤ n := by omega
            have hkl := Mk.sp_lt h2
            have hkp := Mk.sp_pos n
            have HSP := Lib.hid fun w => refsplit_calls n h2 (by omega) w
            obtain ⟨k, hk'⟩ : ∃ k, Mk.sp n = k := ⟨_, rfl⟩
            rw [hk'] at hkl hkp hik
            simp only [hk'] at HSP
            have hdk : decide ((m : Int) ≤ (k : Int)) = true := decide_eq_true (by omega)
            have HPF := Mk.pair_left shF hlt hm (by rw [hk']; exact hik) old b ps p
            rw [hk'] at HPF
            have HIH := Lib.hid fun w' (E : Ext w w') => ih k hkl m hm hik (by omega) b A2 N1 c ps w' (hr2.ext E) hps (by omega) (by omega) (hG.ext E)
            obtain ⟨⟨x, y, bb⟩, hq⟩ : ∃ s, Mk.pairF shF old k m b ps = s := ⟨_, rfl⟩
            rw [hq] at HPF HIH
            rw [HPF]
            simp only
            have HN1 := Lib.hid fun w' (E : Ext w w') => refnode_calls y p w' (hG.ext E)
            obtain ⟨d1, hd1⟩ : ∃ R, Mk.nd shF y p = R := ⟨_, rfl⟩
            rw [hd1]
            simp only [hd1] at HN1
            have hmn1 : ((m : Int) == (n : Int)) = false := by rw [beq_eq_false_iff_ne]; omega
            clear hr hL HPF ih hG hcp hcpk hq hd1 hk'
            go_enter Tryd.func106, Tryd.ntmps106
            go_upto_region 1 with (first
              | ((with_reducible show wpList _ _ _ (⟨some 5, _, _, _, _, _⟩ :: _) _ _); go_must (refine wpList_boxAgg 45 _ rfl (.tmp 0) rfl _ rfl ?_)))
            rw [show (#[.int .u8 0, .int .u8 0, .int .u8 0, .int .u8 0, .int .u8 0, .int .u8 0, .int .u8 0, .int .u8 0, .int .u8 0, .int .u8 0, .int .u8 0, .int .u8 0, .int .u8 0, .int .u8 0, .int .u8 0, .int .u8 0, .int .u8 0, .int .u8 0, .int .u8 0, .int .u8 0, .int .u8 0, .int .u8 0, .int .u8 0, .int .u8 0, .int .u8 0, .int .u8 0, .int .u8 0, .int .u8 0, .int .u8 0, .int .u8 0, .int .u8 0, .int .u8 0, .bool false] : Array Value) = (prs Mk.dg0 Mk.dg0 false).toArray from rfl]
            generalize (w.alloc (Obj.cells (u8s old.1).toArray 45)).alloc (Obj.cells (prs Mk.dg0 Mk.dg0 false).toArray 159) = w1 at HB ⊢
            go_upto_region 7 with (first
              | ((with_reducible show wpList _ _ _ (⟨some 37, _, _, _, _, _⟩ :: _) _ _); go_must (refine wpList_loadAgg agg_dg w1 rfl (.tmp 36) rfl bp (op + N1 * 16) rfl (u8s p.1) (dg_len p) (fun j u hu => (HB.out.2.2.cell (p := ⟨bp, op + N1 * 16 + j, none⟩) hbw).trans (HCP.out j u hu)) ?_))
              | ((with_reducible show wpList _ _ _ (⟨Option.none, .store _ (.tmp 11) _, _, _, _, _⟩ :: _) _ _); go_must (refine wpList_storeNew agg_dg w1 _ 45 rfl (.tmp 11) (.tmp 37) rfl rfl (u8s p.1) rfl (dg_len p) rfl (u8s_one _) ?_))
              | ((with_reducible show wpList _ _ _ (⟨some 42, _, _, _, _, _⟩ :: _) _ _); go_must (refine wpList_value rfl (exec_slice rfl rfl rfl rfl hs2 _) ?_))
              | fail)
            have HP5 : Hid (Blk (w1.alloc (.cells (u8s p.1).toArray 45)) w1.heap.size 45 (u8s p.1) ∧ Blk (w1.alloc (.cells (u8s p.1).toArray 45)) B 45 (u8s old.1) ∧ Blk (w1.alloc (.cells (u8s p.1).toArray 45)) (B + 1) 159 (prs Mk.dg0 Mk.dg0 false) ∧ Ext w (w1.alloc (.cells (u8s p.1).toArray 45))) := Lib.hid ⟨Blk.new _ _ _, HB.out.1.alloc _, HB.out.2.1.alloc _, HB.out.2.2.alloc _⟩
            generalize w1.alloc (.cells (u8s p.1).toArray 45) = w5 at HP5 ⊢
            obtain ⟨g11, hg11⟩ : ∃ g, w1.heap.size = g := ⟨_, rfl⟩
            rw [hg11] at HP5 ⊢
            clear hg11 HB
            go_upto_region 12 with (first
              | ((with_reducible refine (HSP.out _).mono ?_); rintro e w6 ⟨rfl, rfl⟩)
              | ((with_reducible show wpList _ _ _ (⟨some 57, _, _, _, _, _⟩ :: _) _ _); go_must (refine wpList_loadAgg agg_dg w5 rfl (.tmp 5) rfl B 0 rfl (u8s old.1) (dg_len old) HP5.out.2.1.at0 ?_))
              | ((with_reducible refine (HIH.out w5 HP5.out.2.2.2).mono ?_); rintro e w7 ⟨rfl, E7⟩)
              | ((with_reducible show wpList _ _ _ (⟨Option.none, .store _ (.tmp 14) _, _, _, _, _⟩ :: _) _ _); go_must (refine wpList_storeNew agg_pr w7 _ 159 rfl (.tmp 14) (.tmp 62) rfl rfl (prs x y bb) rfl (prs_len x y bb) rfl (prs_one x y bb) ?_))
              | fail)
            have HZ0 : Hid (Blk (w7.alloc (.cells (prs x y bb).toArray 159)) w7.heap.size 159 (prs x y bb) ∧ Ext w5 (w7.alloc (.cells (prs x y bb).toArray 159))) := Lib.hid ⟨Blk.new _ _ _, Ext.alloc E7 _⟩
            generalize w7.alloc (.cells (prs x y bb).toArray 159) = w8 at HZ0 ⊢
            obtain ⟨g14, hg14⟩ : ∃ g, w7.heap.size = g := ⟨_, rfl⟩
            rw [hg14] at HZ0 ⊢
            have HQ8 := Lib.hid HZ0.out.1
            have HP8 := Lib.hid (HP5.out.1.below HZ0.out.2)
            have HZ8 := Lib.hid (HP5.out.2.2.1.below HZ0.out.2)
            have E8 := HP5.out.2.2.2.trans HZ0.out.2
            clear hg14 HZ0 E7 HP5
            refine wp_region_quiet_tail (fun w' => Ext w8 w') 9 (by kernel_rfl) (by kernel_rfl) (Ext.refl w8).drew ?_
            simp only [List.take_succ_cons, List.take_zero, List.drop_succ_cons, List.drop_zero]
            refine wpQuiet_one rfl (quiet_val (v := .pointer (some ⟨g14, 0, none⟩)) (fun w' E => by go_simp) ?_)
            simp only [Act.put, List.getElem_toArray, List.getElem_cons_succ, List.getElem_cons_zero, List.setIfInBounds_toArray, List.set_cons_succ, List.set_cons_zero]
            refine wpQuiet_one rfl (quiet_load agg_dg (.tmp 63) rfl g14 0 rfl (u8s x.1) (dg_len x) (fun w' E => prs_x (HQ8.out.below E)) ?_)
            simp only [Act.put, List.getElem_toArray, List.getElem_cons_succ, List.getElem_cons_zero, List.setIfInBounds_toArray, List.set_cons_succ, List.set_cons_zero]
            refine wpQuiet_one rfl (quiet_val (v := .pointer (some ⟨g14, 16, none⟩)) (fun w' E => by go_simp) ?_)
            simp only [Act.put, List.getElem_toArray, List.getElem_cons_succ, List.getElem_cons_zero, List.setIfInBounds_toArray, List.set_cons_succ, List.set_cons_zero]
            refine wpQuiet_one rfl (quiet_load agg_dg (.tmp 65) rfl g14 16 rfl (u8s y.1) (dg_len y) (fun w' E => prs_y (HQ8.out.below E)) ?_)
            simp only [Act.put, List.getElem_toArray, List.getElem_cons_succ, List.getElem_cons_zero, List.setIfInBounds_toArray, List.set_cons_succ, List.set_cons_zero]
            refine wpQuiet_one rfl (quiet_load agg_dg (.tmp 11) rfl g11 0 rfl (u8s p.1) (dg_len p) (fun w' E => (HP8.out.below E).at0) ?_)
            simp only [Act.put, List.getElem_toArray, List.getElem_cons_succ, List.getElem_cons_zero, List.setIfInBounds_toArray, List.set_cons_succ, List.set_cons_zero]
            refine wpQuiet_one rfl (quiet_call (f := 101) (args := #[dgV y, dgV p]) (v := dgV d1) (fun w' _ => by go_simp) (fun w' E => (HN1.out w' (E8.trans E)).mono fun e w'' h => ⟨h.1, E.trans h.2⟩) ?_)
            simp only [Act.put, List.getElem_toArray, List.getElem_cons_succ, List.getElem_cons_zero, List.setIfInBounds_toArray, List.set_cons_succ, List.set_cons_zero]
            refine wpQuiet_one rfl (quiet_val (v := .pointer (some ⟨g14, 32, none⟩)) (fun w' E => by go_simp) ?_)
            simp only [Act.put, List.getElem_toArray, List.getElem_cons_succ, List.getElem_cons_zero, List.setIfInBounds_toArray, List.set_cons_succ, List.set_cons_zero]
            refine wpQuiet_one rfl (quiet_val (v := .bool bb) (fun w' E => by have hc := prs_b (HQ8.out.below E); go_simp) ?_)
            simp only [Act.put, List.getElem_toArray, List.getElem_cons_succ, List.getElem_cons_zero, List.setIfInBounds_toArray, List.set_cons_succ, List.set_cons_zero]
            refine wpQuiet_one rfl (quiet_val (v := prV x d1 bb) (fun w' E => exec_buildP rfl rfl rfl rfl w') ?_)
            simp only [Act.put, List.getElem_toArray, List.getElem_cons_succ, List.getElem_cons_zero, List.setIfInBounds_toArray, List.set_cons_succ, List.set_cons_zero]
            refine wpQuiet_nil ?_
            intro w8' E9
            go_wp2_with (first
              | ((with_reducible show wpList _ _ _ (⟨Option.none, .store _ (.tmp 10) _, _, _, _, _⟩ :: _) _ _); go_must (refine wpList_storeBlk agg_pr _ (B + 1) 159 (prs Mk.dg0 Mk.dg0 false) (HZ8.out.below E9) rfl (.tmp 10) (.tmp 71) rfl rfl (prs x d1 bb) rfl (prs_len x d1 bb) (prs_len _ _ _) (prs_one x d1 bb) ?_); intro w9 hB9 hg9)
              | fail)
            refine bodyPost_ret (results_cell rfl agg_pr _ w9 (B + 1) rfl (prs x d1 bb) (prs_len x d1 bb) 159 hB9) rfl ?_
            exact ⟨rfl, Ext.grown' (E8.trans E9) hg9 (by omega)⟩
          · obtain ⟨N1, hN1⟩ : ∃ N1, N = N1 + 1 := ⟨N - 1, by omega⟩
            subst hN1
            obtain ⟨ps, p, rfl⟩ : ∃ ps p, L = ps ++ [p] := ⟨L.dropLast, L.getLast (by rintro rfl; simp at hL), (List.dropLast_concat_getLast _).symm⟩
            have hps : ps.length = N1 := by rw [List.length_append, List.length_singleton] at hL; omega
            obtain ⟨A2, hs2, hr2, _⟩ := run_sliceD hr hL hc none (some (.int .i64 (N1 : Int))) 0 N1 (.inl ⟨rfl, rfl⟩) (.inr ⟨_, rfl⟩) (by omega) (by omega)
            rw [List.drop_zero, Nat.sub_zero, List.take_append_of_le_length (by omega), List.take_of_length_le (by omega)] at hr2
            simp only [Nat.sub_zero] at hs2
            obtain ⟨bp, op, hA, hcp⟩ := hr (by rw [dgs_length, hL]; omega)
            subst hA
            have hcpk := dg_cells hcp (i := N1) (by rw [hL]; omega)
            rw [show (ps ++ [p])[N1]'(by rw [hL]; omega) = p from by rw [List.getElem_append_right (by omega)]; simp [hps]] at hcpk
            have HCP := Lib.hid hcpk
            have hbw : bp < w.heap.size := lt_of_cell (hcpk 0 _ (List.getElem?_eq_getElem (by rw [dg_len]; decide)))
            have hw1 : IntKind.i64.wrap (N1 : Int) = (N1 : Int) := IntWalk.i64_in (N1 : Int) (by omega)
            have hsub1 : (((N1 + 1 : Nat) : Int)) - 1 = (N1 : Int) := by omega
            have hN0' : ((((N1 + 1 : Nat)) : Int) == 0) = false := by rw [beq_eq_false_iff_ne]; omega
            have hN0'' : (((N1 : Int) + 1) == 0) = false := by rw [beq_eq_false_iff_ne]; omega
            have h2 : 2 ≤ n := by omega
            have hkl := Mk.sp_lt h2
            have hkp := Mk.sp_pos n
            have HSP := Lib.hid fun w => refsplit_calls n h2 (by omega) w
            obtain ⟨k, hk'⟩ : ∃ k, Mk.sp n = k := ⟨_, rfl⟩
            rw [hk'] at hkl hkp hik
            simp only [hk'] at HSP
            have hdk : decide ((m : Int) ≤ (k : Int)) = false := by rw [decide_eq_false_iff_not]; omega
            have hsm : (m : Int) - (k : Int) = ((m - k : Nat) : Int) := by omega
            have hsn : (n : Int) - (k : Int) = ((n - k : Nat) : Int) := by omega
            have HPF := Mk.pair_right shF hlt (by rw [hk']; omega) old b ps p
            rw [hk'] at HPF
            have HIH := Lib.hid fun w' (E : Ext w w') => ih (n - k) (by omega) (m - k) (by omega) (by omega) (by omega) false A2 N1 c ps w' (hr2.ext E) hps (by omega) (by omega) (hG.ext E)
            obtain ⟨⟨x, y, bb⟩, hq⟩ : ∃ s, Mk.pairF shF old (n - k) (m - k) false ps = s := ⟨_, rfl⟩
            rw [hq] at HPF HIH
            rw [HPF]
            simp only
            have HN1 := Lib.hid fun w' (E : Ext w w') => refnode_calls p x w' (hG.ext E)
            have HN2 := Lib.hid fun w' (E : Ext w w') => refnode_calls p y w' (hG.ext E)
            obtain ⟨d1, hd1⟩ : ∃ R, Mk.nd shF p x = R := ⟨_, rfl⟩
            obtain ⟨d2, hd2⟩ : ∃ R, Mk.nd shF p y = R := ⟨_, rfl⟩
            rw [hd1, hd2]
            simp only [hd1] at HN1
            simp only [hd2] at HN2
            have hmn1 : ((m : Int) == (n : Int)) = false := by rw [beq_eq_false_iff_ne]; omega
            clear hr hL HPF ih hG hcp hcpk hq hd1 hd2 hk'
            go_enter Tryd.func106, Tryd.ntmps106
            go_upto_region 1 with (first
              | ((with_reducible show wpList _ _ _ (⟨some 5, _, _, _, _, _⟩ :: _) _ _); go_must (refine wpList_boxAgg 45 _ rfl (.tmp 0) rfl _ rfl ?_)))
            rw [show (#[.int .u8 0, .int .u8 0, .int .u8 0, .int .u8 0, .int .u8 0, .int .u8 0, .int .u8 0, .int .u8 0, .int .u8 0, .int .u8 0, .int .u8 0, .int .u8 0, .int .u8 0, .int .u8 0, .int .u8 0, .int .u8 0, .int .u8 0, .int .u8 0, .int .u8 0, .int .u8 0, .int .u8 0, .int .u8 0, .int .u8 0, .int .u8 0, .int .u8 0, .int .u8 0, .int .u8 0, .int .u8 0, .int .u8 0, .int .u8 0, .int .u8 0, .int .u8 0, .bool false] : Array Value) = (prs Mk.dg0 Mk.dg0 false).toArray from rfl]
            generalize (w.alloc (Obj.cells (u8s old.1).toArray 45)).alloc (Obj.cells (prs Mk.dg0 Mk.dg0 false).toArray 159) = w1 at HB ⊢
            go_upto_region 7 with (first
              | ((with_reducible show wpList _ _ _ (⟨some 37, _, _, _, _, _⟩ :: _) _ _); go_must (refine wpList_loadAgg agg_dg w1 rfl (.tmp 36) rfl bp (op + N1 * 16) rfl (u8s p.1) (dg_len p) (fun j u hu => (HB.out.2.2.cell (p := ⟨bp, op + N1 * 16 + j, none⟩) hbw).trans (HCP.out j u hu)) ?_))
              | ((with_reducible show wpList _ _ _ (⟨Option.none, .store _ (.tmp 11) _, _, _, _, _⟩ :: _) _ _); go_must (refine wpList_storeNew agg_dg w1 _ 45 rfl (.tmp 11) (.tmp 37) rfl rfl (u8s p.1) rfl (dg_len p) rfl (u8s_one _) ?_))
              | ((with_reducible show wpList _ _ _ (⟨some 42, _, _, _, _, _⟩ :: _) _ _); go_must (refine wpList_value rfl (exec_slice rfl rfl rfl rfl hs2 _) ?_))
              | fail)
            have HP5 : Hid (Blk (w1.alloc (.cells (u8s p.1).toArray 45)) w1.heap.size 45 (u8s p.1) ∧ Blk (w1.alloc (.cells (u8s p.1).toArray 45)) B 45 (u8s old.1) ∧ Blk (w1.alloc (.cells (u8s p.1).toArray 45)) (B + 1) 159 (prs Mk.dg0 Mk.dg0 false) ∧ Ext w (w1.alloc (.cells (u8s p.1).toArray 45))) := Lib.hid ⟨Blk.new _ _ _, HB.out.1.alloc _, HB.out.2.1.alloc _, HB.out.2.2.alloc _⟩
            generalize w1.alloc (.cells (u8s p.1).toArray 45) = w5 at HP5 ⊢
            obtain ⟨g11, hg11⟩ : ∃ g, w1.heap.size = g := ⟨_, rfl⟩
            rw [hg11] at HP5 ⊢
            clear hg11 HB
            go_upto_region 14 with (first
              | ((with_reducible refine (HSP.out _).mono ?_); rintro e w6 ⟨rfl, rfl⟩)
              | ((with_reducible show wpList _ _ _ (⟨some 72, _, _, _, _, _⟩ :: _) _ _); go_must (refine wpList_loadAgg agg_dg w5 rfl (.tmp 5) rfl B 0 rfl (u8s old.1) (dg_len old) HP5.out.2.1.at0 ?_))
              | ((with_reducible refine (HIH.out w5 HP5.out.2.2.2).mono ?_); rintro e w7 ⟨rfl, E7⟩)
              | ((with_reducible show wpList _ _ _ (⟨Option.none, .store _ (.tmp 15) _, _, _, _, _⟩ :: _) _ _); go_must (refine wpList_storeNew agg_pr w7 _ 159 rfl (.tmp 15) (.tmp 80) rfl rfl (prs x y bb) rfl (prs_len x y bb) rfl (prs_one x y bb) ?_))
              | fail)
            have HZ0 : Hid (Blk (w7.alloc (.cells (prs x y bb).toArray 159)) w7.heap.size 159 (prs x y bb) ∧ Ext w5 (w7.alloc (.cells (prs x y bb).toArray 159))) := Lib.hid ⟨Blk.new _ _ _, Ext.alloc E7 _⟩
            generalize w7.alloc (.cells (prs x y bb).toArray 159) = w8 at HZ0 ⊢
            obtain ⟨g14, hg14⟩ : ∃ g, w7.heap.size = g := ⟨_, rfl⟩
            rw [hg14] at HZ0 ⊢
            have HQ8 := Lib.hid HZ0.out.1
            have HP8 := Lib.hid (HP5.out.1.below HZ0.out.2)
            have HZ8 := Lib.hid (HP5.out.2.2.1.below HZ0.out.2)
            have E8 := HP5.out.2.2.2.trans HZ0.out.2
            clear hg14 HZ0 E7 HP5
            refine wp_region_quiet_tail (fun w' => Ext w8 w') 11 (by kernel_rfl) (by kernel_rfl) (Ext.refl w8).drew ?_
            simp only [List.take_succ_cons, List.take_zero, List.drop_succ_cons, List.drop_zero]
            refine wpQuiet_one rfl (quiet_load agg_dg (.tmp 11) rfl g11 0 rfl (u8s p.1) (dg_len p) (fun w' E => (HP8.out.below E).at0) ?_)
            simp only [Act.put, List.getElem_toArray, List.getElem_cons_succ, List.getElem_cons_zero, List.setIfInBounds_toArray, List.set_cons_succ, List.set_cons_zero]
            refine wpQuiet_one rfl (quiet_val (v := .pointer (some ⟨g14, 0, none⟩)) (fun w' E => by go_simp) ?_)
            simp only [Act.put, List.getElem_toArray, List.getElem_cons_succ, List.getElem_cons_zero, List.setIfInBounds_toArray, List.set_cons_succ, List.set_cons_zero]
            refine wpQuiet_one rfl (quiet_load agg_dg (.tmp 82) rfl g14 0 rfl (u8s x.1) (dg_len x) (fun w' E => prs_x (HQ8.out.below E)) ?_)
            simp only [Act.put, List.getElem_toArray, List.getElem_cons_succ, List.getElem_cons_zero, List.setIfInBounds_toArray, List.set_cons_succ, List.set_cons_zero]
            refine wpQuiet_one rfl (quiet_call (f := 101) (args := #[dgV p, dgV x]) (v := dgV d1) (fun w' _ => by go_simp) (fun w' E => (HN1.out w' (E8.trans E)).mono fun e w'' h => ⟨h.1, E.trans h.2⟩) ?_)
            simp only [Act.put, List.getElem_toArray, List.getElem_cons_succ, List.getElem_cons_zero, List.setIfInBounds_toArray, List.set_cons_succ, List.set_cons_zero]
            refine wpQuiet_one rfl (quiet_load agg_dg (.tmp 11) rfl g11 0 rfl (u8s p.1) (dg_len p) (fun w' E => (HP8.out.below E).at0) ?_)
            simp only [Act.put, List.getElem_toArray, List.getElem_cons_succ, List.getElem_cons_zero, List.setIfInBounds_toArray, List.set_cons_succ, List.set_cons_zero]
            refine wpQuiet_one rfl (quiet_val (v := .pointer (some ⟨g14, 16, none⟩)) (fun w' E => by go_simp) ?_)
            simp only [Act.put, List.getElem_toArray, List.getElem_cons_succ, List.getElem_cons_zero, List.setIfInBounds_toArray, List.set_cons_succ, List.set_cons_zero]
            refine wpQuiet_one rfl (quiet_load agg_dg (.tmp 86) rfl g14 16 rfl (u8s y.1) (dg_len y) (fun w' E => prs_y (HQ8.out.below E)) ?_)
            simp only [Act.put, List.getElem_toArray, List.getElem_cons_succ, List.getElem_cons_zero, List.setIfInBounds_toArray, List.set_cons_succ, List.set_cons_zero]
            refine wpQuiet_one rfl (quiet_call (f := 101) (args := #[dgV p, dgV y]) (v := dgV d2) (fun w' _ => by go_simp) (fun w' E => (HN2.out w' (E8.trans E)).mono fun e w'' h => ⟨h.1, E.trans h.2⟩) ?_)
            simp only [Act.put, List.getElem_toArray, List.getElem_cons_succ, List.getElem_cons_zero, List.setIfInBounds_toArray, List.set_cons_succ, List.set_cons_zero]
            refine wpQuiet_one rfl (quiet_val (v := .pointer (some ⟨g14, 32, none⟩)) (fun w' E => by go_simp) ?_)
            simp only [Act.put, List.getElem_toArray, List.getElem_cons_succ, List.getElem_cons_zero, List.setIfInBounds_toArray, List.set_cons_succ, List.set_cons_zero]
            refine wpQuiet_one rfl (quiet_val (v := .bool bb) (fun w' E => by have hc := prs_b (HQ8.out.below E); go_simp) ?_)
            simp only [Act.put, List.getElem_toArray, List.getElem_cons_succ, List.getElem_cons_zero, List.setIfInBounds_toArray, List.set_cons_succ, List.set_cons_zero]
            refine wpQuiet_one rfl (quiet_val (v := prV d1 d2 bb) (fun w' E => exec_buildP rfl rfl rfl rfl w') ?_)
            simp only [Act.put, List.getElem_toArray, List.getElem_cons_succ, List.getElem_cons_zero, List.setIfInBounds_toArray, List.set_cons_succ, List.set_cons_zero]
            refine wpQuiet_nil ?_
            intro w8' E9
            go_wp2_with (first
              | ((with_reducible show wpList _ _ _ (⟨Option.none, .store _ (.tmp 10) _, _, _, _, _⟩ :: _) _ _); go_must (refine wpList_storeBlk agg_pr _ (B + 1) 159 (prs Mk.dg0 Mk.dg0 false) (HZ8.out.below E9) rfl (.tmp 10) (.tmp 91) rfl rfl (prs d1 d2 bb) rfl (prs_len d1 d2 bb) (prs_len _ _ _) (prs_one d1 d2 bb) ?_); intro w9 hB9 hg9)
              | fail)
            refine bodyPost_ret (results_cell rfl agg_pr _ w9 (B + 1) rfl (prs d1 d2 bb) (prs_len d1 d2 bb) 159 hB9) rfl ?_
            exact ⟨rfl, Ext.grown' (E8.trans E9) hg9 (by omega)⟩
end Go.Proofs.YtcjeclddpkinkaaDoor
