/- The reference's VerifyPrefix; both sides for whatever numbers. -/
import Derived.Test.YtcjeclddpkinkaaDoorD33
set_option linter.unusedSimpArgs false
set_option linter.unusedVariables false
namespace Go.Proofs.YtcjeclddpkinkaaDoor
open Go.RowKit
open Wz (Dg)

theorem vp_all (old root : Dg) (m n : Int) (hn : n ≤ 9223372036854775807) (A : Option Addr) (N c : Nat) (L : List Dg) (w : World) (hr : Rd w A (dgs L)) (hL : L.length = N) (hc : N ≤ c) (hN : N ≤ 1000) (hG : Glo w) :
    Calls Tryd.prog 47 #[dgV old, dgV root, .int .i64 m, .int .i64 n, .slice A N c] w (fun e w' => e = .returned (.bool (vpZ old root m n L)) ∧ Ext w w') := by
  unfold vpZ
  by_cases h : m < 1 ∨ n < m
  · rw [if_pos h]
    exact vp_bad old root m n A N c w h
  · rw [if_neg h]
    obtain ⟨m', rfl⟩ : ∃ n' : Nat, m = (n' : Int) := ⟨m.toNat, by omega⟩
    obtain ⟨n', rfl⟩ : ∃ n' : Nat, n = (n' : Int) := ⟨n.toNat, by omega⟩
    exact vp_good old root m' n' A N c L w hr hL hc hN (by omega) (by omega) (by omega) hG
set_option maxRecDepth 100000 in
set_option maxHeartbeats 400000 in
theorem refvp_bad (old root : Dg) (m n : Int) (A : Option Addr) (N c : Nat) (w : World) (hi : m < 1 ∨ n < m) :
    Calls Tryd.prog 48 #[dgV old, dgV root, .int .i64 m, .int .i64 n, .slice A N c] w (fun e w' => e = .returned (.bool false) ∧ Ext w w') := by
  by_cases h0 : m < 1
  · have hd : decide (m < 1) = true := decide_eq_true h0
    clear hi h0
    go_enter Tryd.func48, Tryd.ntmps48
    go_wp2_with (first
      | ((with_reducible show wpList _ _ _ (⟨some 5, _, _, _, _, _⟩ :: _) _ _); go_must (refine wpList_boxAgg 45 _ rfl (.tmp 0) rfl _ rfl ?_))
      | ((with_reducible show wpList _ _ _ (⟨some 6, _, _, _, _, _⟩ :: _) _ _); go_must (refine wpList_boxAgg 45 _ rfl (.tmp 1) rfl _ rfl ?_)))
    go_ret
    exact ⟨rfl, ((Ext.refl w).alloc _).alloc _⟩
  · have hd : decide (m < 1) = false := decide_eq_false h0
    have hd2 : decide (m > n) = true := decide_eq_true (by omega)
    have hd3 : decide (n < m) = true := decide_eq_true (by omega)
    clear hi h0
    go_enter Tryd.func48, Tryd.ntmps48
    go_wp2_with (first
      | ((with_reducible show wpList _ _ _ (⟨some 5, _, _, _, _, _⟩ :: _) _ _); go_must (refine wpList_boxAgg 45 _ rfl (.tmp 0) rfl _ rfl ?_))
      | ((with_reducible show wpList _ _ _ (⟨some 6, _, _, _, _, _⟩ :: _) _ _); go_must (refine wpList_boxAgg 45 _ rfl (.tmp 1) rfl _ rfl ?_)))
    go_ret
    exact ⟨rfl, ((Ext.refl w).alloc _).alloc _⟩
theorem exec_load1 {o : Oper} {a : Act} {x : Operand} {b : Bool} {w : World} {g off : Nat} (ho : o.op = .load 4 x) (hx : a.eval x = .pointer (some ⟨g, off, none⟩)) (hc : w.cell? ⟨g, off, none⟩ = some (.bool b)) : (execOp a.eval o).run Tryd.prog w = .ok (.value (.bool b)) w := by
  unfold execOp
  rw [ho]
  simp only [Sem.run_bind, Sem.run_pure, hx]
  go_simp

set_option maxRecDepth 100000 in
set_option maxHeartbeats 1000000 in
theorem refvp_good (old root : Dg) (m n : Nat) (A : Option Addr) (N c : Nat) (L : List Dg) (w : World) (hr : Rd w A (dgs L)) (hL : L.length = N) (hc : N ≤ c) (hN : N ≤ 1000) (hm : 1 ≤ m) (hmn : m ≤ n) (hn : n ≤ 9223372036854775807) (hG : GloR w) :
    Calls Tryd.prog 48 #[dgV old, dgV root, .int .i64 (m : Int), .int .i64 (n : Int), .slice A N c] w (fun e w' => e = .returned (.bool (Mk.vpF shF old root m n L)) ∧ Ext w w') := by
  have HPR := Lib.hid fun w' (E : Ext w w') => pair_calls old n m hm hmn hn true A N c L w' (hr.ext E) hL hc hN (hG.ext E)
  have hV : Mk.vpF shF old root m n L = ((Mk.pairF shF old n m true L).2.2 && decide ((Mk.pairF shF old n m true L).1 = old) && decide ((Mk.pairF shF old n m true L).2.1 = root)) := by
    rw [← Mk.rvp_eq]
    unfold Mk.rvpF
    rw [if_neg (by omega)]
  obtain ⟨⟨x, y, bb⟩, hq⟩ : ∃ s, Mk.pairF shF old n m true L = s := ⟨_, rfl⟩
  rw [hq] at hV
  simp only [hq] at HPR
  obtain ⟨r, hrr⟩ : ∃ r, Mk.vpF shF old root m n L = r := ⟨_, rfl⟩
  rw [hrr] at hV ⊢
  have HV := Lib.hid hV
  have hd : decide ((m : Int) < 1) = false := by rw [decide_eq_false_iff_not]; omega
  have hd2 : decide ((m : Int) > (n : Int)) = false := by rw [decide_eq_false_iff_not]; omega
  have hd2n : decide (n < m) = false := by rw [decide_eq_false_iff_not]; omega
  obtain ⟨B, hB⟩ : ∃ B, w.heap.size = B := ⟨_, rfl⟩
  have HB : Hid (Blk ((w.alloc (Obj.cells (u8s old.1).toArray 45)).alloc (Obj.cells (u8s root.1).toArray 45)) B 45 (u8s old.1) ∧ Blk ((w.alloc (Obj.cells (u8s old.1).toArray 45)).alloc (Obj.cells (u8s root.1).toArray 45)) (B + 1) 45 (u8s root.1) ∧ Ext w ((w.alloc (Obj.cells (u8s old.1).toArray 45)).alloc (Obj.cells (u8s root.1).toArray 45))) := by
    subst hB
    refine Lib.hid ⟨(Blk.new w _ 45).alloc _, ?_, ((Ext.refl w).alloc _).alloc _⟩
    have := Blk.new (w.alloc (Obj.cells (u8s old.1).toArray 45)) (u8s root.1) 45
    rwa [World.size_alloc] at this
  clear hr hL hG hrr hq hV
  go_enter Tryd.func48, Tryd.ntmps48
  go_upto_region 1 with (first
      | ((with_reducible show wpList _ _ _ (⟨some 5, _, _, _, _, _⟩ :: _) _ _); go_must (refine wpList_boxAgg 45 _ rfl (.tmp 0) rfl _ rfl ?_))
      | ((with_reducible show wpList _ _ _ (⟨some 6, _, _, _, _, _⟩ :: _) _ _); go_must (refine wpList_boxAgg 45 _ rfl (.tmp 1) rfl _ rfl ?_)))
  generalize (w.alloc (Obj.cells (u8s old.1).toArray 45)).alloc (Obj.cells (u8s root.1).toArray 45) = w1 at HB ⊢
  go_upto_region 4 with (first
    | ((with_reducible show wpList _ _ _ (⟨some 19, _, _, _, _, _⟩ :: _) _ _); go_must (refine wpList_loadAgg agg_dg w1 rfl (.tmp 5) rfl B 0 rfl (u8s old.1) (dg_len old) HB.out.1.at0 ?_))
    | ((with_reducible refine (HPR.out w1 HB.out.2.2).mono ?_); rintro e w2 ⟨rfl, E2⟩)
    | ((with_reducible show wpList _ _ _ (⟨Option.none, .store _ (.tmp 11) _, _, _, _, _⟩ :: _) _ _); go_must (refine wpList_storeNew agg_pr w2 _ 159 rfl (.tmp 11) (.tmp 23) rfl rfl (prs x y bb) rfl (prs_len x y bb) rfl (prs_one x y bb) ?_))
    | fail)
  have HP5 : Hid (Blk (w2.alloc (.cells (prs x y bb).toArray 159)) B 45 (u8s old.1) ∧ Blk (w2.alloc (.cells (prs x y bb).toArray 159)) (B + 1) 45 (u8s root.1) ∧ Blk (w2.alloc (.cells (prs x y bb).toArray 159)) w2.heap.size 159 (prs x y bb) ∧ Ext w (w2.alloc (.cells (prs x y bb).toArray 159))) := Lib.hid ⟨(HB.out.1.below E2).alloc _, (HB.out.2.1.below E2).alloc _, Blk.new _ _ _, (HB.out.2.2.trans E2).alloc _⟩
  generalize w2.alloc (.cells (prs x y bb).toArray 159) = w5 at HP5 ⊢
  obtain ⟨g11, hg11⟩ : ∃ g, w2.heap.size = g := ⟨_, rfl⟩
  rw [hg11] at HP5 ⊢
  clear hg11 HB hB
  have hld : ∀ (o : Oper) (a : Act), o.op = .load 4 (.tmp 24) → a.eval (.tmp 24) = .pointer (some ⟨g11, 32, none⟩) → (execOp a.eval o).run Tryd.prog w5 = .ok (.value (.bool bb)) w5 := fun o a h1 h2 => exec_load1 h1 h2 (prs_b HP5.out.2.2.1)
  cases bb with
  | false =>
    have hr1 : r = false := by rw [HV.out]; rfl
    have HRR := Lib.hid hr1
    clear hr1
    go_wp2_with (first
      | ((with_reducible show wpList _ _ _ (⟨some 25, _, _, _, _, _⟩ :: _) _ _); go_must (refine wpList_valueG (by kernel_rfl) (hld _ _ rfl rfl) ?_))
      | ((with_reducible show wpList _ _ _ (⟨some 28, _, _, _, _, _⟩ :: _) _ _); go_must (refine wpList_valueG (by kernel_rfl) (exec_loadD (d := x) rfl rfl (prs_x HP5.out.2.2.1)) ?_))
      | ((with_reducible show wpList _ _ _ (⟨some 29, _, _, _, _, _⟩ :: _) _ _); go_must (refine wpList_valueG (by kernel_rfl) (exec_loadD (d := old) rfl rfl HP5.out.1.at0) ?_))
      | ((with_reducible show wpList _ _ _ (⟨some 34, _, _, _, _, _⟩ :: _) _ _); go_must (refine wpList_valueG (by kernel_rfl) (exec_loadD (d := y) rfl rfl (prs_y HP5.out.2.2.1)) ?_))
      | ((with_reducible show wpList _ _ _ (⟨some 35, _, _, _, _, _⟩ :: _) _ _); go_must (refine wpList_valueG (by kernel_rfl) (exec_loadD (d := root) rfl rfl HP5.out.2.1.at0) ?_))
      | fail)
    go_ret
    exact ⟨by rw [HRR.out]; rfl, HP5.out.2.2.2⟩
  | true =>
    by_cases h1 : x = old
    · by_cases h2 : y = root
      · skip
        have hr1 : r = true := by rw [HV.out]; rw [decide_eq_true h1, decide_eq_true h2]; rfl
        have HRR := Lib.hid hr1
        clear hr1
        go_wp2_with (first
          | ((with_reducible show wpList _ _ _ (⟨some 25, _, _, _, _, _⟩ :: _) _ _); go_must (refine wpList_valueG (by kernel_rfl) (hld _ _ rfl rfl) ?_))
          | ((with_reducible show wpList _ _ _ (⟨some 28, _, _, _, _, _⟩ :: _) _ _); go_must (refine wpList_valueG (by kernel_rfl) (exec_loadD (d := x) rfl rfl (prs_x HP5.out.2.2.1)) ?_))
          | ((with_reducible show wpList _ _ _ (⟨some 29, _, _, _, _, _⟩ :: _) _ _); go_must (refine wpList_valueG (by kernel_rfl) (exec_loadD (d := old) rfl rfl HP5.out.1.at0) ?_))
          | ((with_reducible show wpList _ _ _ (⟨some 30, _, _, _, _, _⟩ :: _) _ _); go_must (refine wpList_valueG (by kernel_rfl) (exec_eqlD_eq h1 rfl rfl rfl _) ?_))
          | ((with_reducible show wpList _ _ _ (⟨some 34, _, _, _, _, _⟩ :: _) _ _); go_must (refine wpList_valueG (by kernel_rfl) (exec_loadD (d := y) rfl rfl (prs_y HP5.out.2.2.1)) ?_))
          | ((with_reducible show wpList _ _ _ (⟨some 35, _, _, _, _, _⟩ :: _) _ _); go_must (refine wpList_valueG (by kernel_rfl) (exec_loadD (d := root) rfl rfl HP5.out.2.1.at0) ?_))
          | ((with_reducible show wpList _ _ _ (⟨some 36, _, _, _, _, _⟩ :: _) _ _); go_must (refine wpList_valueG (by kernel_rfl) (exec_eqlD_eq h2 rfl rfl rfl _) ?_))
          | fail)
        go_ret
        exact ⟨by rw [HRR.out]; rfl, HP5.out.2.2.2⟩
      · skip
        have hr1 : r = false := by rw [HV.out]; rw [decide_eq_true h1, decide_eq_false h2]; rfl
        have HRR := Lib.hid hr1
        clear hr1
        go_wp2_with (first
          | ((with_reducible show wpList _ _ _ (⟨some 25, _, _, _, _, _⟩ :: _) _ _); go_must (refine wpList_valueG (by kernel_rfl) (hld _ _ rfl rfl) ?_))
          | ((with_reducible show wpList _ _ _ (⟨some 28, _, _, _, _, _⟩ :: _) _ _); go_must (refine wpList_valueG (by kernel_rfl) (exec_loadD (d := x) rfl rfl (prs_x HP5.out.2.2.1)) ?_))
          | ((with_reducible show wpList _ _ _ (⟨some 29, _, _, _, _, _⟩ :: _) _ _); go_must (refine wpList_valueG (by kernel_rfl) (exec_loadD (d := old) rfl rfl HP5.out.1.at0) ?_))
          | ((with_reducible show wpList _ _ _ (⟨some 30, _, _, _, _, _⟩ :: _) _ _); go_must (refine wpList_valueG (by kernel_rfl) (exec_eqlD_eq h1 rfl rfl rfl _) ?_))
          | ((with_reducible show wpList _ _ _ (⟨some 34, _, _, _, _, _⟩ :: _) _ _); go_must (refine wpList_valueG (by kernel_rfl) (exec_loadD (d := y) rfl rfl (prs_y HP5.out.2.2.1)) ?_))
          | ((with_reducible show wpList _ _ _ (⟨some 35, _, _, _, _, _⟩ :: _) _ _); go_must (refine wpList_valueG (by kernel_rfl) (exec_loadD (d := root) rfl rfl HP5.out.2.1.at0) ?_))
          | ((with_reducible show wpList _ _ _ (⟨some 36, _, _, _, _, _⟩ :: _) _ _); go_must (refine wpList_valueG (by kernel_rfl) (exec_eqlD_ne h2 rfl rfl rfl _) ?_))
          | fail)
        go_ret
        exact ⟨by rw [HRR.out]; rfl, HP5.out.2.2.2⟩
    · skip
      have hr1 : r = false := by rw [HV.out]; rw [decide_eq_false h1]; rfl
      have HRR := Lib.hid hr1
      clear hr1
      go_wp2_with (first
        | ((with_reducible show wpList _ _ _ (⟨some 25, _, _, _, _, _⟩ :: _) _ _); go_must (refine wpList_valueG (by kernel_rfl) (hld _ _ rfl rfl) ?_))
        | ((with_reducible show wpList _ _ _ (⟨some 28, _, _, _, _, _⟩ :: _) _ _); go_must (refine wpList_valueG (by kernel_rfl) (exec_loadD (d := x) rfl rfl (prs_x HP5.out.2.2.1)) ?_))
        | ((with_reducible show wpList _ _ _ (⟨some 29, _, _, _, _, _⟩ :: _) _ _); go_must (refine wpList_valueG (by kernel_rfl) (exec_loadD (d := old) rfl rfl HP5.out.1.at0) ?_))
        | ((with_reducible show wpList _ _ _ (⟨some 30, _, _, _, _, _⟩ :: _) _ _); go_must (refine wpList_valueG (by kernel_rfl) (exec_eqlD_ne h1 rfl rfl rfl _) ?_))
        | ((with_reducible show wpList _ _ _ (⟨some 34, _, _, _, _, _⟩ :: _) _ _); go_must (refine wpList_valueG (by kernel_rfl) (exec_loadD (d := y) rfl rfl (prs_y HP5.out.2.2.1)) ?_))
        | ((with_reducible show wpList _ _ _ (⟨some 35, _, _, _, _, _⟩ :: _) _ _); go_must (refine wpList_valueG (by kernel_rfl) (exec_loadD (d := root) rfl rfl HP5.out.2.1.at0) ?_))
        | fail)
      go_ret
      exact ⟨by rw [HRR.out]; rfl, HP5.out.2.2.2⟩

theorem refvp_all (old root : Dg) (m n : Int) (hn : n ≤ 9223372036854775807) (A : Option Addr) (N c : Nat) (L : List Dg) (w : World) (hr : Rd w A (dgs L)) (hL : L.length = N) (hc : N ≤ c) (hN : N ≤ 1000) (hG : GloR w) :
    Calls Tryd.prog 48 #[dgV old, dgV root, .int .i64 m, .int .i64 n, .slice A N c] w (fun e w' => e = .returned (.bool (vpZ old root m n L)) ∧ Ext w w') := by
  unfold vpZ
  by_cases h : m < 1 ∨ n < m
  · rw [if_pos h]
    exact refvp_bad old root m n A N c w h
  · rw [if_neg h]
    obtain ⟨m', rfl⟩ : ∃ n' : Nat, m = (n' : Int) := ⟨m.toNat, by omega⟩
    obtain ⟨n', rfl⟩ : ∃ n' : Nat, n = (n' : Int) := ⟨n.toNat, by omega⟩
    exact refvp_good old root m' n' A N c L w hr hL hc hN (by omega) (by omega) (by omega) hG
end Go.Proofs.YtcjeclddpkinkaaDoor
