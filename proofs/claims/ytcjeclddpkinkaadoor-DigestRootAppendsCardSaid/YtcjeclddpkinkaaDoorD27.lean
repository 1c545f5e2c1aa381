/- The law DigestSumMatchesSpec. -/
import Derived.Test.YtcjeclddpkinkaaDoorD26
import Derived.Test.YtcjeclddpkinkaaDoorB11
set_option linter.unusedSimpArgs false
set_option linter.unusedVariables false
namespace Go.Proofs.YtcjeclddpkinkaaDoor
open Go.RowKit
open Wz (Dg)

theorem und_41 : Tryd.prog.underlying 41 = some (.array 32 5) := by kernel_rfl
theorem exec_eql41 {o : Oper} {a : Act} {x y : Operand} {p q : List UInt8} (ho : o.op = .binOp .eql 41 x y 41) (hx : a.eval x = .agg (u8s p).toArray) (hy : a.eval y = .agg (u8s q).toArray) (hp : p.length = 32) (hq : q.length = 32) (w : World) : (execOp a.eval o).run Tryd.prog w = .ok (.value (.bool (p == q))) w := by
  have h1 : (binOp .eql 41 (.agg (u8s p).toArray) (.agg (u8s q).toArray)).run Tryd.prog w = _ := run_eql_bytes w 41 5 32 und_41 Tryd.underlying5 size_u8 p q hp hq
  have h2 := run_eqGuard_agg (P := Tryd.prog) w .eql 41 x y (u8s p).toArray (u8s q).toArray (by kernel_rfl)
  unfold execOp
  rw [ho]
  simp only [Sem.run_bind, Sem.run_pure, hx, hy, h1, h2, Result.andThen]
theorem run_bytes8 (w : World) (s : ByteArray) (hs : s.size ≤ maxLen) : ∃ A c w', (convert 9 34 (.string s)).run Tryd.prog w = .ok (.slice A s.size c) w' ∧ Rd w' A (u8s s.data.toList) ∧ s.size ≤ c ∧ c ≤ maxLen ∧ Ext w w' := by
  have hrd : Rd (Lib.bytesWorld w 5 s) (some ⟨w.heap.size, 0, none⟩) (u8s s.data.toList) := by
    intro _
    refine ⟨_, _, rfl, fun j u hu => ?_⟩
    have hj : j < s.data.toList.length := by
      have := (List.getElem?_eq_some_iff.1 hu).1
      rwa [u8s_length] at this
    rw [Nat.zero_add, Lib.bytesWorld_cell w _ s j (by simpa using hj)]
    rw [u8s_at hj] at hu
    exact hu
  have hbel : Below w.heap.size w (Lib.bytesWorld w 5 s) := ⟨by simp [Lib.bytesWorld, World.freeze]; rfl, by simp [Lib.bytesWorld, World.freeze], by simp [Lib.bytesWorld, World.freeze]; rfl, by rw [Lib.bytesWorld_size]; omega, fun k hk => Lib.bytesWorld_at_old w _ s k hk⟩
  exact ⟨_, _, _, Lib.run_convert_string_bytes (P := Tryd.prog) w 9 34 5 s Tryd.underlying9 Tryd.underlying34 Tryd.underlying5, hrd, grownCap_ge w s.size 0 5, grownCap_le_maxLen w s.size 0 5 hs, hbel⟩
theorem exec_conv {P : Program} {o : Oper} {a : Act} {t1 t2 : TypeId} {x : Operand} {vx v : Value} {w w' : World} (ho : o.op = .convert t1 t2 x) (hx : a.eval x = vx) (hrun : (convert t1 t2 vx).run P w = .ok v w') : (execOp a.eval o).run P w = .ok (.value v) w' := by
  unfold execOp
  rw [ho]
  simp only [Sem.run_bind, Sem.run_pure, hx, hrun, Result.andThen]
theorem run_str8' {w : World} {A : Option Addr} {n c : Nat} {l : List UInt8} (hr : Rd w A (u8s l)) (hn : l.length = n) : (convert 34 9 (.slice A n c)).run Tryd.prog w = .ok (.string (str l)) w := by
  rcases Nat.eq_zero_or_pos l.length with h0 | h0
  · have hl : l = [] := List.eq_nil_of_length_eq_zero h0
    subst hl
    subst hn
    cases A with
    | none => exact run_convert_bytes_nil w 34 5 Tryd.underlying34 Tryd.underlying5 _ _ _ Tryd.underlying9
    | some a =>
      have := run_convert_bytes_string (P := Tryd.prog) w 34 9 5 (some a) 0 c Tryd.underlying34 Tryd.underlying5 Tryd.underlying9
      show (convert 34 9 (.slice (some a) 0 c)).run Tryd.prog w = _
      rw [this]
      simp [Conv.bytesToString, loadCells, loadCellsFrom, str, Result.andThen]
      rfl
  · exact run_str8 hr hn (by omega)

attribute [local irreducible] wpMaskG
set_option maxRecDepth 100000 in
set_option maxHeartbeats 600000 in
theorem sum_law (A : Option Addr) (N c : Nat) (l : List UInt8) (w : World) (hr : Rd w A (u8s l)) (hl : l.length = N) (hG : GloR w) :
    Calls Tryd.prog 5 #[.slice A N c] w (fun e w' => e = .returned (.bool true) ∧ Ext w w') := by
  have HSY := Lib.hid (sanity02_calls w hG.glo)
  by_cases hN : N > 3000
  · have hd : decide ((N : Int) > 3000) = true := decide_eq_true (by omega)
    have hd2 : decide (3000 < N) = true := decide_eq_true (by omega)
    clear hr hl hG
    go_enter Tryd.func5, Tryd.ntmps5
    go_wp2_with ((with_reducible refine HSY.out.mono ?_); rintro e w2 ⟨rfl, E2⟩)
    go_ret
    exact ⟨rfl, E2⟩
  · have hd : decide ((N : Int) > 3000) = false := by rw [decide_eq_false_iff_not]; omega
    have hd2 : decide (3000 < N) = false := by rw [decide_eq_false_iff_not]; omega
    have HS := Lib.hid fun w' (E : Ext w w') => sum_calls A N c l w' (hr.ext E) hl (by omega) (hG.glo.ext E)
    have HST := Lib.hid fun w' (E : Ext w w') => run_str8' (c := c) (hr.ext E) hl
    have HRS := Lib.hid fun w' (E : Ext w w') A' c' (hr' : Rd w' A' (u8s l)) => refsum_calls A' N c' l w' hr' hl (by omega) (hG.ext E)
    have hsz : (str l).size = N := by rw [str_size, hl]
    have hsl := sha_length l
    have hdat : (str l).data.toList = l := rfl
    have hmax : N ≤ maxLen := Nat.le_trans (show N ≤ 3000 by omega) (by decide)
    obtain ⟨S, hS⟩ : ∃ S, sha l = S := ⟨_, rfl⟩
    simp only [hS] at HS HRS hsl
    obtain ⟨s, hs⟩ : ∃ s, str l = s := ⟨_, rfl⟩
    simp only [hs] at HST hsz hdat
    clear hr hl hG hS hs
    go_enter Tryd.func5, Tryd.ntmps5
    go_upto_region 6 with (first
      | ((with_reducible refine HSY.out.mono ?_); rintro e w1 ⟨rfl, E1⟩)
      | ((with_reducible show wpList _ _ _ (⟨some 12, _, _, _, _, _⟩ :: _) _ _); go_must (refine wpList_value rfl (exec_conv rfl rfl (HST.out _ E1)) ?_))
      | ((with_reducible refine (HS.out w1 E1).mono ?_); rintro e w2 ⟨rfl, E2⟩)
      | ((with_reducible show wpList _ _ _ (⟨Option.none, .store _ (.tmp 5) _, _, _, _, _⟩ :: _) _ _); go_must (refine wpList_storeNew agg_41 w2 _ 41 rfl (.tmp 5) (.tmp 14) rfl rfl (u8s S) rfl (by rw [u8s_length]; exact hsl) rfl (u8s_one _) ?_)))
    have HB : Hid (Blk (w2.alloc (.cells (u8s S).toArray 41)) w2.heap.size 41 (u8s S) ∧ Ext w (w2.alloc (.cells (u8s S).toArray 41))) := Lib.hid ⟨Blk.new _ _ _, (Ext.trans E1 E2).alloc _⟩
    generalize w2.alloc (.cells (u8s S).toArray 41) = w3 at HB ⊢
    obtain ⟨B, hB⟩ : ∃ B, w2.heap.size = B := ⟨_, rfl⟩
    rw [hB] at HB ⊢
    clear hB HS HSY
    refine wp_region_ordG (fun w' => Ext w3 w') [(0, true), (1, true), (2, true), (3, true), (4, false), (5, false), (6, true), (7, true), (8, true), (9, true), (10, true), (11, true), (12, true)] (by kernel_rfl) (by kernel_rfl) (fun _ _ d _ _ h => by cases d <;> exact h) (Ext.refl w3).drew ?_
    simp only [ordOps, List.filterMap_cons, List.filterMap_nil, List.getElem?_cons_succ, List.getElem?_cons_zero, Option.map_some, List.length_cons, List.length_nil, Nat.zero_add, Nat.reduceAdd, List.drop_succ_cons, List.drop_zero]
    refine maskG_read (v := .bool true) (by kernel_rfl) (fun w' E => by go_simp) ?_
    simp only [Act.put, List.getElem_toArray, List.getElem_cons_succ, List.getElem_cons_zero, List.setIfInBounds_toArray, List.set_cons_succ, List.set_cons_zero]
    refine maskG_read (v := .bool true) (by kernel_rfl) (fun w' E => by go_simp) ?_
    simp only [Act.put, List.getElem_toArray, List.getElem_cons_succ, List.getElem_cons_zero, List.setIfInBounds_toArray, List.set_cons_succ, List.set_cons_zero]
    refine maskG_load agg_41 (by kernel_rfl) (.tmp 5) rfl B 0 rfl (u8s S) (by rw [u8s_length]; exact hsl) (fun w' E => (HB.out.1.below E).at0) ?_
    simp only [Act.put, List.getElem_toArray, List.getElem_cons_succ, List.getElem_cons_zero, List.setIfInBounds_toArray, List.set_cons_succ, List.set_cons_zero]
    refine maskG_read (v := .string s) (by kernel_rfl) (fun w' E => by go_simp) ?_
    simp only [Act.put, List.getElem_toArray, List.getElem_cons_succ, List.getElem_cons_zero, List.setIfInBounds_toArray, List.set_cons_succ, List.set_cons_zero]
    obtain ⟨A4, c4, w4, hcv, hr4, hc4, _, E4⟩ := run_bytes8 w3.drew s (by omega)
    rw [hsz] at hcv
    rw [hdat] at hr4
    have E34 : Ext w3 w4 := (Ext.refl w3).drew.trans E4
    refine maskG_value (by kernel_rfl) (exec_conv rfl rfl hcv) E34 ?_
    simp only [Act.put, List.getElem_toArray, List.getElem_cons_succ, List.getElem_cons_zero, List.setIfInBounds_toArray, List.set_cons_succ, List.set_cons_zero]
    refine maskG_call (f := 25) (args := #[.slice A4 N c4]) (by kernel_rfl) (by go_simp) ((HRS.out w4 (HB.out.2.trans E34) A4 c4 hr4).mono ?_)
    rintro e w5 ⟨rfl, E5⟩
    refine ⟨_, rfl, E34.trans E5, ?_⟩
    simp only [Act.put, List.getElem_toArray, List.getElem_cons_succ, List.getElem_cons_zero, List.setIfInBounds_toArray, List.set_cons_succ, List.set_cons_zero]
    refine maskG_read (v := .bool (S == S)) (by kernel_rfl) (fun w' E => exec_eql41 rfl rfl rfl hsl hsl w') ?_
    rw [show (S == S) = true from beq_self_eq_true S]
    simp only [Act.put, List.getElem_toArray, List.getElem_cons_succ, List.getElem_cons_zero, List.setIfInBounds_toArray, List.set_cons_succ, List.set_cons_zero]
    refine maskG_read (v := .bool true) (by kernel_rfl) (fun w' E => by go_simp) ?_
    simp only [Act.put, List.getElem_toArray, List.getElem_cons_succ, List.getElem_cons_zero, List.setIfInBounds_toArray, List.set_cons_succ, List.set_cons_zero]
    refine maskG_read (v := .bool true) (by kernel_rfl) (fun w' E => by go_simp) ?_
    simp only [Act.put, List.getElem_toArray, List.getElem_cons_succ, List.getElem_cons_zero, List.setIfInBounds_toArray, List.set_cons_succ, List.set_cons_zero]
    refine maskG_read (v := .slice A N c) (by kernel_rfl) (fun w' E => by go_simp) ?_
    simp only [Act.put, List.getElem_toArray, List.getElem_cons_succ, List.getElem_cons_zero, List.setIfInBounds_toArray, List.set_cons_succ, List.set_cons_zero]
    refine maskG_read (v := .string s) (by kernel_rfl) (fun w' E => exec_conv rfl rfl (HST.out _ (HB.out.2.trans E))) ?_
    simp only [Act.put, List.getElem_toArray, List.getElem_cons_succ, List.getElem_cons_zero, List.setIfInBounds_toArray, List.set_cons_succ, List.set_cons_zero]
    refine maskG_read (v := .string s) (by kernel_rfl) (fun w' E => by go_simp) ?_
    simp only [Act.put, List.getElem_toArray, List.getElem_cons_succ, List.getElem_cons_zero, List.setIfInBounds_toArray, List.set_cons_succ, List.set_cons_zero]
    refine maskG_read (v := .bool true) (by kernel_rfl) (fun w' E => by go_simp) ?_
    simp only [Act.put, List.getElem_toArray, List.getElem_cons_succ, List.getElem_cons_zero, List.setIfInBounds_toArray, List.set_cons_succ, List.set_cons_zero]
    refine maskG_done ?_
    go_wp2_with fail
    go_ret
    exact ⟨rfl, (HB.out.2.trans E34).trans E5⟩
end Go.Proofs.YtcjeclddpkinkaaDoor
