/- The law DigestRootAppends. -/
import Derived.Test.YtcjeclddpkinkaaDoorD34
import Derived.Test.YtcjeclddpkinkaaDoorB12
set_option linter.unusedSimpArgs false
set_option linter.unusedVariables false
namespace Go.Proofs.YtcjeclddpkinkaaDoor
open Go.RowKit
open Wz (Dg)

theorem exec_appD (w : World) {o : Oper} {a : Act} (s x : Operand) (ho : o.op = .call { callee := .builtin .append, args := #[s, x], argTypes := #[63, 63] })
    (base : Nat) (v : Value) (l : List Dg) (hs : a.eval s = v) (hown : OwnD w base v l) (A : Option Addr) (n c : Nat) (news : List Dg) (hx : a.eval x = .slice A n c) (hn : news.length = n) (hr : Rd w A (dgs news))
    (hbytes : l.length + n ≤ 1000000000000) (hbase : base ≤ w.heap.size) :
    ∃ v' w', (execOp a.eval o).run Tryd.prog w = .ok (.value v') w' ∧ OwnD w' base v' (l ++ news) ∧ w.grownBy w' v.ownBlock ∧ (∀ B w0, B ≤ base → Below B w0 w → Below B w0 w') := by
  subst hn
  obtain ⟨i0, hi, hz0, hz1, hz2⟩ := info_parts info_dg
  obtain ⟨v', w', hr', h2, h3, h4⟩ := run_app (P := Tryd.prog) w base 63 o.type 45 i0 (.agg (u8s (List.replicate 16 0)).toArray) 16 16 und_ds hi hz0 hz1 hz2 rfl (by decide) v l.length (dgs l) hown A news.length c (dgs news) (by rw [dgs_length, Nat.mul_comm]) hr (dgs_one' _) (by omega) (by decide) hbase
  refine ⟨v', w', ?_, by unfold OwnD; rw [dgs_append, List.length_append]; exact h2, h3, fun B w0 hB hb => hb.grown h3 (by omega) fun k hk => by have := hown.base_le k hk; omega⟩
  unfold execOp
  simp only [ho, resolve, invoke, builtin, Sem.run_bind, Sem.run_pure, Result.andThen_ok, List.map_toArray, List.map_cons, List.map_nil, hs, hx, hr']
theorem run_buildE (w : World) : (Instr.buildSlice 63 0 #[]).run Tryd.prog w = .ok (.slice (some ⟨w.heap.size, 0, none⟩) 0 0) (w.alloc (.cells #[] 45)) := by
  kernel_rfl
theorem exec_buildE {o : Oper} {a : Act} (ho : o.op = .buildSlice 63 0 #[]) (w : World) : (execOp a.eval o).run Tryd.prog w = .ok (.value (.slice (some ⟨w.heap.size, 0, none⟩) 0 0)) (w.alloc (.cells #[] 45)) := by
  have h1 := run_buildE w
  unfold execOp
  rw [ho]
  simp only [Sem.run_bind, Sem.run_pure, List.map_toArray, List.map_nil, h1, Result.andThen]
theorem OwnD.empty (w : World) (base : Nat) (hb : base ≤ w.heap.size) : OwnD (w.alloc (.cells #[] 45)) base (.slice (some ⟨w.heap.size, 0, none⟩) 0 0) [] :=
  ⟨rfl, .inr ⟨w.heap.size, 0, #[], rfl, hb, heap_alloc_new w _, Nat.le_refl _, Nat.zero_le _, rfl, rfl⟩⟩

/-- the list that the law builds: it holds, whatever the order in which memory was made -/
structure All (w w' : World) (base B : Nat) (d o : Dg) (v : Value) (l : List Dg) : Prop where
  own : OwnD w' base v l
  b0 : Blk w' B 45 (u8s d.1)
  b1 : Blk w' (B + 1) 45 (u8s o.1)
  ext : Ext w w'
theorem exec_neqD_eq {o : Oper} {a : Act} {x y : Operand} {p q : Dg} (h : p = q) (ho : o.op = .binOp .neq 45 x y 45) (hx : a.eval x = dgV p) (hy : a.eval y = dgV q) (w : World) : (execOp a.eval o).run Tryd.prog w = .ok (.value (.bool false)) w := by
  have h1 := exec_neqD ho hx hy w
  rwa [decide_eq_true h] at h1
theorem exec_neqD_ne {o : Oper} {a : Act} {x y : Operand} {p q : Dg} (h : p ≠ q) (ho : o.op = .binOp .neq 45 x y 45) (hx : a.eval x = dgV p) (hy : a.eval y = dgV q) (w : World) : (execOp a.eval o).run Tryd.prog w = .ok (.value (.bool true)) w := by
  have h1 := exec_neqD ho hx hy w
  rwa [decide_eq_false h] at h1
theorem op_appD {ops : Array Oper} {Q : Exit → Act → World → Prop} {K : Act → World → Prop} {i : Nat} (w : World) {o : Oper} {a : Act} (hi : ops[i]? = some o) (hg : o.guard = none) (s x : Operand) (ho : o.op = .call { callee := .builtin .append, args := #[s, x], argTypes := #[63, 63] })
    (base : Nat) (v : Value) (l : List Dg) (hs : a.eval s = v) (hown : OwnD w base v l) (A : Option Addr) (n c : Nat) (news : List Dg) (hx : a.eval x = .slice A n c) (hn : news.length = n) (hr : Rd w A (dgs news))
    (hbytes : l.length + n ≤ 1000000000000) (hbase : base ≤ w.heap.size)
    (h : ∀ v' w', OwnD w' base v' (l ++ news) → w.grownBy w' v.ownBlock → (∀ B w0, B ≤ base → Below B w0 w → Below B w0 w') → K (a.put o.dst v') w') : wpOp Tryd.prog ops Q i K a w := by
  obtain ⟨v', w', h1, h2, h3, h4⟩ := exec_appD w s x ho base v l hs hown A n c news hx hn hr hbytes hbase
  exact op_run hi hg h1 (h v' w' h2 h3 h4)

set_option maxRecDepth 100000 in
set_option maxHeartbeats 4000000 in
theorem appends_law (A : Option Addr) (N c : Nat) (L : List Dg) (d o : Dg) (w : World) (hr : Rd w A (dgs L)) (hl : L.length = N) (hc : N ≤ c) (hG : GloR w) :
    Calls Tryd.prog 14 #[.slice A N c, dgV d, dgV o] w (fun e w' => e = .returned (.bool true) ∧ Ext w w') := by
  have HSY := Lib.hid fun w' (E : Ext w w') => sanity02_calls w' (hG.glo.ext E)
  have HRD := Lib.hid hr
  have HL := Lib.hid hl
  have HG := Lib.hid hG
  obtain ⟨B, hB⟩ : ∃ B, w.heap.size = B := ⟨_, rfl⟩
  have HB : Hid (Blk ((w.alloc (Obj.cells (u8s d.1).toArray 45)).alloc (Obj.cells (u8s o.1).toArray 45)) B 45 (u8s d.1) ∧ Blk ((w.alloc (Obj.cells (u8s d.1).toArray 45)).alloc (Obj.cells (u8s o.1).toArray 45)) (B + 1) 45 (u8s o.1) ∧ Ext w ((w.alloc (Obj.cells (u8s d.1).toArray 45)).alloc (Obj.cells (u8s o.1).toArray 45))) := by
    subst hB
    refine Lib.hid ⟨(Blk.new w _ 45).alloc _, ?_, ((Ext.refl w).alloc _).alloc _⟩
    have := Blk.new (w.alloc (Obj.cells (u8s d.1).toArray 45)) (u8s o.1) 45
    rwa [World.size_alloc] at this
  by_cases hN : N > 60 ∨ N = 0
  · have HX := Lib.hid fun w' (E : Ext w w') => root_calls 0 none 0 [] w' (Rd.nil _ _) rfl (by decide) (by decide) (hG.glo.ext E)
    have HY := Lib.hid fun w' (E : Ext w w') => refof_calls 1 none 0 0 [] w' (Rd.nil _ _) rfl (by decide) (fun p hp => by simp at hp) (hG.ext E)
    have e : Mk.rootF shF [] = ofF 1 [] := by rw [Mk.root_zero]; rfl
    rw [e] at HX
    obtain ⟨R, hR⟩ : ∃ R, ofF 1 [] = R := ⟨_, rfl⟩
    rw [hR] at HX HY
    clear hr hG e hR
    have hcase : (decide ((N : Int) > 60) = true ∧ decide (60 < N) = true) ∨ (decide ((N : Int) > 60) = false ∧ decide (60 < N) = false ∧ ((N : Int) == 0) = true) := by
      by_cases h6 : N > 60
      · exact .inl ⟨decide_eq_true (by omega), decide_eq_true (by omega)⟩
      · exact .inr ⟨by rw [decide_eq_false_iff_not]; omega, by rw [decide_eq_false_iff_not]; omega, by rw [beq_iff_eq]; omega⟩
    clear hl hN
    rcases hcase with ⟨hd, hd2⟩ | ⟨hd, hd2, hd3⟩
    · go_enter Tryd.func14, Tryd.ntmps14
      go_upto_region 1 with (first
        | ((with_reducible show wpList _ _ _ (⟨some 4, _, _, _, _, _⟩ :: _) _ _); go_must (refine wpList_boxAgg 45 _ rfl (.tmp 1) rfl _ rfl ?_))
        | ((with_reducible show wpList _ _ _ (⟨some 5, _, _, _, _, _⟩ :: _) _ _); go_must (refine wpList_boxAgg 45 _ rfl (.tmp 2) rfl _ rfl ?_)))
      generalize (w.alloc (Obj.cells (u8s d.1).toArray 45)).alloc (Obj.cells (u8s o.1).toArray 45) = w1 at HB ⊢
      go_wp2_with (first
        | ((with_reducible refine (HSY.out w1 HB.out.2.2).mono ?_); rintro e w2 ⟨rfl, E2⟩; have F2 := HB.out.2.2.trans E2)
        | ((with_reducible refine (HX.out w2 F2).mono ?_); rintro e w3 ⟨rfl, E3⟩; have F3 := Ext.trans F2 E3)
        | ((with_reducible refine (HY.out w3 F3).mono ?_); rintro e w4 ⟨rfl, E4⟩; have F4 := Ext.trans F3 E4)
        | ((with_reducible show wpList _ _ _ (⟨some 27, _, _, _, _, _⟩ :: _) _ _); go_must (refine wpList_valueG (by kernel_rfl) (exec_eqlD_same rfl rfl rfl _) ?_))
        | fail)
      go_ret
      exact ⟨rfl, F4⟩
    · go_enter Tryd.func14, Tryd.ntmps14
      go_upto_region 1 with (first
        | ((with_reducible show wpList _ _ _ (⟨some 4, _, _, _, _, _⟩ :: _) _ _); go_must (refine wpList_boxAgg 45 _ rfl (.tmp 1) rfl _ rfl ?_))
        | ((with_reducible show wpList _ _ _ (⟨some 5, _, _, _, _, _⟩ :: _) _ _); go_must (refine wpList_boxAgg 45 _ rfl (.tmp 2) rfl _ rfl ?_)))
      generalize (w.alloc (Obj.cells (u8s d.1).toArray 45)).alloc (Obj.cells (u8s o.1).toArray 45) = w1 at HB ⊢
      go_wp2_with (first
        | ((with_reducible refine (HSY.out w1 HB.out.2.2).mono ?_); rintro e w2 ⟨rfl, E2⟩; have F2 := HB.out.2.2.trans E2)
        | ((with_reducible refine (HX.out w2 F2).mono ?_); rintro e w3 ⟨rfl, E3⟩; have F3 := Ext.trans F2 E3)
        | ((with_reducible refine (HY.out w3 F3).mono ?_); rintro e w4 ⟨rfl, E4⟩; have F4 := Ext.trans F3 E4)
        | ((with_reducible show wpList _ _ _ (⟨some 27, _, _, _, _, _⟩ :: _) _ _); go_must (refine wpList_valueG (by kernel_rfl) (exec_eqlD_same rfl rfl rfl _) ?_))
        | fail)
      go_ret
      exact ⟨rfl, F4⟩
  · have hd : decide ((N : Int) > 60) = false := by rw [decide_eq_false_iff_not]; omega
    have hd2 : decide (60 < N) = false := by rw [decide_eq_false_iff_not]; omega
    have hd3 : ((N : Int) == 0) = false := by rw [beq_eq_false_iff_ne]; omega
    have HR1 := Lib.hid fun w' (E : Ext w w') => root_calls N A c L w' (hr.ext E) hl hc (by omega) (hG.glo.ext E)
    have hlA : (L ++ [d]).length = N + 1 := by rw [List.length_append, List.length_singleton, hl]
    have hsv := Mk.sub_verified shF (L ++ [d]) N (by omega) (by omega)
    rw [List.take_append_of_le_length (by omega), List.take_of_length_le (by omega), hlA] at hsv
    have hpl := Mk.sub_len shF (L ++ [d]) N true
    rw [hlA] at hpl
    obtain ⟨R1, hR1⟩ : ∃ R, Mk.rootF shF L = R := ⟨_, rfl⟩
    obtain ⟨R2, hR2⟩ : ∃ R, Mk.rootF shF (L ++ [d]) = R := ⟨_, rfl⟩
    obtain ⟨P, hP⟩ : ∃ P, Mk.subF shF (L ++ [d]) N true = P := ⟨_, rfl⟩
    obtain ⟨f, hf⟩ : ∃ f, Mk.vpF shF o R2 N (N + 1) P = f := ⟨_, rfl⟩
    rw [hR1, hR2, hP] at hsv
    rw [hP] at hpl
    simp only [hR1] at HR1
    have HRR2 := Lib.hid hR2
    have HPE := Lib.hid hP
    have HVE := Lib.hid hsv
    have HFE := Lib.hid hf
    have HFT : Hid (o = R1 → f = true) := Lib.hid fun h => by rw [← hf, h]; exact hsv
    have hN60 : N ≤ 60 ∧ 1 ≤ N := by omega
    clear hr hG hl hN hsv hR1 hR2 hP hf
    go_enter Tryd.func14, Tryd.ntmps14
    go_upto_region 1 with (first
      | ((with_reducible show wpList _ _ _ (⟨some 4, _, _, _, _, _⟩ :: _) _ _); go_must (refine wpList_boxAgg 45 _ rfl (.tmp 1) rfl _ rfl ?_))
      | ((with_reducible show wpList _ _ _ (⟨some 5, _, _, _, _, _⟩ :: _) _ _); go_must (refine wpList_boxAgg 45 _ rfl (.tmp 2) rfl _ rfl ?_)))
    generalize (w.alloc (Obj.cells (u8s d.1).toArray 45)).alloc (Obj.cells (u8s o.1).toArray 45) = w1 at HB ⊢
    go_upto_region 4 with ((with_reducible refine (HSY.out w1 HB.out.2.2).mono ?_); rintro e w2 ⟨rfl, E2⟩)
    have HB2 : Hid (Blk w2 B 45 (u8s d.1) ∧ Blk w2 (B + 1) 45 (u8s o.1) ∧ Ext w w2) := Lib.hid ⟨HB.out.1.below E2, HB.out.2.1.below E2, HB.out.2.2.trans E2⟩
    clear HB E2 hB HSY
    refine wp_region_reads (fun w' => Ext w2 w') [1, 3] 5 3 rfl (by kernel_rfl) (by kernel_rfl) (by simp) (by kernel_rfl) (by kernel_rfl) (by kernel_rfl) (fun _ _ d _ _ h => by cases d <;> exact h) (Ext.refl w2).drew ?_
    refine reads_one (v := .slice A N c) rfl rfl (fun w' E => by go_simp) ?_
    simp only [Act.put, List.getElem_toArray, List.getElem_cons_succ, List.getElem_cons_zero, List.setIfInBounds_toArray, List.set_cons_succ, List.set_cons_zero]
    refine reads_one (v := dgV d) rfl rfl (fun w' E => exec_loadD (b := B) (off := 0) rfl rfl (HB2.out.1.below E).at0) ?_
    simp only [Act.put, List.getElem_toArray, List.getElem_cons_succ, List.getElem_cons_zero, List.setIfInBounds_toArray, List.set_cons_succ, List.set_cons_zero]
    refine (show headH _ _ _ _ _ _ _ _ _ _ _ from ?_)
    refine head_cases [0, 4] (by kernel_rfl) (by simp) ?_
    intro i hi
    rcases (by simpa using hi : i = 0 ∨ i = 4) with rfl | rfl
    · refine ⟨by decide, ?_⟩
      refine op_run rfl rfl (exec_buildE rfl w2.drew) ⟨(Ext.refl w2).drew.alloc _, ?_⟩
      simp only [Act.put, List.getElem_toArray, List.getElem_cons_succ, List.getElem_cons_zero, List.setIfInBounds_toArray, List.set_cons_succ, List.set_cons_zero]
      have E1 : Ext w2 (w2.drew.alloc (.cells #[] 45)) := (Ext.refl w2).drew.alloc _
      refine head_cases [2, 4] (by kernel_rfl) (by simp) ?_
      intro i hi
      rcases (by simpa using hi : i = 2 ∨ i = 4) with rfl | rfl
      · refine ⟨by decide, ?_⟩
        refine op_appD _ rfl rfl (.tmp 29) (.tmp 30) rfl w2.heap.size (.slice (some ⟨w2.drew.heap.size, 0, none⟩) 0 0) [] rfl (OwnD.empty w2.drew _ (Nat.le_refl _)) A N c L rfl HL.out (HRD.out.ext (HB2.out.2.2.trans E1)) (by simp; omega) E1.size ?_
        intro v6 w6 ho6 hg6 hb6
        have E6 : Ext w2 w6 := hb6 _ _ (Nat.le_refl _) E1
        rw [List.nil_append] at ho6
        obtain ⟨A6, c6, rfl, _, _, _⟩ := ho6.slice
        refine ⟨E6, ?_⟩
        simp only [Act.put, List.getElem_toArray, List.getElem_cons_succ, List.getElem_cons_zero, List.setIfInBounds_toArray, List.set_cons_succ, List.set_cons_zero]
        refine head_cases [4] (by kernel_rfl) (by simp) ?_
        intro i hi
        obtain rfl : i = 4 := by simpa using hi
        refine ⟨by decide, ?_⟩
        refine op_run rfl rfl (exec_build rfl rfl (run_buildD d w6)) ⟨E6.alloc _, ?_⟩
        simp only [Act.put, List.getElem_toArray, List.getElem_cons_succ, List.getElem_cons_zero, List.setIfInBounds_toArray, List.set_cons_succ, List.set_cons_zero]
        have HN := Lib.hid (Blk.new w6 (u8s d.1) 45).rd
        have HO := Lib.hid (ho6.alloc (.cells (u8s d.1).toArray 45))
        have EZ := E6.alloc (.cells (u8s d.1).toArray 45)
        have hbz := EZ.size
        clear ho6 hg6 hb6 E6 E1
        refine (show Region.seqB _ _ _ _ _ = true ∧ _ from ⟨by kernel_rfl, ?_⟩)
        simp only [List.drop_succ_cons, List.drop_zero]
        go_wp2_with (first
          | ((with_reducible show wpList _ _ _ (⟨some 34, _, _, _, _, _⟩ :: _) _ _); go_must (refine wpList_appD _ rfl (.tmp 31) (.tmp 33) rfl w2.heap.size _ L rfl HO.out _ 1 1 [d] rfl rfl (by rw [dgs_one]; exact HN.out) (by have := HL.out; omega) hbz ?_); intro v5 w5 ho5 hg5 hbl5; obtain ⟨A5, c5, rfl, _, _, _⟩ := ho5.slice; rw [List.length_append, List.length_singleton, HL.out] at ho5)
          | fail)
        have E5 : Ext w2 w5 := hbl5 _ _ (Nat.le_refl _) EZ
        have HA : Hid (All w w5 w2.heap.size B d o (.slice A5 (N + 1) c5) (L ++ [d])) := Lib.hid ⟨ho5, HB2.out.1.below E5, HB2.out.2.1.below E5, HB2.out.2.2.trans E5⟩
        clear hg5 hbl5 E5 EZ hbz HO HN ho5
        by_cases h : o = R1
        · have HF := Lib.hid (HFT.out h)
          rw [HF.out] at HFE
          have HH := Lib.hid h
          clear h
          go_upto_region 6 with (first
            | ((with_reducible refine (HR1.out w5 HA.out.ext).mono ?_); rintro e w6 ⟨rfl, F6⟩)
            | ((with_reducible show wpList _ _ _ (⟨Option.none, .store _ (.tmp 9) _, _, _, _, _⟩ :: _) _ _); go_must (refine wpList_storeNew agg_dg w6 _ 45 rfl (.tmp 9) (.tmp 36) rfl rfl (u8s R1.1) rfl (dg_len R1) rfl (u8s_one _) ?_))
            | fail)
          have HC : Hid (Blk (w6.alloc (.cells (u8s R1.1).toArray 45)) w6.heap.size 45 (u8s R1.1) ∧ Ext w5 (w6.alloc (.cells (u8s R1.1).toArray 45))) := Lib.hid ⟨Blk.new _ _ _, Ext.alloc F6 _⟩
          generalize w6.alloc (.cells (u8s R1.1).toArray 45) = w7 at HC ⊢
          obtain ⟨g9, hg9⟩ : ∃ g, w6.heap.size = g := ⟨_, rfl⟩
          rw [hg9] at HC ⊢
          clear hg9
          obtain ⟨A8, c8, e8, hc8, _, hr8⟩ := HA.out.own.slice
          simp only [Value.slice.injEq] at e8
          obtain ⟨rfl, -, rfl⟩ := e8
          have HR2 := Lib.hid fun w' (E : Ext w5 w') => root_calls (N + 1) A5 c5 (L ++ [d]) w' (hr8.ext E) hlA (by omega) (by omega) (HG.out.glo.ext (HA.out.ext.trans E))
          have HPP := Lib.hid fun w' (E : Ext w5 w') => pp_calls (N + 1) N A5 c5 (L ++ [d]) w' (hr8.ext E) hlA (by omega) (by omega) (by omega) (by omega) (HG.out.glo.ext (HA.out.ext.trans E))
          rw [HRR2.out] at HR2
          rw [HPE.out] at HPP
          clear hr8 hc8
          go_upto_region 7 with (first
            | ((with_reducible refine (HR2.out w7 HC.out.2).mono ?_); rintro e w8 ⟨rfl, F8⟩)
            | ((with_reducible show wpList _ _ _ (⟨Option.none, .store _ (.tmp 10) _, _, _, _, _⟩ :: _) _ _); go_must (refine wpList_storeNew agg_dg w8 _ 45 rfl (.tmp 10) (.tmp 38) rfl rfl (u8s R2.1) rfl (dg_len R2) rfl (u8s_one _) ?_))
            | fail)
          have HD : Hid (Blk (w8.alloc (.cells (u8s R2.1).toArray 45)) g9 45 (u8s R1.1) ∧ Blk (w8.alloc (.cells (u8s R2.1).toArray 45)) w8.heap.size 45 (u8s R2.1) ∧ Ext w5 (w8.alloc (.cells (u8s R2.1).toArray 45))) := Lib.hid ⟨(HC.out.1.below F8).alloc _, Blk.new _ _ _, (HC.out.2.trans F8).alloc _⟩
          generalize w8.alloc (.cells (u8s R2.1).toArray 45) = w9 at HD ⊢
          obtain ⟨g10, hg10⟩ : ∃ g, w8.heap.size = g := ⟨_, rfl⟩
          rw [hg10] at HD ⊢
          clear hg10 HC
          have hNc : (((N + 1 : Nat)) : Int) = (N : Int) + 1 := by omega
          go_upto_region 8 with (first
            | ((with_reducible refine (HPP.out w9 HD.out.2.2).mono ?_); rintro e w10 ⟨v10, rfl, ho10, F10⟩; obtain ⟨A10, c10, rfl, hc10, _, hr10⟩ := ho10.slice)
            | fail)
          have F10' : Ext w9 w10 := F10
          have HK : Hid (Blk w10 g9 45 (u8s R1.1) ∧ Blk w10 g10 45 (u8s R2.1) ∧ Blk w10 (B + 1) 45 (u8s o.1) ∧ Ext w w10) := Lib.hid ⟨HD.out.1.below F10', HD.out.2.1.below F10', (HA.out.b1.below HD.out.2.2).below F10', (HA.out.ext.trans HD.out.2.2).trans F10'⟩
          have HV1 := Lib.hid fun w' (E : Ext w10 w') => vp_good R1 R2 N (N + 1) A10 P.length c10 P w' (hr10.ext E) rfl hc10 (by omega) (by omega) (by omega) (by omega) (HG.out.glo.ext (HK.out.2.2.2.trans E))
          have HV2 := Lib.hid fun w' (E : Ext w10 w') => vp_good o R2 N (N + 1) A10 P.length c10 P w' (hr10.ext E) rfl hc10 (by omega) (by omega) (by omega) (by omega) (HG.out.glo.ext (HK.out.2.2.2.trans E))
          have HV3 := Lib.hid fun w' (E : Ext w10 w') => refvp_good o R2 N (N + 1) A10 P.length c10 P w' (hr10.ext E) rfl hc10 (by omega) (by omega) (by omega) (by omega) (HG.out.ext (HK.out.2.2.2.trans E))
          simp only [HVE.out, hNc] at HV1
          simp only [HFE.out, hNc] at HV2 HV3
          clear HD HPP HR2 HR1 ho10 hr10
          go_wp2_with (first
            | ((with_reducible show wpList _ _ _ (⟨some 49, _, _, _, _, _⟩ :: _) _ _); go_must (refine wpList_valueG (by kernel_rfl) (exec_loadD (d := R1) rfl rfl HK.out.1.at0) ?_))
            | ((with_reducible show wpList _ _ _ (⟨some 50, _, _, _, _, _⟩ :: _) _ _); go_must (refine wpList_valueG (by kernel_rfl) (exec_loadD (d := R2) rfl rfl HK.out.2.1.at0) ?_))
            | ((with_reducible refine (HV1.out w10 (Ext.refl _)).mono ?_); rintro e w11 ⟨rfl, F11⟩)
            | ((with_reducible show wpList _ _ _ (⟨some 59, _, _, _, _, _⟩ :: _) _ _); go_must (refine wpList_valueG (by kernel_rfl) (exec_loadD (d := o) rfl rfl (HK.out.2.2.1.below F11).at0) ?_))
            | ((with_reducible show wpList _ _ _ (⟨some 60, _, _, _, _, _⟩ :: _) _ _); go_must (refine wpList_valueG (by kernel_rfl) (exec_loadD (d := R2) rfl rfl (HK.out.2.1.below F11).at0) ?_))
            | ((with_reducible refine (HV2.out w11 F11).mono ?_); rintro e w12 ⟨rfl, F12'⟩; have F12 := Ext.trans F11 F12')
            | ((with_reducible show wpList _ _ _ (⟨some 70, _, _, _, _, _⟩ :: _) _ _); go_must (refine wpList_valueG (by kernel_rfl) (exec_loadD (d := o) rfl rfl (HK.out.2.2.1.below F12).at0) ?_))
            | ((with_reducible show wpList _ _ _ (⟨some 71, _, _, _, _, _⟩ :: _) _ _); go_must (refine wpList_valueG (by kernel_rfl) (exec_loadD (d := R2) rfl rfl (HK.out.2.1.below F12).at0) ?_))
            | ((with_reducible refine (HV3.out w12 F12).mono ?_); rintro e w13 ⟨rfl, F13'⟩; have F13 := Ext.trans F12 F13')
            | ((with_reducible show wpList _ _ _ (⟨some 81, _, _, _, _, _⟩ :: _) _ _); go_must (refine wpList_valueG (by kernel_rfl) (exec_loadD (d := o) rfl rfl (HK.out.2.2.1.below F13).at0) ?_))
            | ((with_reducible show wpList _ _ _ (⟨some 82, _, _, _, _, _⟩ :: _) _ _); go_must (refine wpList_valueG (by kernel_rfl) (exec_loadD (d := R1) rfl rfl (HK.out.1.below F13).at0) ?_))
            | ((with_reducible show wpList _ _ _ (⟨some 83, _, _, _, _, _⟩ :: _) _ _); go_must (refine wpList_valueG (by kernel_rfl) (exec_neqD_eq HH.out rfl rfl rfl _) ?_))
            | fail)
          go_ret
          exact ⟨rfl, HK.out.2.2.2.trans F13⟩
        · skip
          go_upto_region 6 with (first
            | ((with_reducible refine (HR1.out w5 HA.out.ext).mono ?_); rintro e w6 ⟨rfl, F6⟩)
            | ((with_reducible show wpList _ _ _ (⟨Option.none, .store _ (.tmp 9) _, _, _, _, _⟩ :: _) _ _); go_must (refine wpList_storeNew agg_dg w6 _ 45 rfl (.tmp 9) (.tmp 36) rfl rfl (u8s R1.1) rfl (dg_len R1) rfl (u8s_one _) ?_))
            | fail)
          have HC : Hid (Blk (w6.alloc (.cells (u8s R1.1).toArray 45)) w6.heap.size 45 (u8s R1.1) ∧ Ext w5 (w6.alloc (.cells (u8s R1.1).toArray 45))) := Lib.hid ⟨Blk.new _ _ _, Ext.alloc F6 _⟩
          generalize w6.alloc (.cells (u8s R1.1).toArray 45) = w7 at HC ⊢
          obtain ⟨g9, hg9⟩ : ∃ g, w6.heap.size = g := ⟨_, rfl⟩
          rw [hg9] at HC ⊢
          clear hg9
          obtain ⟨A8, c8, e8, hc8, _, hr8⟩ := HA.out.own.slice
          simp only [Value.slice.injEq] at e8
          obtain ⟨rfl, -, rfl⟩ := e8
          have HR2 := Lib.hid fun w' (E : Ext w5 w') => root_calls (N + 1) A5 c5 (L ++ [d]) w' (hr8.ext E) hlA (by omega) (by omega) (HG.out.glo.ext (HA.out.ext.trans E))
          have HPP := Lib.hid fun w' (E : Ext w5 w') => pp_calls (N + 1) N A5 c5 (L ++ [d]) w' (hr8.ext E) hlA (by omega) (by omega) (by omega) (by omega) (HG.out.glo.ext (HA.out.ext.trans E))
          rw [HRR2.out] at HR2
          rw [HPE.out] at HPP
          clear hr8 hc8
          go_upto_region 7 with (first
            | ((with_reducible refine (HR2.out w7 HC.out.2).mono ?_); rintro e w8 ⟨rfl, F8⟩)
            | ((with_reducible show wpList _ _ _ (⟨Option.none, .store _ (.tmp 10) _, _, _, _, _⟩ :: _) _ _); go_must (refine wpList_storeNew agg_dg w8 _ 45 rfl (.tmp 10) (.tmp 38) rfl rfl (u8s R2.1) rfl (dg_len R2) rfl (u8s_one _) ?_))
            | fail)
          have HD : Hid (Blk (w8.alloc (.cells (u8s R2.1).toArray 45)) g9 45 (u8s R1.1) ∧ Blk (w8.alloc (.cells (u8s R2.1).toArray 45)) w8.heap.size 45 (u8s R2.1) ∧ Ext w5 (w8.alloc (.cells (u8s R2.1).toArray 45))) := Lib.hid ⟨(HC.out.1.below F8).alloc _, Blk.new _ _ _, (HC.out.2.trans F8).alloc _⟩
          generalize w8.alloc (.cells (u8s R2.1).toArray 45) = w9 at HD ⊢
          obtain ⟨g10, hg10⟩ : ∃ g, w8.heap.size = g := ⟨_, rfl⟩
          rw [hg10] at HD ⊢
          clear hg10 HC
          have hNc : (((N + 1 : Nat)) : Int) = (N : Int) + 1 := by omega
          go_upto_region 8 with (first
            | ((with_reducible refine (HPP.out w9 HD.out.2.2).mono ?_); rintro e w10 ⟨v10, rfl, ho10, F10⟩; obtain ⟨A10, c10, rfl, hc10, _, hr10⟩ := ho10.slice)
            | fail)
          have F10' : Ext w9 w10 := F10
          have HK : Hid (Blk w10 g9 45 (u8s R1.1) ∧ Blk w10 g10 45 (u8s R2.1) ∧ Blk w10 (B + 1) 45 (u8s o.1) ∧ Ext w w10) := Lib.hid ⟨HD.out.1.below F10', HD.out.2.1.below F10', (HA.out.b1.below HD.out.2.2).below F10', (HA.out.ext.trans HD.out.2.2).trans F10'⟩
          have HV1 := Lib.hid fun w' (E : Ext w10 w') => vp_good R1 R2 N (N + 1) A10 P.length c10 P w' (hr10.ext E) rfl hc10 (by omega) (by omega) (by omega) (by omega) (HG.out.glo.ext (HK.out.2.2.2.trans E))
          have HV2 := Lib.hid fun w' (E : Ext w10 w') => vp_good o R2 N (N + 1) A10 P.length c10 P w' (hr10.ext E) rfl hc10 (by omega) (by omega) (by omega) (by omega) (HG.out.glo.ext (HK.out.2.2.2.trans E))
          have HV3 := Lib.hid fun w' (E : Ext w10 w') => refvp_good o R2 N (N + 1) A10 P.length c10 P w' (hr10.ext E) rfl hc10 (by omega) (by omega) (by omega) (by omega) (HG.out.ext (HK.out.2.2.2.trans E))
          simp only [HVE.out, hNc] at HV1
          simp only [HFE.out, hNc] at HV2 HV3
          clear HD HPP HR2 HR1 ho10 hr10
          go_wp2_with (first
            | ((with_reducible show wpList _ _ _ (⟨some 49, _, _, _, _, _⟩ :: _) _ _); go_must (refine wpList_valueG (by kernel_rfl) (exec_loadD (d := R1) rfl rfl HK.out.1.at0) ?_))
            | ((with_reducible show wpList _ _ _ (⟨some 50, _, _, _, _, _⟩ :: _) _ _); go_must (refine wpList_valueG (by kernel_rfl) (exec_loadD (d := R2) rfl rfl HK.out.2.1.at0) ?_))
            | ((with_reducible refine (HV1.out w10 (Ext.refl _)).mono ?_); rintro e w11 ⟨rfl, F11⟩)
            | ((with_reducible show wpList _ _ _ (⟨some 59, _, _, _, _, _⟩ :: _) _ _); go_must (refine wpList_valueG (by kernel_rfl) (exec_loadD (d := o) rfl rfl (HK.out.2.2.1.below F11).at0) ?_))
            | ((with_reducible show wpList _ _ _ (⟨some 60, _, _, _, _, _⟩ :: _) _ _); go_must (refine wpList_valueG (by kernel_rfl) (exec_loadD (d := R2) rfl rfl (HK.out.2.1.below F11).at0) ?_))
            | ((with_reducible refine (HV2.out w11 F11).mono ?_); rintro e w12 ⟨rfl, F12'⟩; have F12 := Ext.trans F11 F12')
            | ((with_reducible show wpList _ _ _ (⟨some 70, _, _, _, _, _⟩ :: _) _ _); go_must (refine wpList_valueG (by kernel_rfl) (exec_loadD (d := o) rfl rfl (HK.out.2.2.1.below F12).at0) ?_))
            | ((with_reducible show wpList _ _ _ (⟨some 71, _, _, _, _, _⟩ :: _) _ _); go_must (refine wpList_valueG (by kernel_rfl) (exec_loadD (d := R2) rfl rfl (HK.out.2.1.below F12).at0) ?_))
            | ((with_reducible refine (HV3.out w12 F12).mono ?_); rintro e w13 ⟨rfl, F13'⟩; have F13 := Ext.trans F12 F13')
            | ((with_reducible show wpList _ _ _ (⟨some 81, _, _, _, _, _⟩ :: _) _ _); go_must (refine wpList_valueG (by kernel_rfl) (exec_loadD (d := o) rfl rfl (HK.out.2.2.1.below F13).at0) ?_))
            | ((with_reducible show wpList _ _ _ (⟨some 82, _, _, _, _, _⟩ :: _) _ _); go_must (refine wpList_valueG (by kernel_rfl) (exec_loadD (d := R1) rfl rfl (HK.out.1.below F13).at0) ?_))
            | ((with_reducible show wpList _ _ _ (⟨some 83, _, _, _, _, _⟩ :: _) _ _); go_must (refine wpList_valueG (by kernel_rfl) (exec_neqD_ne h rfl rfl rfl _) ?_))
            | fail)
          go_ret
          exact ⟨rfl, HK.out.2.2.2.trans F13⟩

      · refine ⟨by decide, ?_⟩
        refine op_run rfl rfl (exec_build rfl rfl (run_buildD d (w2.drew.alloc (.cells #[] 45)))) ⟨E1.alloc _, ?_⟩
        simp only [Act.put, List.getElem_toArray, List.getElem_cons_succ, List.getElem_cons_zero, List.setIfInBounds_toArray, List.set_cons_succ, List.set_cons_zero]
        have EB := E1.alloc (.cells (u8s d.1).toArray 45)
        refine head_cases [2] (by kernel_rfl) (by simp) ?_
        intro i hi
        obtain rfl : i = 2 := by simpa using hi
        refine ⟨by decide, ?_⟩
        refine op_appD _ rfl rfl (.tmp 29) (.tmp 30) rfl w2.heap.size (.slice (some ⟨w2.drew.heap.size, 0, none⟩) 0 0) [] rfl ((OwnD.empty w2.drew _ (Nat.le_refl _)).alloc (.cells (u8s d.1).toArray 45)) A N c L rfl HL.out (HRD.out.ext (HB2.out.2.2.trans EB)) (by simp; omega) EB.size ?_
        intro v6 w6 ho6 hg6 hb6
        have E6 : Ext w2 w6 := hb6 _ _ (Nat.le_refl _) EB
        rw [List.nil_append] at ho6
        obtain ⟨A6, c6, rfl, _, _, _⟩ := ho6.slice
        refine ⟨E6, ?_⟩
        simp only [Act.put, List.getElem_toArray, List.getElem_cons_succ, List.getElem_cons_zero, List.setIfInBounds_toArray, List.set_cons_succ, List.set_cons_zero]
        have HN := Lib.hid ((Blk.new (w2.drew.alloc (.cells #[] 45)) (u8s d.1) 45).grown hg6 (by simp only [Value.ownBlock, World.size_alloc]; intro e; have := Option.some.inj e; omega)).rd
        have HO := Lib.hid ho6
        have EZ := E6
        have hbz := EZ.size
        clear ho6 hg6 hb6 E6 E1 EB
        refine (show Region.seqB _ _ _ _ _ = true ∧ _ from ⟨by kernel_rfl, ?_⟩)
        simp only [List.drop_succ_cons, List.drop_zero]
        go_wp2_with (first
          | ((with_reducible show wpList _ _ _ (⟨some 34, _, _, _, _, _⟩ :: _) _ _); go_must (refine wpList_appD _ rfl (.tmp 31) (.tmp 33) rfl w2.heap.size _ L rfl HO.out _ 1 1 [d] rfl rfl (by rw [dgs_one]; exact HN.out) (by have := HL.out; omega) hbz ?_); intro v5 w5 ho5 hg5 hbl5; obtain ⟨A5, c5, rfl, _, _, _⟩ := ho5.slice; rw [List.length_append, List.length_singleton, HL.out] at ho5)
          | fail)
        have E5 : Ext w2 w5 := hbl5 _ _ (Nat.le_refl _) EZ
        have HA : Hid (All w w5 w2.heap.size B d o (.slice A5 (N + 1) c5) (L ++ [d])) := Lib.hid ⟨ho5, HB2.out.1.below E5, HB2.out.2.1.below E5, HB2.out.2.2.trans E5⟩
        clear hg5 hbl5 E5 EZ hbz HO HN ho5
        by_cases h : o = R1
        · have HF := Lib.hid (HFT.out h)
          rw [HF.out] at HFE
          have HH := Lib.hid h
          clear h
          go_upto_region 6 with (first
            | ((with_reducible refine (HR1.out w5 HA.out.ext).mono ?_); rintro e w6 ⟨rfl, F6⟩)
            | ((with_reducible show wpList _ _ _ (⟨Option.none, .store _ (.tmp 9) _, _, _, _, _⟩ :: _) _ _); go_must (refine wpList_storeNew agg_dg w6 _ 45 rfl (.tmp 9) (.tmp 36) rfl rfl (u8s R1.1) rfl (dg_len R1) rfl (u8s_one _) ?_))
            | fail)
          have HC : Hid (Blk (w6.alloc (.cells (u8s R1.1).toArray 45)) w6.heap.size 45 (u8s R1.1) ∧ Ext w5 (w6.alloc (.cells (u8s R1.1).toArray 45))) := Lib.hid ⟨Blk.new _ _ _, Ext.alloc F6 _⟩
          generalize w6.alloc (.cells (u8s R1.1).toArray 45) = w7 at HC ⊢
          obtain ⟨g9, hg9⟩ : ∃ g, w6.heap.size = g := ⟨_, rfl⟩
          rw [hg9] at HC ⊢
          clear hg9
          obtain ⟨A8, c8, e8, hc8, _, hr8⟩ := HA.out.own.slice
          simp only [Value.slice.injEq] at e8
          obtain ⟨rfl, -, rfl⟩ := e8
          have HR2 := Lib.hid fun w' (E : Ext w5 w') => root_calls (N + 1) A5 c5 (L ++ [d]) w' (hr8.ext E) hlA (by omega) (by omega) (HG.out.glo.ext (HA.out.ext.trans E))
          have HPP := Lib.hid fun w' (E : Ext w5 w') => pp_calls (N + 1) N A5 c5 (L ++ [d]) w' (hr8.ext E) hlA (by omega) (by omega) (by omega) (by omega) (HG.out.glo.ext (HA.out.ext.trans E))
          rw [HRR2.out] at HR2
          rw [HPE.out] at HPP
          clear hr8 hc8
          go_upto_region 7 with (first
            | ((with_reducible refine (HR2.out w7 HC.out.2).mono ?_); rintro e w8 ⟨rfl, F8⟩)
            | ((with_reducible show wpList _ _ _ (⟨Option.none, .store _ (.tmp 10) _, _, _, _, _⟩ :: _) _ _); go_must (refine wpList_storeNew agg_dg w8 _ 45 rfl (.tmp 10) (.tmp 38) rfl rfl (u8s R2.1) rfl (dg_len R2) rfl (u8s_one _) ?_))
            | fail)
          have HD : Hid (Blk (w8.alloc (.cells (u8s R2.1).toArray 45)) g9 45 (u8s R1.1) ∧ Blk (w8.alloc (.cells (u8s R2.1).toArray 45)) w8.heap.size 45 (u8s R2.1) ∧ Ext w5 (w8.alloc (.cells (u8s R2.1).toArray 45))) := Lib.hid ⟨(HC.out.1.below F8).alloc _, Blk.new _ _ _, (HC.out.2.trans F8).alloc _⟩
          generalize w8.alloc (.cells (u8s R2.1).toArray 45) = w9 at HD ⊢
          obtain ⟨g10, hg10⟩ : ∃ g, w8.heap.size = g := ⟨_, rfl⟩
          rw [hg10] at HD ⊢
          clear hg10 HC
          have hNc : (((N + 1 : Nat)) : Int) = (N : Int) + 1 := by omega
          go_upto_region 8 with (first
            | ((with_reducible refine (HPP.out w9 HD.out.2.2).mono ?_); rintro e w10 ⟨v10, rfl, ho10, F10⟩; obtain ⟨A10, c10, rfl, hc10, _, hr10⟩ := ho10.slice)
            | fail)
          have F10' : Ext w9 w10 := F10
          have HK : Hid (Blk w10 g9 45 (u8s R1.1) ∧ Blk w10 g10 45 (u8s R2.1) ∧ Blk w10 (B + 1) 45 (u8s o.1) ∧ Ext w w10) := Lib.hid ⟨HD.out.1.below F10', HD.out.2.1.below F10', (HA.out.b1.below HD.out.2.2).below F10', (HA.out.ext.trans HD.out.2.2).trans F10'⟩
          have HV1 := Lib.hid fun w' (E : Ext w10 w') => vp_good R1 R2 N (N + 1) A10 P.length c10 P w' (hr10.ext E) rfl hc10 (by omega) (by omega) (by omega) (by omega) (HG.out.glo.ext (HK.out.2.2.2.trans E))
          have HV2 := Lib.hid fun w' (E : Ext w10 w') => vp_good o R2 N (N + 1) A10 P.length c10 P w' (hr10.ext E) rfl hc10 (by omega) (by omega) (by omega) (by omega) (HG.out.glo.ext (HK.out.2.2.2.trans E))
          have HV3 := Lib.hid fun w' (E : Ext w10 w') => refvp_good o R2 N (N + 1) A10 P.length c10 P w' (hr10.ext E) rfl hc10 (by omega) (by omega) (by omega) (by omega) (HG.out.ext (HK.out.2.2.2.trans E))
          simp only [HVE.out, hNc] at HV1
          simp only [HFE.out, hNc] at HV2 HV3
          clear HD HPP HR2 HR1 ho10 hr10
          go_wp2_with (first
            | ((with_reducible show wpList _ _ _ (⟨some 49, _, _, _, _, _⟩ :: _) _ _); go_must (refine wpList_valueG (by kernel_rfl) (exec_loadD (d := R1) rfl rfl HK.out.1.at0) ?_))
            | ((with_reducible show wpList _ _ _ (⟨some 50, _, _, _, _, _⟩ :: _) _ _); go_must (refine wpList_valueG (by kernel_rfl) (exec_loadD (d := R2) rfl rfl HK.out.2.1.at0) ?_))
            | ((with_reducible refine (HV1.out w10 (Ext.refl _)).mono ?_); rintro e w11 ⟨rfl, F11⟩)
            | ((with_reducible show wpList _ _ _ (⟨some 59, _, _, _, _, _⟩ :: _) _ _); go_must (refine wpList_valueG (by kernel_rfl) (exec_loadD (d := o) rfl rfl (HK.out.2.2.1.below F11).at0) ?_))
            | ((with_reducible show wpList _ _ _ (⟨some 60, _, _, _, _, _⟩ :: _) _ _); go_must (refine wpList_valueG (by kernel_rfl) (exec_loadD (d := R2) rfl rfl (HK.out.2.1.below F11).at0) ?_))
            | ((with_reducible refine (HV2.out w11 F11).mono ?_); rintro e w12 ⟨rfl, F12'⟩; have F12 := Ext.trans F11 F12')
            | ((with_reducible show wpList _ _ _ (⟨some 70, _, _, _, _, _⟩ :: _) _ _); go_must (refine wpList_valueG (by kernel_rfl) (exec_loadD (d := o) rfl rfl (HK.out.2.2.1.below F12).at0) ?_))
            | ((with_reducible show wpList _ _ _ (⟨some 71, _, _, _, _, _⟩ :: _) _ _); go_must (refine wpList_valueG (by kernel_rfl) (exec_loadD (d := R2) rfl rfl (HK.out.2.1.below F12).at0) ?_))
            | ((with_reducible refine (HV3.out w12 F12).mono ?_); rintro e w13 ⟨rfl, F13'⟩; have F13 := Ext.trans F12 F13')
            | ((with_reducible show wpList _ _ _ (⟨some 81, _, _, _, _, _⟩ :: _) _ _); go_must (refine wpList_valueG (by kernel_rfl) (exec_loadD (d := o) rfl rfl (HK.out.2.2.1.below F13).at0) ?_))
            | ((with_reducible show wpList _ _ _ (⟨some 82, _, _, _, _, _⟩ :: _) _ _); go_must (refine wpList_valueG (by kernel_rfl) (exec_loadD (d := R1) rfl rfl (HK.out.1.below F13).at0) ?_))
            | ((with_reducible show wpList _ _ _ (⟨some 83, _, _, _, _, _⟩ :: _) _ _); go_must (refine wpList_valueG (by kernel_rfl) (exec_neqD_eq HH.out rfl rfl rfl _) ?_))
            | fail)
          go_ret
          exact ⟨rfl, HK.out.2.2.2.trans F13⟩
        · skip
          go_upto_region 6 with (first
            | ((with_reducible refine (HR1.out w5 HA.out.ext).mono ?_); rintro e w6 ⟨rfl, F6⟩)
            | ((with_reducible show wpList _ _ _ (⟨Option.none, .store _ (.tmp 9) _, _, _, _, _⟩ :: _) _ _); go_must (refine wpList_storeNew agg_dg w6 _ 45 rfl (.tmp 9) (.tmp 36) rfl rfl (u8s R1.1) rfl (dg_len R1) rfl (u8s_one _) ?_))
            | fail)
          have HC : Hid (Blk (w6.alloc (.cells (u8s R1.1).toArray 45)) w6.heap.size 45 (u8s R1.1) ∧ Ext w5 (w6.alloc (.cells (u8s R1.1).toArray 45))) := Lib.hid ⟨Blk.new _ _ _, Ext.alloc F6 _⟩
          generalize w6.alloc (.cells (u8s R1.1).toArray 45) = w7 at HC ⊢
          obtain ⟨g9, hg9⟩ : ∃ g, w6.heap.size = g := ⟨_, rfl⟩
          rw [hg9] at HC ⊢
          clear hg9
          obtain ⟨A8, c8, e8, hc8, _, hr8⟩ := HA.out.own.slice
          simp only [Value.slice.injEq] at e8
          obtain ⟨rfl, -, rfl⟩ := e8
          have HR2 := Lib.hid fun w' (E : Ext w5 w') => root_calls (N + 1) A5 c5 (L ++ [d]) w' (hr8.ext E) hlA (by omega) (by omega) (HG.out.glo.ext (HA.out.ext.trans E))
          have HPP := Lib.hid fun w' (E : Ext w5 w') => pp_calls (N + 1) N A5 c5 (L ++ [d]) w' (hr8.ext E) hlA (by omega) (by omega) (by omega) (by omega) (HG.out.glo.ext (HA.out.ext.trans E))
          rw [HRR2.out] at HR2
          rw [HPE.out] at HPP
          clear hr8 hc8
          go_upto_region 7 with (first
            | ((with_reducible refine (HR2.out w7 HC.out.2).mono ?_); rintro e w8 ⟨rfl, F8⟩)
            | ((with_reducible show wpList _ _ _ (⟨Option.none, .store _ (.tmp 10) _, _, _, _, _⟩ :: _) _ _); go_must (refine wpList_storeNew agg_dg w8 _ 45 rfl (.tmp 10) (.tmp 38) rfl rfl (u8s R2.1) rfl (dg_len R2) rfl (u8s_one _) ?_))
            | fail)
          have HD : Hid (Blk (w8.alloc (.cells (u8s R2.1).toArray 45)) g9 45 (u8s R1.1) ∧ Blk (w8.alloc (.cells (u8s R2.1).toArray 45)) w8.heap.size 45 (u8s R2.1) ∧ Ext w5 (w8.alloc (.cells (u8s R2.1).toArray 45))) := Lib.hid ⟨(HC.out.1.below F8).alloc _, Blk.new _ _ _, (HC.out.2.trans F8).alloc _⟩
          generalize w8.alloc (.cells (u8s R2.1).toArray 45) = w9 at HD ⊢
          obtain ⟨g10, hg10⟩ : ∃ g, w8.heap.size = g := ⟨_, rfl⟩
          rw [hg10] at HD ⊢
          clear hg10 HC
          have hNc : (((N + 1 : Nat)) : Int) = (N : Int) + 1 := by omega
          go_upto_region 8 with (first
            | ((with_reducible refine (HPP.out w9 HD.out.2.2).mono ?_); rintro e w10 ⟨v10, rfl, ho10, F10⟩; obtain ⟨A10, c10, rfl, hc10, _, hr10⟩ := ho10.slice)
            | fail)
          have F10' : Ext w9 w10 := F10
          have HK : Hid (Blk w10 g9 45 (u8s R1.1) ∧ Blk w10 g10 45 (u8s R2.1) ∧ Blk w10 (B + 1) 45 (u8s o.1) ∧ Ext w w10) := Lib.hid ⟨HD.out.1.below F10', HD.out.2.1.below F10', (HA.out.b1.below HD.out.2.2).below F10', (HA.out.ext.trans HD.out.2.2).trans F10'⟩
          have HV1 := Lib.hid fun w' (E : Ext w10 w') => vp_good R1 R2 N (N + 1) A10 P.length c10 P w' (hr10.ext E) rfl hc10 (by omega) (by omega) (by omega) (by omega) (HG.out.glo.ext (HK.out.2.2.2.trans E))
          have HV2 := Lib.hid fun w' (E : Ext w10 w') => vp_good o R2 N (N + 1) A10 P.length c10 P w' (hr10.ext E) rfl hc10 (by omega) (by omega) (by omega) (by omega) (HG.out.glo.ext (HK.out.2.2.2.trans E))
          have HV3 := Lib.hid fun w' (E : Ext w10 w') => refvp_good o R2 N (N + 1) A10 P.length c10 P w' (hr10.ext E) rfl hc10 (by omega) (by omega) (by omega) (by omega) (HG.out.ext (HK.out.2.2.2.trans E))
          simp only [HVE.out, hNc] at HV1
          simp only [HFE.out, hNc] at HV2 HV3
          clear HD HPP HR2 HR1 ho10 hr10
          go_wp2_with (first
            | ((with_reducible show wpList _ _ _ (⟨some 49, _, _, _, _, _⟩ :: _) _ _); go_must (refine wpList_valueG (by kernel_rfl) (exec_loadD (d := R1) rfl rfl HK.out.1.at0) ?_))
            | ((with_reducible show wpList _ _ _ (⟨some 50, _, _, _, _, _⟩ :: _) _ _); go_must (refine wpList_valueG (by kernel_rfl) (exec_loadD (d := R2) rfl rfl HK.out.2.1.at0) ?_))
            | ((with_reducible refine (HV1.out w10 (Ext.refl _)).mono ?_); rintro e w11 ⟨rfl, F11⟩)
            | ((with_reducible show wpList _ _ _ (⟨some 59, _, _, _, _, _⟩ :: _) _ _); go_must (refine wpList_valueG (by kernel_rfl) (exec_loadD (d := o) rfl rfl (HK.out.2.2.1.below F11).at0) ?_))
            | ((with_reducible show wpList _ _ _ (⟨some 60, _, _, _, _, _⟩ :: _) _ _); go_must (refine wpList_valueG (by kernel_rfl) (exec_loadD (d := R2) rfl rfl (HK.out.2.1.below F11).at0) ?_))
            | ((with_reducible refine (HV2.out w11 F11).mono ?_); rintro e w12 ⟨rfl, F12'⟩; have F12 := Ext.trans F11 F12')
            | ((with_reducible show wpList _ _ _ (⟨some 70, _, _, _, _, _⟩ :: _) _ _); go_must (refine wpList_valueG (by kernel_rfl) (exec_loadD (d := o) rfl rfl (HK.out.2.2.1.below F12).at0) ?_))
            | ((with_reducible show wpList _ _ _ (⟨some 71, _, _, _, _, _⟩ :: _) _ _); go_must (refine wpList_valueG (by kernel_rfl) (exec_loadD (d := R2) rfl rfl (HK.out.2.1.below F12).at0) ?_))
            | ((with_reducible refine (HV3.out w12 F12).mono ?_); rintro e w13 ⟨rfl, F13'⟩; have F13 := Ext.trans F12 F13')
            | ((with_reducible show wpList _ _ _ (⟨some 81, _, _, _, _, _⟩ :: _) _ _); go_must (refine wpList_valueG (by kernel_rfl) (exec_loadD (d := o) rfl rfl (HK.out.2.2.1.below F13).at0) ?_))
            | ((with_reducible show wpList _ _ _ (⟨some 82, _, _, _, _, _⟩ :: _) _ _); go_must (refine wpList_valueG (by kernel_rfl) (exec_loadD (d := R1) rfl rfl (HK.out.1.below F13).at0) ?_))
            | ((with_reducible show wpList _ _ _ (⟨some 83, _, _, _, _, _⟩ :: _) _ _); go_must (refine wpList_valueG (by kernel_rfl) (exec_neqD_ne h rfl rfl rfl _) ?_))
            | fail)
          go_ret
          exact ⟨rfl, HK.out.2.2.2.trans F13⟩

    · refine ⟨by decide, ?_⟩
      refine op_run rfl rfl (exec_build rfl rfl (run_buildD d w2.drew)) ⟨(Ext.refl w2).drew.alloc _, ?_⟩
      simp only [Act.put, List.getElem_toArray, List.getElem_cons_succ, List.getElem_cons_zero, List.setIfInBounds_toArray, List.set_cons_succ, List.set_cons_zero]
      have D1 : Ext w2 (w2.drew.alloc (.cells (u8s d.1).toArray 45)) := (Ext.refl w2).drew.alloc _
      refine head_cases [0] (by kernel_rfl) (by simp) ?_
      intro i hi
      obtain rfl : i = 0 := by simpa using hi
      refine ⟨by decide, ?_⟩
      refine op_run rfl rfl (exec_buildE rfl (w2.drew.alloc (.cells (u8s d.1).toArray 45))) ⟨D1.alloc _, ?_⟩
      simp only [Act.put, List.getElem_toArray, List.getElem_cons_succ, List.getElem_cons_zero, List.setIfInBounds_toArray, List.set_cons_succ, List.set_cons_zero]
      have EB := D1.alloc (.cells #[] 45)
      refine head_cases [2] (by kernel_rfl) (by simp) ?_
      intro i hi
      obtain rfl : i = 2 := by simpa using hi
      refine ⟨by decide, ?_⟩
      refine op_appD _ rfl rfl (.tmp 29) (.tmp 30) rfl w2.heap.size (.slice (some ⟨(w2.drew.alloc (.cells (u8s d.1).toArray 45)).heap.size, 0, none⟩) 0 0) [] rfl (OwnD.empty (w2.drew.alloc (.cells (u8s d.1).toArray 45)) _ D1.size) A N c L rfl HL.out (HRD.out.ext (HB2.out.2.2.trans EB)) (by simp; omega) EB.size ?_
      intro v6 w6 ho6 hg6 hb6
      have E6 : Ext w2 w6 := hb6 _ _ (Nat.le_refl _) EB
      rw [List.nil_append] at ho6
      obtain ⟨A6, c6, rfl, _, _, _⟩ := ho6.slice
      refine ⟨E6, ?_⟩
      simp only [Act.put, List.getElem_toArray, List.getElem_cons_succ, List.getElem_cons_zero, List.setIfInBounds_toArray, List.set_cons_succ, List.set_cons_zero]
      have HN := Lib.hid (((Blk.new w2.drew (u8s d.1) 45).alloc (.cells #[] 45)).grown hg6 (by simp only [Value.ownBlock, World.size_alloc]; intro e; have := Option.some.inj e; omega)).rd
      have HO := Lib.hid ho6
      have EZ := E6
      have hbz := EZ.size
      clear ho6 hg6 hb6 E6 D1 EB
      refine (show Region.seqB _ _ _ _ _ = true ∧ _ from ⟨by kernel_rfl, ?_⟩)
      simp only [List.drop_succ_cons, List.drop_zero]
      go_wp2_with (first
        | ((with_reducible show wpList _ _ _ (⟨some 34, _, _, _, _, _⟩ :: _) _ _); go_must (refine wpList_appD _ rfl (.tmp 31) (.tmp 33) rfl w2.heap.size _ L rfl HO.out _ 1 1 [d] rfl rfl (by rw [dgs_one]; exact HN.out) (by have := HL.out; omega) hbz ?_); intro v5 w5 ho5 hg5 hbl5; obtain ⟨A5, c5, rfl, _, _, _⟩ := ho5.slice; rw [List.length_append, List.length_singleton, HL.out] at ho5)
        | fail)
      have E5 : Ext w2 w5 := hbl5 _ _ (Nat.le_refl _) EZ
      have HA : Hid (All w w5 w2.heap.size B d o (.slice A5 (N + 1) c5) (L ++ [d])) := Lib.hid ⟨ho5, HB2.out.1.below E5, HB2.out.2.1.below E5, HB2.out.2.2.trans E5⟩
      clear hg5 hbl5 E5 EZ hbz HO HN ho5
      by_cases h : o = R1
      · have HF := Lib.hid (HFT.out h)
        rw [HF.out] at HFE
        have HH := Lib.hid h
        clear h
        go_upto_region 6 with (first
          | ((with_reducible refine (HR1.out w5 HA.out.ext).mono ?_); rintro e w6 ⟨rfl, F6⟩)
          | ((with_reducible show wpList _ _ _ (⟨Option.none, .store _ (.tmp 9) _, _, _, _, _⟩ :: _) _ _); go_must (refine wpList_storeNew agg_dg w6 _ 45 rfl (.tmp 9) (.tmp 36) rfl rfl (u8s R1.1) rfl (dg_len R1) rfl (u8s_one _) ?_))
          | fail)
        have HC : Hid (Blk (w6.alloc (.cells (u8s R1.1).toArray 45)) w6.heap.size 45 (u8s R1.1) ∧ Ext w5 (w6.alloc (.cells (u8s R1.1).toArray 45))) := Lib.hid ⟨Blk.new _ _ _, Ext.alloc F6 _⟩
        generalize w6.alloc (.cells (u8s R1.1).toArray 45) = w7 at HC ⊢
        obtain ⟨g9, hg9⟩ : ∃ g, w6.heap.size = g := ⟨_, rfl⟩
        rw [hg9] at HC ⊢
        clear hg9
        obtain ⟨A8, c8, e8, hc8, _, hr8⟩ := HA.out.own.slice
        simp only [Value.slice.injEq] at e8
        obtain ⟨rfl, -, rfl⟩ := e8
        have HR2 := Lib.hid fun w' (E : Ext w5 w') => root_calls (N + 1) A5 c5 (L ++ [d]) w' (hr8.ext E) hlA (by omega) (by omega) (HG.out.glo.ext (HA.out.ext.trans E))
        have HPP := Lib.hid fun w' (E : Ext w5 w') => pp_calls (N + 1) N A5 c5 (L ++ [d]) w' (hr8.ext E) hlA (by omega) (by omega) (by omega) (by omega) (HG.out.glo.ext (HA.out.ext.trans E))
        rw [HRR2.out] at HR2
        rw [HPE.out] at HPP
        clear hr8 hc8
        go_upto_region 7 with (first
          | ((with_reducible refine (HR2.out w7 HC.out.2).mono ?_); rintro e w8 ⟨rfl, F8⟩)
          | ((with_reducible show wpList _ _ _ (⟨Option.none, .store _ (.tmp 10) _, _, _, _, _⟩ :: _) _ _); go_must (refine wpList_storeNew agg_dg w8 _ 45 rfl (.tmp 10) (.tmp 38) rfl rfl (u8s R2.1) rfl (dg_len R2) rfl (u8s_one _) ?_))
          | fail)
        have HD : Hid (Blk (w8.alloc (.cells (u8s R2.1).toArray 45)) g9 45 (u8s R1.1) ∧ Blk (w8.alloc (.cells (u8s R2.1).toArray 45)) w8.heap.size 45 (u8s R2.1) ∧ Ext w5 (w8.alloc (.cells (u8s R2.1).toArray 45))) := Lib.hid ⟨(HC.out.1.below F8).alloc _, Blk.new _ _ _, (HC.out.2.trans F8).alloc _⟩
        generalize w8.alloc (.cells (u8s R2.1).toArray 45) = w9 at HD ⊢
        obtain ⟨g10, hg10⟩ : ∃ g, w8.heap.size = g := ⟨_, rfl⟩
        rw [hg10] at HD ⊢
        clear hg10 HC
        have hNc : (((N + 1 : Nat)) : Int) = (N : Int) + 1 := by omega
        go_upto_region 8 with (first
          | ((with_reducible refine (HPP.out w9 HD.out.2.2).mono ?_); rintro e w10 ⟨v10, rfl, ho10, F10⟩; obtain ⟨A10, c10, rfl, hc10, _, hr10⟩ := ho10.slice)
          | fail)
        have F10' : Ext w9 w10 := F10
        have HK : Hid (Blk w10 g9 45 (u8s R1.1) ∧ Blk w10 g10 45 (u8s R2.1) ∧ Blk w10 (B + 1) 45 (u8s o.1) ∧ Ext w w10) := Lib.hid ⟨HD.out.1.below F10', HD.out.2.1.below F10', (HA.out.b1.below HD.out.2.2).below F10', (HA.out.ext.trans HD.out.2.2).trans F10'⟩
        have HV1 := Lib.hid fun w' (E : Ext w10 w') => vp_good R1 R2 N (N + 1) A10 P.length c10 P w' (hr10.ext E) rfl hc10 (by omega) (by omega) (by omega) (by omega) (HG.out.glo.ext (HK.out.2.2.2.trans E))
        have HV2 := Lib.hid fun w' (E : Ext w10 w') => vp_good o R2 N (N + 1) A10 P.length c10 P w' (hr10.ext E) rfl hc10 (by omega) (by omega) (by omega) (by omega) (HG.out.glo.ext (HK.out.2.2.2.trans E))
        have HV3 := Lib.hid fun w' (E : Ext w10 w') => refvp_good o R2 N (N + 1) A10 P.length c10 P w' (hr10.ext E) rfl hc10 (by omega) (by omega) (by omega) (by omega) (HG.out.ext (HK.out.2.2.2.trans E))
        simp only [HVE.out, hNc] at HV1
        simp only [HFE.out, hNc] at HV2 HV3
        clear HD HPP HR2 HR1 ho10 hr10
        go_wp2_with (first
          | ((with_reducible show wpList _ _ _ (⟨some 49, _, _, _, _, _⟩ :: _) _ _); go_must (refine wpList_valueG (by kernel_rfl) (exec_loadD (d := R1) rfl rfl HK.out.1.at0) ?_))
          | ((with_reducible show wpList _ _ _ (⟨some 50, _, _, _, _, _⟩ :: _) _ _); go_must (refine wpList_valueG (by kernel_rfl) (exec_loadD (d := R2) rfl rfl HK.out.2.1.at0) ?_))
          | ((with_reducible refine (HV1.out w10 (Ext.refl _)).mono ?_); rintro e w11 ⟨rfl, F11⟩)
          | ((with_reducible show wpList _ _ _ (⟨some 59, _, _, _, _, _⟩ :: _) _ _); go_must (refine wpList_valueG (by kernel_rfl) (exec_loadD (d := o) rfl rfl (HK.out.2.2.1.below F11).at0) ?_))
          | ((with_reducible show wpList _ _ _ (⟨some 60, _, _, _, _, _⟩ :: _) _ _); go_must (refine wpList_valueG (by kernel_rfl) (exec_loadD (d := R2) rfl rfl (HK.out.2.1.below F11).at0) ?_))
          | ((with_reducible refine (HV2.out w11 F11).mono ?_); rintro e w12 ⟨rfl, F12'⟩; have F12 := Ext.trans F11 F12')
          | ((with_reducible show wpList _ _ _ (⟨some 70, _, _, _, _, _⟩ :: _) _ _); go_must (refine wpList_valueG (by kernel_rfl) (exec_loadD (d := o) rfl rfl (HK.out.2.2.1.below F12).at0) ?_))
          | ((with_reducible show wpList _ _ _ (⟨some 71, _, _, _, _, _⟩ :: _) _ _); go_must (refine wpList_valueG (by kernel_rfl) (exec_loadD (d := R2) rfl rfl (HK.out.2.1.below F12).at0) ?_))
          | ((with_reducible refine (HV3.out w12 F12).mono ?_); rintro e w13 ⟨rfl, F13'⟩; have F13 := Ext.trans F12 F13')
          | ((with_reducible show wpList _ _ _ (⟨some 81, _, _, _, _, _⟩ :: _) _ _); go_must (refine wpList_valueG (by kernel_rfl) (exec_loadD (d := o) rfl rfl (HK.out.2.2.1.below F13).at0) ?_))
          | ((with_reducible show wpList _ _ _ (⟨some 82, _, _, _, _, _⟩ :: _) _ _); go_must (refine wpList_valueG (by kernel_rfl) (exec_loadD (d := R1) rfl rfl (HK.out.1.below F13).at0) ?_))
          | ((with_reducible show wpList _ _ _ (⟨some 83, _, _, _, _, _⟩ :: _) _ _); go_must (refine wpList_valueG (by kernel_rfl) (exec_neqD_eq HH.out rfl rfl rfl _) ?_))
          | fail)
        go_ret
        exact ⟨rfl, HK.out.2.2.2.trans F13⟩
      · skip
        go_upto_region 6 with (first
          | ((with_reducible refine (HR1.out w5 HA.out.ext).mono ?_); rintro e w6 ⟨rfl, F6⟩)
          | ((with_reducible show wpList _ _ _ (⟨Option.none, .store _ (.tmp 9) _, _, _, _, _⟩ :: _) _ _); go_must (refine wpList_storeNew agg_dg w6 _ 45 rfl (.tmp 9) (.tmp 36) rfl rfl (u8s R1.1) rfl (dg_len R1) rfl (u8s_one _) ?_))
          | fail)
        have HC : Hid (Blk (w6.alloc (.cells (u8s R1.1).toArray 45)) w6.heap.size 45 (u8s R1.1) ∧ Ext w5 (w6.alloc (.cells (u8s R1.1).toArray 45))) := Lib.hid ⟨Blk.new _ _ _, Ext.alloc F6 _⟩
        generalize w6.alloc (.cells (u8s R1.1).toArray 45) = w7 at HC ⊢
        obtain ⟨g9, hg9⟩ : ∃ g, w6.heap.size = g := ⟨_, rfl⟩
        rw [hg9] at HC ⊢
        clear hg9
        obtain ⟨A8, c8, e8, hc8, _, hr8⟩ := HA.out.own.slice
        simp only [Value.slice.injEq] at e8
        obtain ⟨rfl, -, rfl⟩ := e8
        have HR2 := Lib.hid fun w' (E : Ext w5 w') => root_calls (N + 1) A5 c5 (L ++ [d]) w' (hr8.ext E) hlA (by omega) (by omega) (HG.out.glo.ext (HA.out.ext.trans E))
        have HPP := Lib.hid fun w' (E : Ext w5 w') => pp_calls (N + 1) N A5 c5 (L ++ [d]) w' (hr8.ext E) hlA (by omega) (by omega) (by omega) (by omega) (HG.out.glo.ext (HA.out.ext.trans E))
        rw [HRR2.out] at HR2
        rw [HPE.out] at HPP
        clear hr8 hc8
        go_upto_region 7 with (first
          | ((with_reducible refine (HR2.out w7 HC.out.2).mono ?_); rintro e w8 ⟨rfl, F8⟩)
          | ((with_reducible show wpList _ _ _ (⟨Option.none, .store _ (.tmp 10) _, _, _, _, _⟩ :: _) _ _); go_must (refine wpList_storeNew agg_dg w8 _ 45 rfl (.tmp 10) (.tmp 38) rfl rfl (u8s R2.1) rfl (dg_len R2) rfl (u8s_one _) ?_))
          | fail)
        have HD : Hid (Blk (w8.alloc (.cells (u8s R2.1).toArray 45)) g9 45 (u8s R1.1) ∧ Blk (w8.alloc (.cells (u8s R2.1).toArray 45)) w8.heap.size 45 (u8s R2.1) ∧ Ext w5 (w8.alloc (.cells (u8s R2.1).toArray 45))) := Lib.hid ⟨(HC.out.1.below F8).alloc _, Blk.new _ _ _, (HC.out.2.trans F8).alloc _⟩
        generalize w8.alloc (.cells (u8s R2.1).toArray 45) = w9 at HD ⊢
        obtain ⟨g10, hg10⟩ : ∃ g, w8.heap.size = g := ⟨_, rfl⟩
        rw [hg10] at HD ⊢
        clear hg10 HC
        have hNc : (((N + 1 : Nat)) : Int) = (N : Int) + 1 := by omega
        go_upto_region 8 with (first
          | ((with_reducible refine (HPP.out w9 HD.out.2.2).mono ?_); rintro e w10 ⟨v10, rfl, ho10, F10⟩; obtain ⟨A10, c10, rfl, hc10, _, hr10⟩ := ho10.slice)
          | fail)
        have F10' : Ext w9 w10 := F10
        have HK : Hid (Blk w10 g9 45 (u8s R1.1) ∧ Blk w10 g10 45 (u8s R2.1) ∧ Blk w10 (B + 1) 45 (u8s o.1) ∧ Ext w w10) := Lib.hid ⟨HD.out.1.below F10', HD.out.2.1.below F10', (HA.out.b1.below HD.out.2.2).below F10', (HA.out.ext.trans HD.out.2.2).trans F10'⟩
        have HV1 := Lib.hid fun w' (E : Ext w10 w') => vp_good R1 R2 N (N + 1) A10 P.length c10 P w' (hr10.ext E) rfl hc10 (by omega) (by omega) (by omega) (by omega) (HG.out.glo.ext (HK.out.2.2.2.trans E))
        have HV2 := Lib.hid fun w' (E : Ext w10 w') => vp_good o R2 N (N + 1) A10 P.length c10 P w' (hr10.ext E) rfl hc10 (by omega) (by omega) (by omega) (by omega) (HG.out.glo.ext (HK.out.2.2.2.trans E))
        have HV3 := Lib.hid fun w' (E : Ext w10 w') => refvp_good o R2 N (N + 1) A10 P.length c10 P w' (hr10.ext E) rfl hc10 (by omega) (by omega) (by omega) (by omega) (HG.out.ext (HK.out.2.2.2.trans E))
        simp only [HVE.out, hNc] at HV1
        simp only [HFE.out, hNc] at HV2 HV3
        clear HD HPP HR2 HR1 ho10 hr10
        go_wp2_with (first
          | ((with_reducible show wpList _ _ _ (⟨some 49, _, _, _, _, _⟩ :: _) _ _); go_must (refine wpList_valueG (by kernel_rfl) (exec_loadD (d := R1) rfl rfl HK.out.1.at0) ?_))
          | ((with_reducible show wpList _ _ _ (⟨some 50, _, _, _, _, _⟩ :: _) _ _); go_must (refine wpList_valueG (by kernel_rfl) (exec_loadD (d := R2) rfl rfl HK.out.2.1.at0) ?_))
          | ((with_reducible refine (HV1.out w10 (Ext.refl _)).mono ?_); rintro e w11 ⟨rfl, F11⟩)
          | ((with_reducible show wpList _ _ _ (⟨some 59, _, _, _, _, _⟩ :: _) _ _); go_must (refine wpList_valueG (by kernel_rfl) (exec_loadD (d := o) rfl rfl (HK.out.2.2.1.below F11).at0) ?_))
          | ((with_reducible show wpList _ _ _ (⟨some 60, _, _, _, _, _⟩ :: _) _ _); go_must (refine wpList_valueG (by kernel_rfl) (exec_loadD (d := R2) rfl rfl (HK.out.2.1.below F11).at0) ?_))
          | ((with_reducible refine (HV2.out w11 F11).mono ?_); rintro e w12 ⟨rfl, F12'⟩; have F12 := Ext.trans F11 F12')
          | ((with_reducible show wpList _ _ _ (⟨some 70, _, _, _, _, _⟩ :: _) _ _); go_must (refine wpList_valueG (by kernel_rfl) (exec_loadD (d := o) rfl rfl (HK.out.2.2.1.below F12).at0) ?_))
          | ((with_reducible show wpList _ _ _ (⟨some 71, _, _, _, _, _⟩ :: _) _ _); go_must (refine wpList_valueG (by kernel_rfl) (exec_loadD (d := R2) rfl rfl (HK.out.2.1.below F12).at0) ?_))
          | ((with_reducible refine (HV3.out w12 F12).mono ?_); rintro e w13 ⟨rfl, F13'⟩; have F13 := Ext.trans F12 F13')
          | ((with_reducible show wpList _ _ _ (⟨some 81, _, _, _, _, _⟩ :: _) _ _); go_must (refine wpList_valueG (by kernel_rfl) (exec_loadD (d := o) rfl rfl (HK.out.2.2.1.below F13).at0) ?_))
          | ((with_reducible show wpList _ _ _ (⟨some 82, _, _, _, _, _⟩ :: _) _ _); go_must (refine wpList_valueG (by kernel_rfl) (exec_loadD (d := R1) rfl rfl (HK.out.1.below F13).at0) ?_))
          | ((with_reducible show wpList _ _ _ (⟨some 83, _, _, _, _, _⟩ :: _) _ _); go_must (refine wpList_valueG (by kernel_rfl) (exec_neqD_ne h rfl rfl rfl _) ?_))
          | fail)
        go_ret
        exact ⟨rfl, HK.out.2.2.2.trans F13⟩
end Go.Proofs.YtcjeclddpkinkaaDoor
