/- The contract of the reference's prefix proofs. -/
import Derived.Test.YtcjeclddpkinkaaDoorD19
import Derived.Test.YtcjeclddpkinkaaDoorB10
set_option linter.unusedSimpArgs false
set_option linter.unusedVariables false
namespace Go.Proofs.YtcjeclddpkinkaaDoor
open Go.RowKit
open Wz (Dg)

theorem OwnD.one (w : World) (d : Dg) : OwnD (w.alloc (.cells (u8s d.1).toArray 45)) w.heap.size (.slice (some ⟨w.heap.size, 0, none⟩) 1 1) [d] := by
  refine ⟨by rw [dgs_length, Nat.mul_comm], .inr ⟨w.heap.size, 1, (u8s d.1).toArray, rfl, Nat.le_refl _, heap_alloc_new w _, Nat.le_refl _, by decide, ?_, ?_⟩⟩
  · simp [dg_len]
  · rw [dgs_one]; simp only [List.length_singleton, Nat.one_mul]; exact List.take_of_length_le (by rw [dg_len]; decide)

theorem Mk.sub_len (H : List UInt8 → Dg) : ∀ (l : List Dg) (m : Nat) (b : Bool), (Mk.subF H l m b).length ≤ l.length + 1 := by
  intro l
  induction hn : l.length using Nat.strongRecOn generalizing l with
  | ind n ih =>
    intro m b
    subst hn
    unfold Mk.subF
    by_cases h : l.length ≤ m ∨ l.length < 2
    · rw [dif_pos h]; split <;> simp
    · rw [dif_neg h]
      have hlt := Mk.sp_lt (n := l.length) (by omega)
      have hps := Mk.sp_pos l.length
      have h1 : (l.take (Mk.sp l.length)).length = Mk.sp l.length := by rw [List.length_take]; omega
      have h3 : (l.drop (Mk.sp l.length)).length = l.length - Mk.sp l.length := by rw [List.length_drop]
      split
      · have := ih (l.take (Mk.sp l.length)).length (by omega) (l.take (Mk.sp l.length)) rfl m b
        rw [List.length_append, List.length_singleton]; omega
      · have := ih (l.drop (Mk.sp l.length)).length (by omega) (l.drop (Mk.sp l.length)) rfl (m - Mk.sp l.length) false
        rw [List.length_append, List.length_singleton]; omega

set_option maxRecDepth 100000 in
set_option maxHeartbeats 1000000 in
/-- the reference's sub -/
theorem refsub_calls : ∀ (N m : Nat) (A : Option Addr) (c : Nat) (L : List Dg) (b : Bool) (w : World), Rd w A (dgs L) → L.length = N → N ≤ c → N ≤ 1000000 → 1 ≤ m → m ≤ N → GloR w →
    Calls Tryd.prog 97 #[.slice A N c, .int .i64 (m : Int), .bool b] w (fun e w' => ∃ v, e = .returned v ∧ OwnD w' w.heap.size v (Mk.subF shF L m b) ∧ Ext w w') := by
  intro N
  induction N using Nat.strongRecOn with
  | ind N ih =>
    intro m A c L b w hr hL hNc hN hm1 hmN hG
    by_cases h1 : m = N
    · subst h1
      have hse := Mk.sub_end shF (l := L) (m := m) (by omega) b
      rw [hse]
      have hNe1 : ((m : Int) == (m : Int)) = true := by rw [beq_iff_eq]
      cases b with
      | true =>
        clear ih hr hL hG hse
        go_enter Tryd.func97, Tryd.ntmps97
        go_wp2_with fail
        go_ret
        exact ⟨_, rfl, OwnD.nil _ _, Ext.refl w⟩
      | false =>
        have HR := Lib.hid (refroot_calls m A c L w hr hL (by omega) (by omega) hG)
        obtain ⟨d, hd⟩ : ∃ d, Mk.rootF shF L = d := ⟨_, rfl⟩
        rw [hd] at HR ⊢
        clear ih hr hL hG hse hd
        go_enter Tryd.func97, Tryd.ntmps97
        go_wp2_with (first
          | ((with_reducible refine HR.out.mono ?_); rintro e w2 ⟨rfl, E2⟩)
          | ((with_reducible show wpList _ _ _ (⟨some 21, _, _, _, _, _⟩ :: _) _ _); go_must (refine wpList_value rfl (exec_build rfl rfl (run_buildD d w2)) ?_))
          | fail)
        go_ret
        exact ⟨_, rfl, (OwnD.one w2 d).rebase E2.size, E2.alloc _⟩
    · have h2 : 2 ≤ N := by omega
      have hkl := Mk.sp_lt h2
      have hkp := Mk.sp_pos N
      have HPL := Lib.hid fun h => Mk.sub_left shF (l := L) (m := m) (by omega) hm1 h b
      have HPR := Lib.hid fun h => Mk.sub_right shF (l := L) (m := m) (by omega) h b
      rw [hL] at HPL HPR
      have HSP := Lib.hid fun w => refsplit_calls N h2 (by omega) w
      obtain ⟨k, hk⟩ : ∃ k, Mk.sp N = k := ⟨_, rfl⟩
      rw [hk] at hkl hkp HPL HPR
      simp only [hk] at HSP
      obtain ⟨A1, hs1, hr1, hA1⟩ := run_sliceD hr hL hNc none (some (.int .i64 (k : Int))) 0 k (.inl ⟨rfl, rfl⟩) (.inr ⟨_, rfl⟩) (by omega) (by omega)
      obtain ⟨A2, hs2, hr2, hA2⟩ := run_sliceD hr hL hNc (some (.int .i64 (k : Int))) none k N (.inr ⟨_, rfl⟩) (.inl ⟨rfl, rfl⟩) (by omega) (by omega)
      rw [List.drop_zero, Nat.sub_zero] at hr1
      simp only [Nat.sub_zero] at hs1
      have e2 : (L.drop k).take (N - k) = L.drop k := List.take_of_length_le (by rw [List.length_drop]; omega)
      rw [e2] at hr2
      have hl1 : (L.take k).length = k := by rw [List.length_take]; omega
      have hl2 : (L.drop k).length = N - k := by rw [List.length_drop]; omega
      have HP1 := Lib.hid fun (hj : m ≤ k) w' (E : Ext w w') => ih k hkl m A1 c (L.take k) b w' (hr1.ext E) hl1 (by omega) (by omega) hm1 hj (hG.ext E)
      have HP2 := Lib.hid fun (hj : k < m) w' (E : Ext w w') => ih (N - k) (by omega) (m - k) A2 (c - k) (L.drop k) false w' (hr2.ext E) hl2 (by omega) (by omega) (by omega) (by omega) (hG.ext E)
      have HR1 := Lib.hid fun w' (E : Ext w w') => refroot_calls k A1 c (L.take k) w' (hr1.ext E) hl1 (by omega) (by omega) (hG.ext E)
      have HR2 := Lib.hid fun w' (E : Ext w w') => refroot_calls (N - k) A2 (c - k) (L.drop k) w' (hr2.ext E) hl2 (by omega) (by omega) (hG.ext E)
      have hq1 := Mk.sub_len shF (L.take k) m b
      have hq2 := Mk.sub_len shF (L.drop k) (m - k) false
      rw [hl1] at hq1
      rw [hl2] at hq2
      obtain ⟨x, hx⟩ : ∃ x, Mk.rootF shF (L.take k) = x := ⟨_, rfl⟩
      obtain ⟨y, hy⟩ : ∃ x, Mk.rootF shF (L.drop k) = x := ⟨_, rfl⟩
      rw [hx] at HR1 HPR
      rw [hy] at HR2 HPL
      obtain ⟨l1, hll1⟩ : ∃ x, Mk.subF shF (L.take k) m b = x := ⟨_, rfl⟩
      obtain ⟨l2, hll2⟩ : ∃ x, Mk.subF shF (L.drop k) (m - k) false = x := ⟨_, rfl⟩
      simp only [hll1] at HP1 HPL hq1
      simp only [hll2] at HP2 HPR hq2
      have hNe1 : ((m : Int) == (N : Int)) = false := by rw [beq_eq_false_iff_ne]; omega
      clear hG ih hL hr h1 hk hx hy hr1 hr2 hA1 hA2 hl1 hl2 e2 hll1 hll2
      by_cases hik : m ≤ k
      · have hdk : decide ((m : Int) ≤ (k : Int)) = true := by first | exact decide_eq_true (by omega) | (rw [decide_eq_false_iff_not]; omega)
        rw [HPL.out hik]
        have HCP := Lib.hid fun w' E => HP1.out hik w' E
        clear HP1 HP2 HPL HPR
        go_enter Tryd.func97, Tryd.ntmps97
        go_upto_region 7 with ((with_reducible refine (HSP.out _).mono ?_); rintro e w2 ⟨rfl, rfl⟩)
        refine wp_region_ord (fun w' => Ext w w') [(0, true), (1, true), (2, true), (3, true), (4, true), (6, true), (7, true), (8, true), (5, false), (9, false), (10, false)] (by kernel_rfl) (by kernel_rfl) (fun _ _ d _ _ h => by cases d <;> exact h) (Ext.refl w).drew ?_
        simp only [ordOps, List.filterMap_cons, List.filterMap_nil, List.getElem?_cons_succ, List.getElem?_cons_zero, Option.map_some, List.length_cons, List.length_nil, Nat.zero_add, Nat.reduceAdd, List.drop_succ_cons, List.drop_zero]
        refine mask_read (v := .slice A N c) rfl (fun w' E => by go_simp) ?_
        simp only [Act.put, List.getElem_toArray, List.getElem_cons_succ, List.getElem_cons_zero, List.setIfInBounds_toArray, List.set_cons_succ, List.set_cons_zero]
        refine mask_read (v := .int .i64 k) rfl (fun w' E => by go_simp) ?_
        simp only [Act.put, List.getElem_toArray, List.getElem_cons_succ, List.getElem_cons_zero, List.setIfInBounds_toArray, List.set_cons_succ, List.set_cons_zero]
        refine mask_read (v := .slice A1 k c) rfl (fun w' E => exec_slice rfl rfl rfl rfl hs1 w') ?_
        simp only [Act.put, List.getElem_toArray, List.getElem_cons_succ, List.getElem_cons_zero, List.setIfInBounds_toArray, List.set_cons_succ, List.set_cons_zero]
        refine mask_read (v := .int .i64 m) rfl (fun w' E => by go_simp) ?_
        simp only [Act.put, List.getElem_toArray, List.getElem_cons_succ, List.getElem_cons_zero, List.setIfInBounds_toArray, List.set_cons_succ, List.set_cons_zero]
        refine mask_read (v := .bool b) rfl (fun w' E => by go_simp) ?_
        simp only [Act.put, List.getElem_toArray, List.getElem_cons_succ, List.getElem_cons_zero, List.setIfInBounds_toArray, List.set_cons_succ, List.set_cons_zero]
        refine mask_read (v := .slice A N c) rfl (fun w' E => by go_simp) ?_
        simp only [Act.put, List.getElem_toArray, List.getElem_cons_succ, List.getElem_cons_zero, List.setIfInBounds_toArray, List.set_cons_succ, List.set_cons_zero]
        refine mask_read (v := .int .i64 k) rfl (fun w' E => by go_simp) ?_
        simp only [Act.put, List.getElem_toArray, List.getElem_cons_succ, List.getElem_cons_zero, List.setIfInBounds_toArray, List.set_cons_succ, List.set_cons_zero]
        refine mask_read (v := .slice A2 (N - k) (c - k)) rfl (fun w' E => exec_slice rfl rfl rfl rfl hs2 w') ?_
        simp only [Act.put, List.getElem_toArray, List.getElem_cons_succ, List.getElem_cons_zero, List.setIfInBounds_toArray, List.set_cons_succ, List.set_cons_zero]
        refine mask_call (f := 97) (args := #[.slice A1 k c, .int .i64 m, .bool b]) rfl (by go_simp) ((HCP.out _ (Ext.refl w).drew).mono ?_)
        rintro e w1 ⟨v, rfl, ho1, E1'⟩
        have E1 : Ext w w1 := (Ext.refl w).drew.trans E1'
        obtain ⟨A3, c3, rfl, _, _, _⟩ := ho1.slice
        refine ⟨_, rfl, E1, ?_⟩
        simp only [Act.put, List.getElem_toArray, List.getElem_cons_succ, List.getElem_cons_zero, List.setIfInBounds_toArray, List.set_cons_succ, List.set_cons_zero]
        refine mask_call (f := 39) (args := #[.slice A2 (N - k) (c - k)]) rfl (by go_simp) ((HR2.out _ E1).mono ?_)
        rintro e w2 ⟨rfl, E2⟩
        refine ⟨_, rfl, E1.trans E2, ?_⟩
        simp only [Act.put, List.getElem_toArray, List.getElem_cons_succ, List.getElem_cons_zero, List.setIfInBounds_toArray, List.set_cons_succ, List.set_cons_zero]
        refine mask_value (v := .slice (some ⟨w2.heap.size, 0, none⟩) 1 1) (w' := w2.alloc (.cells (u8s y.1).toArray 45)) rfl (exec_build rfl rfl (run_buildD y w2)) ((E1.trans E2).alloc _) ?_
        simp only [Act.put, List.getElem_toArray, List.getElem_cons_succ, List.getElem_cons_zero, List.setIfInBounds_toArray, List.set_cons_succ, List.set_cons_zero]
        refine mask_done ?_
        have E3 := (E1.trans E2).alloc (.cells (u8s y.1).toArray 45)
        have hb3 := E3.size
        have HN := Lib.hid (Blk.new w2 (u8s y.1) 45).rd
        have HO := Lib.hid ((((ho1.rebase (Ext.refl w).drew.size).below E2)).alloc (.cells (u8s y.1).toArray 45))
        go_wp2_with (first
          | ((with_reducible show wpList _ _ _ (⟨some 39, _, _, _, _, _⟩ :: _) _ _); go_must (refine wpList_appD _ rfl (.tmp 33) (.tmp 38) rfl w.heap.size _ l1 rfl HO.out _ 1 1 [y] rfl rfl (by rw [dgs_one]; exact HN.out) (by omega) hb3 ?_); intro v5 w5 ho5 hg5 hbl5; obtain ⟨A5, c5, rfl, _, _, _⟩ := ho5.slice)
          | fail)
        go_ret
        rw [List.length_append, List.length_singleton] at ho5
        exact ⟨_, rfl, ho5, hbl5 _ _ (Nat.le_refl _) E3⟩
      · have hdk : decide ((m : Int) ≤ (k : Int)) = false := by first | exact decide_eq_true (by omega) | (rw [decide_eq_false_iff_not]; omega)
        rw [HPR.out (by omega)]
        have HCP := Lib.hid fun w' E => HP2.out (by omega) w' E
        clear HP1 HP2 HPL HPR
        have hsub : IntKind.i64.wrap ((m : Int) - (k : Int)) = ((m - k : Nat) : Int) := by rw [IntWalk.i64_in _ (by omega)]; omega
        go_enter Tryd.func97, Tryd.ntmps97
        go_upto_region 8 with ((with_reducible refine (HSP.out _).mono ?_); rintro e w2 ⟨rfl, rfl⟩)
        refine wp_region_ord (fun w' => Ext w w') [(0, true), (1, true), (2, true), (3, true), (4, true), (5, true), (7, true), (8, true), (9, true), (6, false), (10, false), (11, false)] (by kernel_rfl) (by kernel_rfl) (fun _ _ d _ _ h => by cases d <;> exact h) (Ext.refl w).drew ?_
        simp only [ordOps, List.filterMap_cons, List.filterMap_nil, List.getElem?_cons_succ, List.getElem?_cons_zero, Option.map_some, List.length_cons, List.length_nil, Nat.zero_add, Nat.reduceAdd, List.drop_succ_cons, List.drop_zero]
        refine mask_read (v := .slice A N c) rfl (fun w' E => by go_simp) ?_
        simp only [Act.put, List.getElem_toArray, List.getElem_cons_succ, List.getElem_cons_zero, List.setIfInBounds_toArray, List.set_cons_succ, List.set_cons_zero]
        refine mask_read (v := .int .i64 k) rfl (fun w' E => by go_simp) ?_
        simp only [Act.put, List.getElem_toArray, List.getElem_cons_succ, List.getElem_cons_zero, List.setIfInBounds_toArray, List.set_cons_succ, List.set_cons_zero]
        refine mask_read (v := .slice A2 (N - k) (c - k)) rfl (fun w' E => exec_slice rfl rfl rfl rfl hs2 w') ?_
        simp only [Act.put, List.getElem_toArray, List.getElem_cons_succ, List.getElem_cons_zero, List.setIfInBounds_toArray, List.set_cons_succ, List.set_cons_zero]
        refine mask_read (v := .int .i64 m) rfl (fun w' E => by go_simp) ?_
        simp only [Act.put, List.getElem_toArray, List.getElem_cons_succ, List.getElem_cons_zero, List.setIfInBounds_toArray, List.set_cons_succ, List.set_cons_zero]
        refine mask_read (v := .int .i64 k) rfl (fun w' E => by go_simp) ?_
        simp only [Act.put, List.getElem_toArray, List.getElem_cons_succ, List.getElem_cons_zero, List.setIfInBounds_toArray, List.set_cons_succ, List.set_cons_zero]
        refine mask_read (v := .int .i64 ((m - k : Nat) : Int)) rfl (fun w' E => by go_simp) ?_
        simp only [Act.put, List.getElem_toArray, List.getElem_cons_succ, List.getElem_cons_zero, List.setIfInBounds_toArray, List.set_cons_succ, List.set_cons_zero]
        refine mask_read (v := .slice A N c) rfl (fun w' E => by go_simp) ?_
        simp only [Act.put, List.getElem_toArray, List.getElem_cons_succ, List.getElem_cons_zero, List.setIfInBounds_toArray, List.set_cons_succ, List.set_cons_zero]
        refine mask_read (v := .int .i64 k) rfl (fun w' E => by go_simp) ?_
        simp only [Act.put, List.getElem_toArray, List.getElem_cons_succ, List.getElem_cons_zero, List.setIfInBounds_toArray, List.set_cons_succ, List.set_cons_zero]
        refine mask_read (v := .slice A1 k c) rfl (fun w' E => exec_slice rfl rfl rfl rfl hs1 w') ?_
        simp only [Act.put, List.getElem_toArray, List.getElem_cons_succ, List.getElem_cons_zero, List.setIfInBounds_toArray, List.set_cons_succ, List.set_cons_zero]
        refine mask_call (f := 97) (args := #[.slice A2 (N - k) (c - k), .int .i64 ((m - k : Nat) : Int), .bool false]) rfl (by go_simp) ((HCP.out _ (Ext.refl w).drew).mono ?_)
        rintro e w1 ⟨v, rfl, ho1, E1'⟩
        have E1 : Ext w w1 := (Ext.refl w).drew.trans E1'
        obtain ⟨A3, c3, rfl, _, _, _⟩ := ho1.slice
        refine ⟨_, rfl, E1, ?_⟩
        simp only [Act.put, List.getElem_toArray, List.getElem_cons_succ, List.getElem_cons_zero, List.setIfInBounds_toArray, List.set_cons_succ, List.set_cons_zero]
        refine mask_call (f := 39) (args := #[.slice A1 k c]) rfl (by go_simp) ((HR1.out _ E1).mono ?_)
        rintro e w2 ⟨rfl, E2⟩
        refine ⟨_, rfl, E1.trans E2, ?_⟩
        simp only [Act.put, List.getElem_toArray, List.getElem_cons_succ, List.getElem_cons_zero, List.setIfInBounds_toArray, List.set_cons_succ, List.set_cons_zero]
        refine mask_value (v := .slice (some ⟨w2.heap.size, 0, none⟩) 1 1) (w' := w2.alloc (.cells (u8s x.1).toArray 45)) rfl (exec_build rfl rfl (run_buildD x w2)) ((E1.trans E2).alloc _) ?_
        simp only [Act.put, List.getElem_toArray, List.getElem_cons_succ, List.getElem_cons_zero, List.setIfInBounds_toArray, List.set_cons_succ, List.set_cons_zero]
        refine mask_done ?_
        have E3 := (E1.trans E2).alloc (.cells (u8s x.1).toArray 45)
        have hb3 := E3.size
        have HN := Lib.hid (Blk.new w2 (u8s x.1) 45).rd
        have HO := Lib.hid ((((ho1.rebase (Ext.refl w).drew.size).below E2)).alloc (.cells (u8s x.1).toArray 45))
        go_wp2_with (first
          | ((with_reducible show wpList _ _ _ (⟨some 52, _, _, _, _, _⟩ :: _) _ _); go_must (refine wpList_appD _ rfl (.tmp 46) (.tmp 51) rfl w.heap.size _ l2 rfl HO.out _ 1 1 [x] rfl rfl (by rw [dgs_one]; exact HN.out) (by omega) hb3 ?_); intro v5 w5 ho5 hg5 hbl5; obtain ⟨A5, c5, rfl, _, _, _⟩ := ho5.slice)
          | fail)
        go_ret
        rw [List.length_append, List.length_singleton] at ho5
        exact ⟨_, rfl, ho5, hbl5 _ _ (Nat.le_refl _) E3⟩

set_option maxRecDepth 100000 in
set_option maxHeartbeats 400000 in
theorem refpp_bad (A : Option Addr) (N c : Nat) (i : Int) (w : World) (hi : i < 1 ∨ (N : Int) < i) :
    Calls Tryd.prog 37 #[.slice A N c, .int .i64 i] w (fun e w' => e = .returned (.tuple #[.slice none 0 0, .int .i64 12]) ∧ Ext w w') := by
  by_cases h0 : i < 1
  · have hd : decide (i < 1) = true := decide_eq_true h0
    clear hi h0
    go_enter Tryd.func37, Tryd.ntmps37
    go_wp2
    go_ret2
    exact ⟨rfl, Ext.refl w⟩
  · have hd : decide (i < 1) = false := decide_eq_false h0
    have hd2 : decide (i > (N : Int)) = true := decide_eq_true (by omega)
    clear hi h0
    go_enter Tryd.func37, Tryd.ntmps37
    go_wp2
    go_ret2
    exact ⟨rfl, Ext.refl w⟩
set_option maxRecDepth 100000 in
set_option maxHeartbeats 400000 in
theorem refpp_calls (N m : Nat) (A : Option Addr) (c : Nat) (L : List Dg) (w : World) (hr : Rd w A (dgs L)) (hL : L.length = N) (hc : N ≤ c) (hN : N ≤ 1000000) (hm : 1 ≤ m) (hmN : m ≤ N) (hG : GloR w) :
    Calls Tryd.prog 37 #[.slice A N c, .int .i64 (m : Int)] w (fun e w' => ∃ v, e = .returned (.tuple #[v, .int .i64 0]) ∧ OwnD w' w.heap.size v (Mk.subF shF L m true) ∧ Ext w w') := by
  have HS := Lib.hid (refsub_calls N m A c L true w hr hL hc hN hm hmN hG)
  obtain ⟨l, hl⟩ : ∃ l, Mk.subF shF L m true = l := ⟨_, rfl⟩
  rw [hl] at HS ⊢
  have hd : decide ((m : Int) < 1) = false := by rw [decide_eq_false_iff_not]; omega
  have hd2 : decide ((m : Int) > (N : Int)) = false := by rw [decide_eq_false_iff_not]; omega
  clear hr hL hG hl
  go_enter Tryd.func37, Tryd.ntmps37
  go_wp2_with (first
    | ((with_reducible refine HS.out.mono ?_); rintro e w2 ⟨v, rfl, ho2, E2⟩; obtain ⟨A3, c3, rfl, _, _, _⟩ := ho2.slice)
    | fail)
  go_ret2
  exact ⟨_, rfl, ho2, E2⟩
end Go.Proofs.YtcjeclddpkinkaaDoor
