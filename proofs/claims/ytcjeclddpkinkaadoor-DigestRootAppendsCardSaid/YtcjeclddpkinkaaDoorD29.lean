/- The reference's Same; Prove and ProvePrefix of both sides for whatever number. -/
import Derived.Test.YtcjeclddpkinkaaDoorD28
set_option linter.unusedSimpArgs false
set_option linter.unusedVariables false
namespace Go.Proofs.YtcjeclddpkinkaaDoor
open Go.RowKit
open Wz (Dg)

attribute [local irreducible] wpQuiet
set_option maxRecDepth 100000 in
set_option maxHeartbeats 1000000 in
/-- the reference's Same -/
theorem refsame_calls (A1 A2 : Option Addr) (N M c1 c2 : Nat) (L1 L2 : List Dg) (w : World) (hr1 : Rd w A1 (dgs L1)) (hr2 : Rd w A2 (dgs L2)) (hl1 : L1.length = N) (hl2 : L2.length = M) (hN : N ≤ 1000000) (hM : M ≤ 1000000) :
    Calls Tryd.prog 40 #[.slice A1 N c1, .slice A2 M c2] w (fun e w' => e = .returned (.bool (decide (L1 = L2))) ∧ Ext w w') := by
  have HR1 := Lib.hid hr1
  have HR2 := Lib.hid hr2
  have HL1 := Lib.hid hl1
  have HL2 := Lib.hid hl2
  clear hr1 hr2
  by_cases hNM : N = M
  · subst hNM
    have hd0 : ((N : Int) == (N : Int)) = true := by rw [beq_iff_eq]
    obtain ⟨r, hrr⟩ : ∃ r, decide (L1 = L2) = r := ⟨_, rfl⟩
    have HRR := Lib.hid hrr
    rw [hrr]
    clear hl1 hl2 hrr
    go_enter Tryd.func40, Tryd.ntmps40
    go_wp2_with fail
    go_loopg [5] N (fun gk s5 wr => ∃ k : Nat, s5 = .int .i64 (k : Int) ∧ k ≤ N ∧ N - k ≤ gk ∧ Hid (L1.take k = L2.take k) ∧ Hid (Ext w wr))
    case atStart => exact ⟨0, rfl, by omega, by omega, Lib.hid rfl, Lib.hid (Ext.refl w)⟩
    case round =>
    obtain ⟨k, rfl, hk, hgk, HT, HE⟩ := hrel
    by_cases hkn : k < N
    · have hk1 : k < L1.length := by rw [HL1.out]; exact hkn
      have hk2 : k < L2.length := by rw [HL2.out]; exact hkn
      have hdk : decide ((k : Int) < (N : Int)) = true := decide_eq_true (by omega)
      obtain ⟨b1, o1, rfl, hc1⟩ := (HR1.out.ext HE.out) (by rw [dgs_length, HL1.out]; omega)
      obtain ⟨b2, o2, rfl, hc2⟩ := (HR2.out.ext HE.out) (by rw [dgs_length, HL2.out]; omega)
      have hx := dg_cells hc1 hk1
      have hy := dg_cells hc2 hk2
      have HTE : Hid (L1[k] = L2[k] → L1.take (k + 1) = L2.take (k + 1)) := Lib.hid fun e => by
        rw [List.take_succ_eq_append_getElem hk1, List.take_succ_eq_append_getElem hk2, HT.out, e]
      have HTN : Hid (L1[k] ≠ L2[k] → r = false) := Lib.hid fun e => by
        rw [← HRR.out, decide_eq_false_iff_not]
        rintro rfl
        exact e rfl
      obtain ⟨x, hx'⟩ : ∃ x : Dg, L1[k]'hk1 = x := ⟨_, rfl⟩
      obtain ⟨y, hy'⟩ : ∃ x : Dg, L2[k]'hk2 = x := ⟨_, rfl⟩
      rw [hx'] at hx HTE HTN
      rw [hy'] at hy HTE HTN
      have hb1 : b1 < wr.heap.size := lt_of_cell (hx 0 _ (List.getElem?_eq_getElem (by rw [dg_len]; decide)))
      have hb2 : b2 < wr.heap.size := lt_of_cell (hy 0 _ (List.getElem?_eq_getElem (by rw [dg_len]; decide)))
      have HX := Lib.hid hx
      have HY := Lib.hid hy
      clear hx hy hc1 hc2 hx' hy'
      go_upto_region 6 with fail
      refine wp_region_quiet_tail (fun w' => Ext wr w') 8 (by kernel_rfl) (by kernel_rfl) (Ext.refl wr).drew ?_
      simp only [List.take_succ_cons, List.take_zero, List.drop_succ_cons, List.drop_zero]
      refine wpQuiet_one rfl (quiet_val (v := .slice (some ⟨b1, o1, none⟩) N c1) (fun w' E => by go_simp) ?_)
      simp only [Act.put, List.getElem_toArray, List.getElem_cons_succ, List.getElem_cons_zero, List.setIfInBounds_toArray, List.set_cons_succ, List.set_cons_zero]
      refine wpQuiet_one rfl (quiet_val (v := .int .i64 k) (fun w' E => by go_simp) ?_)
      simp only [Act.put, List.getElem_toArray, List.getElem_cons_succ, List.getElem_cons_zero, List.setIfInBounds_toArray, List.set_cons_succ, List.set_cons_zero]
      refine wpQuiet_one rfl (quiet_val (v := .pointer (some ⟨b1, o1 + k * 16, none⟩)) (fun w' E => by go_simp) ?_)
      simp only [Act.put, List.getElem_toArray, List.getElem_cons_succ, List.getElem_cons_zero, List.setIfInBounds_toArray, List.set_cons_succ, List.set_cons_zero]
      refine wpQuiet_one rfl (quiet_load agg_dg (.tmp 19) rfl b1 (o1 + k * 16) rfl (u8s x.1) (dg_len x) (fun w' E j u hu => (E.cell (p := ⟨b1, o1 + k * 16 + j, none⟩) hb1).trans (HX.out j u hu)) ?_)
      simp only [Act.put, List.getElem_toArray, List.getElem_cons_succ, List.getElem_cons_zero, List.setIfInBounds_toArray, List.set_cons_succ, List.set_cons_zero]
      refine wpQuiet_one rfl (quiet_val (v := .slice (some ⟨b2, o2, none⟩) N c2) (fun w' E => by go_simp) ?_)
      simp only [Act.put, List.getElem_toArray, List.getElem_cons_succ, List.getElem_cons_zero, List.setIfInBounds_toArray, List.set_cons_succ, List.set_cons_zero]
      refine wpQuiet_one rfl (quiet_val (v := .int .i64 k) (fun w' E => by go_simp) ?_)
      simp only [Act.put, List.getElem_toArray, List.getElem_cons_succ, List.getElem_cons_zero, List.setIfInBounds_toArray, List.set_cons_succ, List.set_cons_zero]
      refine wpQuiet_one rfl (quiet_val (v := .pointer (some ⟨b2, o2 + k * 16, none⟩)) (fun w' E => by go_simp) ?_)
      simp only [Act.put, List.getElem_toArray, List.getElem_cons_succ, List.getElem_cons_zero, List.setIfInBounds_toArray, List.set_cons_succ, List.set_cons_zero]
      refine wpQuiet_one rfl (quiet_load agg_dg (.tmp 23) rfl b2 (o2 + k * 16) rfl (u8s y.1) (dg_len y) (fun w' E j u hu => (E.cell (p := ⟨b2, o2 + k * 16 + j, none⟩) hb2).trans (HY.out j u hu)) ?_)
      simp only [Act.put, List.getElem_toArray, List.getElem_cons_succ, List.getElem_cons_zero, List.setIfInBounds_toArray, List.set_cons_succ, List.set_cons_zero]
      refine wpQuiet_nil ?_
      intro w2 E2
      by_cases hxy : x = y
      · have hv : (!decide (x = y)) = false := by rw [decide_eq_true hxy]; rfl
        have hex : ∀ {o : Oper} {a : Act}, o.op = .binOp .neq 45 (.tmp 20) (.tmp 24) 45 → a.eval (.tmp 20) = dgV x → a.eval (.tmp 24) = dgV y → (execOp a.eval o).run Tryd.prog w2 = .ok (.value (.bool false)) w2 := fun h1 h2 h3 => by have := exec_neqD h1 h2 h3 w2; rwa [hv] at this
        go_wp2_with ((with_reducible show wpList _ _ _ (⟨some 25, _, _, _, _, _⟩ :: _) _ _); go_must (refine wpList_value rfl (hex rfl rfl rfl) ?_))
        go_roundg (N - (k + 1))
        case measure => omega
        case rel => exact ⟨k + 1, by go_num, by omega, by omega, Lib.hid (HTE.out hxy), Lib.hid (HE.out.trans E2)⟩
      · have hv : (!decide (x = y)) = true := by rw [decide_eq_false hxy]; rfl
        have hex : ∀ {o : Oper} {a : Act}, o.op = .binOp .neq 45 (.tmp 20) (.tmp 24) 45 → a.eval (.tmp 20) = dgV x → a.eval (.tmp 24) = dgV y → (execOp a.eval o).run Tryd.prog w2 = .ok (.value (.bool true)) w2 := fun h1 h2 h3 => by have := exec_neqD h1 h2 h3 w2; rwa [hv] at this
        go_wp2_with ((with_reducible show wpList _ _ _ (⟨some 25, _, _, _, _, _⟩ :: _) _ _); go_must (refine wpList_value rfl (hex rfl rfl rfl) ?_))
        go_ret
        exact ⟨by rw [HTN.out hxy]; rfl, HE.out.trans E2⟩
    have hkn' : k = N := by omega
    subst hkn'
    have hd5 : decide ((k : Int) < (k : Int)) = false := by simp
    have HRT : Hid (r = true) := Lib.hid (by
      rw [← HRR.out, decide_eq_true_iff]
      have h := HT.out
      rwa [List.take_of_length_le (by rw [HL1.out]; exact Nat.le_refl _), List.take_of_length_le (by rw [HL2.out]; exact Nat.le_refl _)] at h)
    go_wp2_with fail
    go_ret
    exact ⟨by rw [HRT.out]; rfl, HE.out⟩
  · have hd0 : ((N : Int) == (M : Int)) = false := by rw [beq_eq_false_iff_ne]; omega
    have hf : decide (L1 = L2) = false := by
      rw [decide_eq_false_iff_not]
      rintro rfl
      exact hNM (hl1.symm.trans hl2)
    rw [hf]
    clear hf hl1 hl2
    go_enter Tryd.func40, Tryd.ntmps40
    go_wp2_with fail
    go_ret
    exact ⟨rfl, Ext.refl w⟩

/-! ### for whatever number -/
def prZ (L : List Dg) (i : Int) : List Dg := if i < 0 ∨ (L.length : Int) ≤ i then [] else Mk.proveF shF L i.toNat
def prC (L : List Dg) (i : Int) : Int := if i < 0 ∨ (L.length : Int) ≤ i then 12 else 0
def ppZ (L : List Dg) (i : Int) : List Dg := if i < 1 ∨ (L.length : Int) < i then [] else Mk.subF shF L i.toNat true
def ppC (L : List Dg) (i : Int) : Int := if i < 1 ∨ (L.length : Int) < i then 12 else 0
/-- a list of digests and a code are returned -/
def RetDC (w : World) (l : List Dg) (c : Int) (e : Ending) (w' : World) : Prop := ∃ v, e = .returned (.tuple #[v, .int .i64 c]) ∧ OwnD w' w.heap.size v l ∧ Ext w w'
theorem prove_all (A : Option Addr) (N c : Nat) (i : Int) (L : List Dg) (w : World) (hr : Rd w A (dgs L)) (hL : L.length = N) (hc : N ≤ c) (hN : N ≤ 1000000) (hG : Glo w) :
    Calls Tryd.prog 34 #[.slice A N c, .int .i64 i] w (RetDC w (prZ L i) (prC L i)) := by
  by_cases h : i < 0 ∨ (L.length : Int) ≤ i
  · unfold prZ prC
    rw [if_pos h, if_pos h]
    refine (prove_bad A N c i w (by rw [← hL]; exact h)).mono ?_
    rintro e w' ⟨rfl, E⟩
    exact ⟨_, rfl, OwnD.nil _ _, E⟩
  · unfold prZ prC
    rw [if_neg h, if_neg h]
    obtain ⟨j, rfl⟩ : ∃ j : Nat, i = (j : Int) := ⟨i.toNat, by omega⟩
    exact prove_calls A N c j L w hr hL hc hN (by omega) hG
theorem refprove_all (A : Option Addr) (N c : Nat) (i : Int) (L : List Dg) (w : World) (hr : Rd w A (dgs L)) (hL : L.length = N) (hc : N ≤ c) (hN : N ≤ 1000000) (hG : GloR w) :
    Calls Tryd.prog 35 #[.slice A N c, .int .i64 i] w (RetDC w (prZ L i) (prC L i)) := by
  by_cases h : i < 0 ∨ (L.length : Int) ≤ i
  · unfold prZ prC
    rw [if_pos h, if_pos h]
    refine (refprove_bad A N c i w (by rw [← hL]; exact h)).mono ?_
    rintro e w' ⟨rfl, E⟩
    exact ⟨_, rfl, OwnD.nil _ _, E⟩
  · unfold prZ prC
    rw [if_neg h, if_neg h]
    obtain ⟨j, rfl⟩ : ∃ j : Nat, i = (j : Int) := ⟨i.toNat, by omega⟩
    exact refprove_calls N j A c L w hr hL hc hN (by omega) hG
theorem pp_all (A : Option Addr) (N c : Nat) (i : Int) (L : List Dg) (w : World) (hr : Rd w A (dgs L)) (hL : L.length = N) (hc : N ≤ c) (hN : N ≤ 1000000) (hG : Glo w) :
    Calls Tryd.prog 36 #[.slice A N c, .int .i64 i] w (RetDC w (ppZ L i) (ppC L i)) := by
  by_cases h : i < 1 ∨ (L.length : Int) < i
  · unfold ppZ ppC
    rw [if_pos h, if_pos h]
    refine (pp_bad A N c i w (by rw [← hL]; exact h)).mono ?_
    rintro e w' ⟨rfl, E⟩
    exact ⟨_, rfl, OwnD.nil _ _, E⟩
  · unfold ppZ ppC
    rw [if_neg h, if_neg h]
    obtain ⟨j, rfl⟩ : ∃ j : Nat, i = (j : Int) := ⟨i.toNat, by omega⟩
    exact pp_calls N j A c L w hr hL hc hN (by omega) (by omega) hG
theorem refpp_all (A : Option Addr) (N c : Nat) (i : Int) (L : List Dg) (w : World) (hr : Rd w A (dgs L)) (hL : L.length = N) (hc : N ≤ c) (hN : N ≤ 1000000) (hG : GloR w) :
    Calls Tryd.prog 37 #[.slice A N c, .int .i64 i] w (RetDC w (ppZ L i) (ppC L i)) := by
  by_cases h : i < 1 ∨ (L.length : Int) < i
  · unfold ppZ ppC
    rw [if_pos h, if_pos h]
    refine (refpp_bad A N c i w (by rw [← hL]; exact h)).mono ?_
    rintro e w' ⟨rfl, E⟩
    exact ⟨_, rfl, OwnD.nil _ _, E⟩
  · unfold ppZ ppC
    rw [if_neg h, if_neg h]
    obtain ⟨j, rfl⟩ : ∃ j : Nat, i = (j : Int) := ⟨i.toNat, by omega⟩
    exact refpp_calls N j A c L w hr hL hc hN (by omega) (by omega) hG
end Go.Proofs.YtcjeclddpkinkaaDoor
