/- The law DigestProofsAccepted. -/
import Derived.Test.YtcjeclddpkinkaaDoorD31
set_option linter.unusedSimpArgs false
set_option linter.unusedVariables false
namespace Go.Proofs.YtcjeclddpkinkaaDoor
open Go.RowKit
open Wz (Dg)

attribute [local irreducible] wpQuiet
set_option maxRecDepth 100000 in
set_option maxHeartbeats 2000000 in
theorem accepted_law (A : Option Addr) (N c : Nat) (L : List Dg) (w : World) (hr : Rd w A (dgs L)) (hl : L.length = N) (hc : N ≤ c) (hG : Glo w) :
    Calls Tryd.prog 13 #[.slice A N c] w (fun e w' => e = .returned (.bool true) ∧ Ext w w') := by
  have HSY := Lib.hid (sanity02_calls w hG)
  by_cases hN : N > 64
  · have hd : decide ((N : Int) > 64) = true := decide_eq_true (by omega)
    have hd2 : decide (64 < N) = true := decide_eq_true (by omega)
    clear hr hl hG
    go_enter Tryd.func13, Tryd.ntmps13
    go_wp2_with ((with_reducible refine HSY.out.mono ?_); rintro e w2 ⟨rfl, E2⟩)
    go_ret
    exact ⟨rfl, E2⟩
  · have hd : decide ((N : Int) > 64) = false := by rw [decide_eq_false_iff_not]; omega
    have hd2 : decide (64 < N) = false := by rw [decide_eq_false_iff_not]; omega
    have HR := Lib.hid hr
    have HL := Lib.hid hl
    have HG := Lib.hid hG
    have HR1 := Lib.hid fun w' (E : Ext w w') => root_calls N A c L w' (hr.ext E) hl hc (by omega) (hG.ext E)
    obtain ⟨R, hR⟩ : ∃ R, Mk.rootF shF L = R := ⟨_, rfl⟩
    simp only [hR] at HR1
    have HRR := Lib.hid hR
    clear hr hl hG hR
    go_enter Tryd.func13, Tryd.ntmps13
    go_upto_region 5 with (first
      | ((with_reducible refine HSY.out.mono ?_); rintro e w1 ⟨rfl, E1⟩)
      | ((with_reducible refine (HR1.out w1 E1).mono ?_); rintro e w2 ⟨rfl, E2⟩)
      | ((with_reducible show wpList _ _ _ (⟨Option.none, .store _ (.tmp 4) _, _, _, _, _⟩ :: _) _ _); go_must (refine wpList_storeNew agg_dg w2 _ 45 rfl (.tmp 4) (.tmp 16) rfl rfl (u8s R.1) rfl (dg_len R) rfl (u8s_one _) ?_)))
    have HB : Hid (Blk (w2.alloc (.cells (u8s R.1).toArray 45)) w2.heap.size 45 (u8s R.1) ∧ Ext w (w2.alloc (.cells (u8s R.1).toArray 45))) := Lib.hid ⟨Blk.new _ _ _, (Ext.trans E1 E2).alloc _⟩
    generalize w2.alloc (.cells (u8s R.1).toArray 45) = w3 at HB ⊢
    obtain ⟨B, hB⟩ : ∃ B, w2.heap.size = B := ⟨_, rfl⟩
    rw [hB] at HB ⊢
    clear hB HR1 HSY
    go_wp2_with fail
    go_loopg [5] N (fun gk s5 wr => ∃ k : Nat, s5 = .int .i64 (k : Int) ∧ k ≤ N ∧ N - k ≤ gk ∧ Hid (Blk wr B 45 (u8s R.1) ∧ Ext w wr))
    case atStart => exact ⟨0, rfl, by omega, by omega, Lib.hid HB.out⟩
    case round =>
    obtain ⟨k, rfl, hk, hgk, HE⟩ := hrel
    by_cases hkn : k < N
    · have hkL : k < L.length := by rw [HL.out]; exact hkn
      have hdk : decide ((k : Int) < (N : Int)) = true := decide_eq_true (by omega)
      have HP := Lib.hid (prove_calls A N c k L wr (HR.out.ext HE.out.2) HL.out hc (by omega) hkn (HG.out.ext HE.out.2))
      have HQ := Lib.hid fun w' (E : Ext w w') => show Calls Tryd.prog 36 #[.slice A N c, .int .i64 ((k : Int) + 1)] w' _ from (by have := pp_calls N (k + 1) A c L w' (HR.out.ext E) HL.out hc (by omega) (by omega) (by omega) (HG.out.ext E); rwa [show ((k + 1 : Nat) : Int) = (k : Int) + 1 from by omega] at this)
      have hv1 := Mk.prove_verified shF L k hkL
      have hv2 := Mk.sub_verified shF L (k + 1) (by omega) (by omega)
      have hq1 := Mk.prove_len shF L k
      have hq2 := Mk.sub_len shF L (k + 1) true
      rw [show L.getD k Mk.dg0 = L[k]'hkL from by simp [List.getD, List.getElem?_eq_getElem hkL]] at hv1
      obtain ⟨b, o, hA, hcp⟩ := (HR.out.ext HE.out.2) (by rw [dgs_length, HL.out]; omega)
      subst hA
      have hcpk := dg_cells hcp (i := k) hkL
      obtain ⟨p, hp⟩ : ∃ p : Dg, L[k]'hkL = p := ⟨_, rfl⟩
      rw [hp] at hcpk hv1
      have HCP := Lib.hid hcpk
      have hbw : b < wr.heap.size := lt_of_cell (hcpk 0 _ (List.getElem?_eq_getElem (by rw [dg_len]; decide)))
      obtain ⟨A5, hs5, hr5, _⟩ := run_sliceD (HR.out.ext HE.out.2) HL.out hc none (some (.int .i64 ((k + 1 : Nat) : Int))) 0 (k + 1) (.inl ⟨rfl, rfl⟩) (.inr ⟨_, rfl⟩) (by omega) (by omega)
      rw [List.drop_zero, Nat.sub_zero] at hr5
      simp only [Nat.sub_zero] at hs5
      have hl5 : (L.take (k + 1)).length = k + 1 := by rw [List.length_take]; omega
      have HRT := Lib.hid fun w' (E : Ext wr w') => root_calls (k + 1) A5 c (L.take (k + 1)) w' (hr5.ext E) hl5 (by omega) (by omega) (HG.out.ext (HE.out.2.trans E))
      rw [HRR.out, HL.out] at hv1 hv2
      rw [HL.out] at hq1 hq2
      obtain ⟨R5, hR5⟩ : ∃ R, Mk.rootF shF (L.take (k + 1)) = R := ⟨_, rfl⟩
      rw [hR5] at HRT hv2
      obtain ⟨l1, hl1⟩ : ∃ x, Mk.proveF shF L k = x := ⟨_, rfl⟩
      rw [hl1] at HP hv1 hq1
      obtain ⟨l2, hl2⟩ : ∃ x, Mk.subF shF L (k + 1) true = x := ⟨_, rfl⟩
      rw [hl2] at hv2 hq2
      simp only [hl2] at HQ
      have hvz : verZ R (N : Int) (k : Int) p l1 = true := by
        unfold verZ
        rw [inZ_nat hkn]
        exact hv1
      have HV1 := Lib.hid fun A2 k2 w' (h2 : Rd w' A2 (dgs l1)) (hk2 : l1.length ≤ k2) (E : Ext w w') => verify_calls R (N : Int) (k : Int) (by omega) p A2 l1.length k2 l1 w' h2 rfl hk2 (by omega) (HG.out.ext E)
      simp only [hvz] at HV1
      have HV2 := Lib.hid fun A3 k3 w' (h3 : Rd w' A3 (dgs l2)) (hk3 : l2.length ≤ k3) (E : Ext w w') => vp_good R5 R (k + 1) N A3 l2.length k3 l2 w' h3 rfl hk3 (by omega) (by omega) (by omega) (by omega) (HG.out.ext E)
      simp only [hv2] at HV2
      clear hv1 hv2 hl1 hl2 hR5 hvz hp hcpk hcp hr5 hl5
      go_upto_region 10 with (first
        | ((with_reducible refine HP.out.mono ?_); rintro e w4 ⟨v2, rfl, ho2, F2⟩; obtain ⟨A2, k2, rfl, hk2, _, hr2⟩ := ho2.slice; have E4 := HE.out.2.trans F2)
        | ((with_reducible refine (HQ.out w4 E4).mono ?_); rintro e w5 ⟨v3, rfl, ho3, F3⟩; obtain ⟨A3, k3, rfl, hk3, _, hr3⟩ := ho3.slice; have E5 := Ext.trans E4 F3))
      have F : Ext wr w5 := (show Ext wr w4 from F2).trans F3
      have HBK : Hid (Blk wr B 45 (u8s R.1)) := Lib.hid HE.out.1
      have E3 : Ext w w5 := E5
      have HVR := Lib.hid fun w' (E : Ext w5 w') => HV1.out A2 k2 w' ((hr2.ext F3).ext E) hk2 (E5.trans E)
      have HVP := Lib.hid fun w' (E : Ext w5 w') => HV2.out A3 k3 w' (hr3.ext E) hk3 (E5.trans E)
      have HRT2 := Lib.hid fun w' (E : Ext w5 w') => HRT.out w' (F.trans E)
      clear HP HQ HV1 HV2 HRT
      refine wp_region_quiet_tail (fun w' => Ext w5 w') 33 (by kernel_rfl) (by kernel_rfl) (Ext.refl w5).drew ?_
      simp only [List.take_succ_cons, List.take_zero, List.drop_succ_cons, List.drop_zero]
      refine wpQuiet_one rfl (quiet_val (v := .int .i64 0) (fun w' E => by go_simp) ?_)
      simp only [Act.put, List.getElem_toArray, List.getElem_cons_succ, List.getElem_cons_zero, List.setIfInBounds_toArray, List.set_cons_succ, List.set_cons_zero]
      refine wpQuiet_one rfl (quiet_val (v := .bool false) (fun w' E => by go_simp) ?_)
      simp only [Act.put, List.getElem_toArray, List.getElem_cons_succ, List.getElem_cons_zero, List.setIfInBounds_toArray, List.set_cons_succ, List.set_cons_zero]
      refine wpQuiet_one rfl (quiet_val (v := .bool false) (fun w' E => by go_simp) ?_)
      simp only [Act.put, List.getElem_toArray, List.getElem_cons_succ, List.getElem_cons_zero, List.setIfInBounds_toArray, List.set_cons_succ, List.set_cons_zero]
      refine wpQuiet_if (by kernel_rfl) (quiet_val (v := .int .i64 0) (fun w' E => by go_simp) ?_)
      simp only [Act.put, List.getElem_toArray, List.getElem_cons_succ, List.getElem_cons_zero, List.setIfInBounds_toArray, List.set_cons_succ, List.set_cons_zero]
      refine wpQuiet_if (by kernel_rfl) (quiet_val (v := .bool false) (fun w' E => by go_simp) ?_)
      simp only [Act.put, List.getElem_toArray, List.getElem_cons_succ, List.getElem_cons_zero, List.setIfInBounds_toArray, List.set_cons_succ, List.set_cons_zero]
      refine wpQuiet_one rfl (quiet_val (v := .bool false) (fun w' E => by go_simp) ?_)
      simp only [Act.put, List.getElem_toArray, List.getElem_cons_succ, List.getElem_cons_zero, List.setIfInBounds_toArray, List.set_cons_succ, List.set_cons_zero]
      refine wpQuiet_one rfl (quiet_val (v := .bool false) (fun w' E => by go_simp) ?_)
      simp only [Act.put, List.getElem_toArray, List.getElem_cons_succ, List.getElem_cons_zero, List.setIfInBounds_toArray, List.set_cons_succ, List.set_cons_zero]
      refine wpQuiet_if (by kernel_rfl) (quiet_load agg_dg (.tmp 4) rfl B 0 rfl (u8s R.1) (dg_len R) (fun w' E => ((HBK.out.below F).below E).at0) ?_)
      simp only [Act.put, List.getElem_toArray, List.getElem_cons_succ, List.getElem_cons_zero, List.setIfInBounds_toArray, List.set_cons_succ, List.set_cons_zero]
      refine wpQuiet_if (by kernel_rfl) (quiet_val (v := .slice (some ⟨b, o, none⟩) N c) (fun w' E => by go_simp) ?_)
      simp only [Act.put, List.getElem_toArray, List.getElem_cons_succ, List.getElem_cons_zero, List.setIfInBounds_toArray, List.set_cons_succ, List.set_cons_zero]
      refine wpQuiet_if (by kernel_rfl) (quiet_val (v := .int .i64 N) (fun w' E => by go_simp) ?_)
      simp only [Act.put, List.getElem_toArray, List.getElem_cons_succ, List.getElem_cons_zero, List.setIfInBounds_toArray, List.set_cons_succ, List.set_cons_zero]
      refine wpQuiet_if (by kernel_rfl) (quiet_val (v := .int .i64 k) (fun w' E => by go_simp) ?_)
      simp only [Act.put, List.getElem_toArray, List.getElem_cons_succ, List.getElem_cons_zero, List.setIfInBounds_toArray, List.set_cons_succ, List.set_cons_zero]
      refine wpQuiet_if (by kernel_rfl) (quiet_val (v := .slice (some ⟨b, o, none⟩) N c) (fun w' E => by go_simp) ?_)
      simp only [Act.put, List.getElem_toArray, List.getElem_cons_succ, List.getElem_cons_zero, List.setIfInBounds_toArray, List.set_cons_succ, List.set_cons_zero]
      refine wpQuiet_if (by kernel_rfl) (quiet_val (v := .int .i64 k) (fun w' E => by go_simp) ?_)
      simp only [Act.put, List.getElem_toArray, List.getElem_cons_succ, List.getElem_cons_zero, List.setIfInBounds_toArray, List.set_cons_succ, List.set_cons_zero]
      refine wpQuiet_if (by kernel_rfl) (quiet_val (v := .pointer (some ⟨b, o + k * 16, none⟩)) (fun w' E => by go_simp) ?_)
      simp only [Act.put, List.getElem_toArray, List.getElem_cons_succ, List.getElem_cons_zero, List.setIfInBounds_toArray, List.set_cons_succ, List.set_cons_zero]
      refine wpQuiet_if (by kernel_rfl) (quiet_load agg_dg (.tmp 49) rfl b (o + k * 16) rfl (u8s p.1) (dg_len p) (fun w' E j u hu => (((Ext.trans F E)).cell (p := ⟨b, o + k * 16 + j, none⟩) hbw).trans (HCP.out j u hu)) ?_)
      simp only [Act.put, List.getElem_toArray, List.getElem_cons_succ, List.getElem_cons_zero, List.setIfInBounds_toArray, List.set_cons_succ, List.set_cons_zero]
      refine wpQuiet_if (by kernel_rfl) (quiet_val (v := .slice A2 l1.length k2) (fun w' E => by go_simp) ?_)
      simp only [Act.put, List.getElem_toArray, List.getElem_cons_succ, List.getElem_cons_zero, List.setIfInBounds_toArray, List.set_cons_succ, List.set_cons_zero]
      refine wpQuiet_if (by kernel_rfl) (quiet_call (f := 45) (args := #[dgV R, .int .i64 N, .int .i64 k, dgV p, .slice A2 l1.length k2]) (v := .bool true) (fun w' _ => by go_simp) (fun w' E => (HVR.out w' E).mono fun e w'' h => ⟨h.1, E.trans h.2⟩) ?_)
      simp only [Act.put, List.getElem_toArray, List.getElem_cons_succ, List.getElem_cons_zero, List.setIfInBounds_toArray, List.set_cons_succ, List.set_cons_zero]
      refine wpQuiet_if (by kernel_rfl) (quiet_val (v := .bool false) (fun w' E => by go_simp) ?_)
      simp only [Act.put, List.getElem_toArray, List.getElem_cons_succ, List.getElem_cons_zero, List.setIfInBounds_toArray, List.set_cons_succ, List.set_cons_zero]
      refine wpQuiet_one rfl (quiet_val (v := .bool false) (fun w' E => by go_simp) ?_)
      simp only [Act.put, List.getElem_toArray, List.getElem_cons_succ, List.getElem_cons_zero, List.setIfInBounds_toArray, List.set_cons_succ, List.set_cons_zero]
      refine wpQuiet_one rfl (quiet_val (v := .bool false) (fun w' E => by go_simp) ?_)
      simp only [Act.put, List.getElem_toArray, List.getElem_cons_succ, List.getElem_cons_zero, List.setIfInBounds_toArray, List.set_cons_succ, List.set_cons_zero]
      refine wpQuiet_if (by kernel_rfl) (quiet_val (v := .slice (some ⟨b, o, none⟩) N c) (fun w' E => by go_simp) ?_)
      simp only [Act.put, List.getElem_toArray, List.getElem_cons_succ, List.getElem_cons_zero, List.setIfInBounds_toArray, List.set_cons_succ, List.set_cons_zero]
      refine wpQuiet_if (by kernel_rfl) (quiet_val (v := .int .i64 k) (fun w' E => by go_simp) ?_)
      simp only [Act.put, List.getElem_toArray, List.getElem_cons_succ, List.getElem_cons_zero, List.setIfInBounds_toArray, List.set_cons_succ, List.set_cons_zero]
      refine wpQuiet_if (by kernel_rfl) (quiet_val (v := .int .i64 ((k + 1 : Nat) : Int)) (fun w' E => by have hw1 := IntWalk.i64_in ((k : Int) + 1) (by omega); go_simp) ?_)
      simp only [Act.put, List.getElem_toArray, List.getElem_cons_succ, List.getElem_cons_zero, List.setIfInBounds_toArray, List.set_cons_succ, List.set_cons_zero]
      refine wpQuiet_if (by kernel_rfl) (quiet_val (v := .slice A5 (k + 1) c) (fun w' E => exec_slice rfl rfl rfl rfl hs5 w') ?_)
      simp only [Act.put, List.getElem_toArray, List.getElem_cons_succ, List.getElem_cons_zero, List.setIfInBounds_toArray, List.set_cons_succ, List.set_cons_zero]
      refine wpQuiet_if (by kernel_rfl) (quiet_call (f := 38) (args := #[.slice A5 (k + 1) c]) (v := dgV R5) (fun w' _ => by go_simp) (fun w' E => (HRT2.out w' E).mono fun e w'' h => ⟨h.1, E.trans h.2⟩) ?_)
      simp only [Act.put, List.getElem_toArray, List.getElem_cons_succ, List.getElem_cons_zero, List.setIfInBounds_toArray, List.set_cons_succ, List.set_cons_zero]
      refine wpQuiet_if (by kernel_rfl) (quiet_load agg_dg (.tmp 4) rfl B 0 rfl (u8s R.1) (dg_len R) (fun w' E => ((HBK.out.below F).below E).at0) ?_)
      simp only [Act.put, List.getElem_toArray, List.getElem_cons_succ, List.getElem_cons_zero, List.setIfInBounds_toArray, List.set_cons_succ, List.set_cons_zero]
      refine wpQuiet_if (by kernel_rfl) (quiet_val (v := .int .i64 k) (fun w' E => by go_simp) ?_)
      simp only [Act.put, List.getElem_toArray, List.getElem_cons_succ, List.getElem_cons_zero, List.setIfInBounds_toArray, List.set_cons_succ, List.set_cons_zero]
      refine wpQuiet_if (by kernel_rfl) (quiet_val (v := .int .i64 ((k + 1 : Nat) : Int)) (fun w' E => by have hw1 := IntWalk.i64_in ((k : Int) + 1) (by omega); go_simp) ?_)
      simp only [Act.put, List.getElem_toArray, List.getElem_cons_succ, List.getElem_cons_zero, List.setIfInBounds_toArray, List.set_cons_succ, List.set_cons_zero]
      refine wpQuiet_if (by kernel_rfl) (quiet_val (v := .slice (some ⟨b, o, none⟩) N c) (fun w' E => by go_simp) ?_)
      simp only [Act.put, List.getElem_toArray, List.getElem_cons_succ, List.getElem_cons_zero, List.setIfInBounds_toArray, List.set_cons_succ, List.set_cons_zero]
      refine wpQuiet_if (by kernel_rfl) (quiet_val (v := .int .i64 N) (fun w' E => by go_simp) ?_)
      simp only [Act.put, List.getElem_toArray, List.getElem_cons_succ, List.getElem_cons_zero, List.setIfInBounds_toArray, List.set_cons_succ, List.set_cons_zero]
      refine wpQuiet_if (by kernel_rfl) (quiet_val (v := .slice A3 l2.length k3) (fun w' E => by go_simp) ?_)
      simp only [Act.put, List.getElem_toArray, List.getElem_cons_succ, List.getElem_cons_zero, List.setIfInBounds_toArray, List.set_cons_succ, List.set_cons_zero]
      refine wpQuiet_if (by kernel_rfl) (quiet_call (f := 47) (args := #[dgV R5, dgV R, .int .i64 ((k + 1 : Nat) : Int), .int .i64 N, .slice A3 l2.length k3]) (v := .bool true) (fun w' _ => by go_simp) (fun w' E => (HVP.out w' E).mono fun e w'' h => ⟨h.1, E.trans h.2⟩) ?_)
      simp only [Act.put, List.getElem_toArray, List.getElem_cons_succ, List.getElem_cons_zero, List.setIfInBounds_toArray, List.set_cons_succ, List.set_cons_zero]
      refine wpQuiet_if (by kernel_rfl) (quiet_val (v := .bool false) (fun w' E => by go_simp) ?_)
      simp only [Act.put, List.getElem_toArray, List.getElem_cons_succ, List.getElem_cons_zero, List.setIfInBounds_toArray, List.set_cons_succ, List.set_cons_zero]
      refine wpQuiet_nil ?_
      intro w6 E6
      go_wp2_with fail
      go_roundg (N - (k + 1))
      case measure => omega
      case rel => exact ⟨k + 1, by go_num, by omega, by omega, Lib.hid ⟨(HBK.out.below F).below E6, E5.trans E6⟩⟩
    have hkn' : k = N := by omega
    subst hkn'
    have hd5 : decide ((k : Int) < (k : Int)) = false := by simp
    go_wp2_with fail
    go_ret
    exact ⟨rfl, HE.out.2⟩
end Go.Proofs.YtcjeclddpkinkaaDoor
