/- The law DigestTreesMatchSpec. -/
import Derived.Test.YtcjeclddpkinkaaDoorD29
set_option linter.unusedSimpArgs false
set_option linter.unusedVariables false
namespace Go.Proofs.YtcjeclddpkinkaaDoor
open Go.RowKit
open Wz (Dg)

theorem prZ_len (L : List Dg) (i : Int) : (prZ L i).length ≤ L.length := by
  unfold prZ
  split
  · simp
  · exact Mk.prove_len shF L _
theorem ppZ_len (L : List Dg) (i : Int) : (ppZ L i).length ≤ L.length + 1 := by
  unfold ppZ
  split
  · simp
  · exact Mk.sub_len shF L _ _

set_option maxRecDepth 100000 in
set_option maxHeartbeats 1000000 in
theorem trees_law (A : Option Addr) (N c : Nat) (L : List Dg) (i : Int) (w : World) (hr : Rd w A (dgs L)) (hl : L.length = N) (hc : N ≤ c) (hG : GloR w) :
    Calls Tryd.prog 9 #[.slice A N c, .int .i64 i] w (fun e w' => e = .returned (.bool true) ∧ Ext w w') := by
  have HSY := Lib.hid (sanity02_calls w hG.glo)
  by_cases hN : N > 64
  · have hd : decide ((N : Int) > 64) = true := decide_eq_true (by omega)
    have hd2 : decide (64 < N) = true := decide_eq_true (by omega)
    clear hr hl hG
    go_enter Tryd.func9, Tryd.ntmps9
    go_wp2_with ((with_reducible refine HSY.out.mono ?_); rintro e w2 ⟨rfl, E2⟩)
    go_ret
    exact ⟨rfl, E2⟩
  · have hd : decide ((N : Int) > 64) = false := by rw [decide_eq_false_iff_not]; omega
    have hd2 : decide (64 < N) = false := by rw [decide_eq_false_iff_not]; omega
    have HP := Lib.hid fun w' (E : Ext w w') => prove_all A N c i L w' (hr.ext E) hl hc (by omega) (hG.glo.ext E)
    have HQ := Lib.hid fun w' (E : Ext w w') => refprove_all A N c i L w' (hr.ext E) hl hc (by omega) (hG.ext E)
    have HP2 := Lib.hid fun w' (E : Ext w w') => pp_all A N c i L w' (hr.ext E) hl hc (by omega) (hG.glo.ext E)
    have HQ2 := Lib.hid fun w' (E : Ext w w') => refpp_all A N c i L w' (hr.ext E) hl hc (by omega) (hG.ext E)
    have HR1 := Lib.hid fun w' (E : Ext w w') => root_calls N A c L w' (hr.ext E) hl hc (by omega) (hG.glo.ext E)
    have HR2 := Lib.hid fun w' (E : Ext w w') => refroot_calls N A c L w' (hr.ext E) hl hc (by omega) (hG.ext E)
    have hq1 := prZ_len L i
    have hq2 := ppZ_len L i
    obtain ⟨R, hR⟩ : ∃ R, Mk.rootF shF L = R := ⟨_, rfl⟩
    obtain ⟨l1, hl1⟩ : ∃ x, prZ L i = x := ⟨_, rfl⟩
    obtain ⟨c1, hc1⟩ : ∃ x, prC L i = x := ⟨_, rfl⟩
    obtain ⟨l2, hl2⟩ : ∃ x, ppZ L i = x := ⟨_, rfl⟩
    obtain ⟨c2, hc2⟩ : ∃ x, ppC L i = x := ⟨_, rfl⟩
    simp only [hR] at HR1 HR2
    simp only [hl1, hc1] at HP HQ hq1
    simp only [hl2, hc2] at HP2 HQ2 hq2
    rw [hl] at hq1 hq2
    have HS1 := Lib.hid fun A1 A2 k1 k2 w' h1 h2 => refsame_calls A1 A2 l1.length l1.length k1 k2 l1 l1 w' h1 h2 rfl rfl (by omega) (by omega)
    have HS2 := Lib.hid fun A1 A2 k1 k2 w' h1 h2 => refsame_calls A1 A2 l2.length l2.length k1 k2 l2 l2 w' h1 h2 rfl rfl (by omega) (by omega)
    simp only [decide_true] at HS1 HS2
    have hcc1 : (c1 == c1) = true := by rw [beq_iff_eq]
    have hcc2 : (c2 == c2) = true := by rw [beq_iff_eq]
    clear hr hl hG hR hl1 hc1 hl2 hc2
    go_enter Tryd.func9, Tryd.ntmps9
    go_wp2_with (first
      | ((with_reducible refine HSY.out.mono ?_); rintro e w1 ⟨rfl, E1⟩)
      | ((with_reducible refine (HP.out w1 E1).mono ?_); rintro e w2 ⟨v2, rfl, ho2, F2⟩; obtain ⟨A2, k2, rfl, _, _, hr2⟩ := ho2.slice; have E2 := Ext.trans E1 F2)
      | ((with_reducible refine (HQ.out w2 E2).mono ?_); rintro e w3 ⟨v3, rfl, ho3, F3⟩; obtain ⟨A3, k3, rfl, _, _, hr3⟩ := ho3.slice; have E3 := Ext.trans E2 F3)
      | ((with_reducible refine (HP2.out w3 E3).mono ?_); rintro e w4 ⟨v4, rfl, ho4, F4⟩; obtain ⟨A4, k4, rfl, _, _, hr4⟩ := ho4.slice; have E4 := Ext.trans E3 F4)
      | ((with_reducible refine (HQ2.out w4 E4).mono ?_); rintro e w5 ⟨v5, rfl, ho5, F5⟩; obtain ⟨A5, k5, rfl, _, _, hr5⟩ := ho5.slice; have E5 := Ext.trans E4 F5)
      | ((with_reducible refine (HR1.out w5 E5).mono ?_); rintro e w6 ⟨rfl, F6⟩; have E6 := Ext.trans E5 F6)
      | ((with_reducible refine (HR2.out w6 E6).mono ?_); rintro e w7 ⟨rfl, F7⟩; have E7 := Ext.trans E6 F7; have h2 := ((((hr2.ext F3).ext F4).ext F5).ext F6).ext F7; have h3 := (((hr3.ext F4).ext F5).ext F6).ext F7)
      | ((with_reducible show wpList _ _ _ (⟨some 49, _, _, _, _, _⟩ :: _) _ _); go_must (refine wpList_valueG (by kernel_rfl) (exec_eqlD_same rfl rfl rfl _) ?_))
      | ((with_reducible refine (HS1.out A2 A3 k2 k3 w7 h2 h3).mono ?_); rintro e w8 ⟨rfl, F8⟩; have E8 := Ext.trans E7 F8; have h4 := (((hr4.ext F5).ext F6).ext F7).ext F8; have h5 := ((hr5.ext F6).ext F7).ext F8)
      | ((with_reducible refine (HS2.out A4 A5 k4 k5 w8 h4 h5).mono ?_); rintro e w9 ⟨rfl, F9⟩; have E9 := Ext.trans E8 F9)
      | fail)
    go_ret
    exact ⟨rfl, E9⟩
end Go.Proofs.YtcjeclddpkinkaaDoor
