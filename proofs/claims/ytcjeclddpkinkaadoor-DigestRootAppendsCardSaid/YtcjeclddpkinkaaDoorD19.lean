/- The contract of the reference's Prove. -/
import Derived.Test.YtcjeclddpkinkaaDoorD18
set_option linter.unusedSimpArgs false
set_option linter.unusedVariables false
namespace Go.Proofs.YtcjeclddpkinkaaDoor
open Go.RowKit
open Wz (Dg)

set_option maxRecDepth 100000 in
set_option maxHeartbeats 400000 in
theorem refprove_bad (A : Option Addr) (N c : Nat) (i : Int) (w : World) (hi : i < 0 ∨ (N : Int) ≤ i) :
    Calls Tryd.prog 35 #[.slice A N c, .int .i64 i] w (fun e w' => e = .returned (.tuple #[.slice none 0 0, .int .i64 12]) ∧ Ext w w') := by
  by_cases h0 : i < 0
  · have hd : decide (i < 0) = true := decide_eq_true h0
    clear hi h0
    go_enter Tryd.func35, Tryd.ntmps35
    go_wp2
    go_ret2
    exact ⟨rfl, Ext.refl w⟩
  · have hd : decide (i < 0) = false := decide_eq_false h0
    have hd2 : decide (i ≥ (N : Int)) = true := decide_eq_true (by omega)
    clear hi h0
    go_enter Tryd.func35, Tryd.ntmps35
    go_wp2
    go_ret2
    exact ⟨rfl, Ext.refl w⟩

set_option maxRecDepth 100000 in
set_option maxHeartbeats 1000000 in
theorem refprove_calls : ∀ (N i : Nat) (A : Option Addr) (c : Nat) (L : List Dg) (w : World), Rd w A (dgs L) → L.length = N → N ≤ c → N ≤ 1000000 → i < N → GloR w →
    Calls Tryd.prog 35 #[.slice A N c, .int .i64 (i : Int)] w (fun e w' => ∃ v, e = .returned (.tuple #[v, .int .i64 0]) ∧ OwnD w' w.heap.size v (Mk.proveF shF L i) ∧ Ext w w') := by
  intro N
  induction N using Nat.strongRecOn with
  | ind N ih =>
    intro i A c L w hr hL hNc hN hi hG
    have hd : decide ((i : Int) < 0) = false := by rw [decide_eq_false_iff_not]; omega
    have hd2 : decide ((i : Int) ≥ (N : Int)) = false := by rw [decide_eq_false_iff_not]; omega
    by_cases h1 : N = 1
    · subst h1
      have hp := Mk.prove_one shF (l := L) (by omega) i
      rw [hp]
      have hNe1 : ((1 : Int) == 1) = true := rfl
      clear ih hr hL hG hp
      go_enter Tryd.func35, Tryd.ntmps35
      go_wp2_with fail
      go_ret2
      exact ⟨_, rfl, OwnD.nil _ _, Ext.refl w⟩
    · have h2 : 2 ≤ N := by omega
      have hkl := Mk.sp_lt h2
      have hkp := Mk.sp_pos N
      have HPL := Lib.hid fun h => Mk.prove_left shF (l := L) (by omega) (i := i) h
      have HPR := Lib.hid fun h => Mk.prove_right shF (l := L) (by omega) (i := i) h
      rw [hL] at HPL HPR
      have HSP := Lib.hid fun w => refsplit_calls N h2 (by omega) w
      obtain ⟨k, hk⟩ : ∃ k, Mk.sp N = k := ⟨_, rfl⟩
      rw [hk] at hkl hkp HPL HPR
      simp only [hk] at HSP
      obtain ⟨A1, hs1, hr1, hA1⟩ := run_sliceD hr hL hNc none (some (.int .i64 (k : Int))) 0 k (.inl ⟨rfl, rfl⟩) (.inr ⟨_, rfl⟩) (by omega) (by omega)
      obtain ⟨A2, hs2, hr2, hA2⟩ := run_sliceD hr hL hNc (some (.int .i64 (k : Int))) none k N (.inr ⟨_, rfl⟩) (.inl ⟨rfl, rfl⟩) (by omega) (by omega)
      rw [List.drop_zero, Nat.sub_zero] at hr1
      simp only [Nat.sub_zero] at hs1
      have e2 : (L.drop k).take (N - k) = L.drop k := List.take_of_length_le (by rw [List.length_drop]; omega)
      rw [e2] at hr2
      have hl1 : (L.take k).length = k := by rw [List.length_take]; omega
      have hl2 : (L.drop k).length = N - k := by rw [List.length_drop]; omega
      have HP1 := Lib.hid fun j (hj : j < k) => ih k hkl j A1 c (L.take k) w hr1 hl1 (by omega) (by omega) hj hG
      have HP2 := Lib.hid fun j (hj : j < N - k) => ih (N - k) (by omega) j A2 (c - k) (L.drop k) w hr2 hl2 (by omega) (by omega) hj hG
      have HR1 := Lib.hid fun w' (E : Ext w w') => refroot_calls k A1 c (L.take k) w' (hr1.ext E) hl1 (by omega) (by omega) (hG.ext E)
      have HR2 := Lib.hid fun w' (E : Ext w w') => refroot_calls (N - k) A2 (c - k) (L.drop k) w' (hr2.ext E) hl2 (by omega) (by omega) (hG.ext E)
      obtain ⟨x, hx⟩ : ∃ x, Mk.rootF shF (L.take k) = x := ⟨_, rfl⟩
      obtain ⟨y, hy⟩ : ∃ x, Mk.rootF shF (L.drop k) = x := ⟨_, rfl⟩
      rw [hx] at HR1 HPR
      rw [hy] at HR2 HPL
      have hq1 : ∀ j, (Mk.proveF shF (L.take k) j).length ≤ k := fun j => by have := Mk.prove_len shF (L.take k) j; omega
      have hq2 : ∀ j, (Mk.proveF shF (L.drop k) j).length ≤ N - k := fun j => by have := Mk.prove_len shF (L.drop k) j; omega
      have HQ1 := Lib.hid hq1
      have HQ2 := Lib.hid hq2
      have hNe1 : ((N : Int) == 1) = false := by rw [beq_eq_false_iff_ne]; omega
      clear hG ih hL hr h1 hk hx hy hr1 hr2 hA1 hA2 hl1 hl2 e2 hq1 hq2
      by_cases hik : i < k
      · have hdk : decide ((i : Int) < (k : Int)) = true := by first | exact decide_eq_true (by omega) | (rw [decide_eq_false_iff_not]; omega)
        have HCP := Lib.hid (HP1.out i hik)
        have hlen := HQ1.out i
        have HEq := Lib.hid (HPL.out hik)
        obtain ⟨l, hl⟩ : ∃ l, Mk.proveF shF (L.take k) i = l := ⟨_, rfl⟩
        rw [hl] at HCP HEq hlen
        rw [HEq.out]
        clear hl HP1 HP2 HQ1 HQ2 HPL HPR HEq
        go_enter Tryd.func35, Tryd.ntmps35
        go_upto_region 7 with ((with_reducible refine (HSP.out _).mono ?_); rintro e w2 ⟨rfl, rfl⟩)
        go_wp2_with (first
          | ((with_reducible show wpList _ _ _ (⟨some 31, _, _, _, _, _⟩ :: _) _ _); go_must (refine wpList_value rfl (exec_slice rfl rfl rfl rfl hs1 _) ?_))
          | ((with_reducible refine HCP.out.mono ?_); rintro e w2 ⟨v, rfl, ho2, E2⟩; obtain ⟨A3, c3, rfl, _, _, _⟩ := ho2.slice)
          | ((with_reducible show wpList _ _ _ (⟨some 39, _, _, _, _, _⟩ :: _) _ _); go_must (refine wpList_value rfl (exec_slice rfl rfl rfl rfl hs2 _) ?_))
          | ((with_reducible refine (HR2.out _ E2).mono ?_); rintro e w3 ⟨rfl, E3⟩; have HO3 := Lib.hid ((ho2.below E3).alloc (.cells (u8s y.1).toArray 45)); have HN3 := Lib.hid (Blk.new w3 (u8s y.1) 45).rd; have E4 := (E2.trans E3).alloc (.cells (u8s y.1).toArray 45); have hb4 := E4.size)
          | ((with_reducible show wpList _ _ _ (⟨some 41, _, _, _, _, _⟩ :: _) _ _); go_must (refine wpList_value rfl (exec_build rfl rfl (run_buildD y w3)) ?_))
          | ((with_reducible show wpList _ _ _ (⟨some 42, _, _, _, _, _⟩ :: _) _ _); go_must (refine wpList_appD _ rfl (.tmp 36) (.tmp 41) rfl w.heap.size _ l rfl HO3.out _ 1 1 [y] rfl rfl (by rw [dgs_one]; exact HN3.out) (by omega) hb4 ?_); intro v5 w5 ho5 hg5 hbl5; obtain ⟨A5, c5, rfl, _, _, _⟩ := ho5.slice)
          | fail)
        go_ret2
        rw [List.length_append, List.length_singleton] at ho5
        exact ⟨_, rfl, ho5, hbl5 _ _ (Nat.le_refl _) E4⟩
      · have hdk : decide ((i : Int) < (k : Int)) = false := by first | exact decide_eq_true (by omega) | (rw [decide_eq_false_iff_not]; omega)
        have HCP := Lib.hid (HP2.out (i - k) (by omega))
        have hlen := HQ2.out (i - k)
        have HEq := Lib.hid (HPR.out (by omega))
        obtain ⟨l, hl⟩ : ∃ l, Mk.proveF shF (L.drop k) (i - k) = l := ⟨_, rfl⟩
        rw [hl] at HCP HEq hlen
        rw [HEq.out]
        have hsub : (i : Int) - (k : Int) = ((i - k : Nat) : Int) := by omega
        clear hl HP1 HP2 HQ1 HQ2 HPL HPR HEq
        go_enter Tryd.func35, Tryd.ntmps35
        go_upto_region 9 with ((with_reducible refine (HSP.out _).mono ?_); rintro e w2 ⟨rfl, rfl⟩)
        go_wp2_with (first
          | ((with_reducible show wpList _ _ _ (⟨some 46, _, _, _, _, _⟩ :: _) _ _); go_must (refine wpList_value rfl (exec_slice rfl rfl rfl rfl hs2 _) ?_))
          | ((with_reducible refine HCP.out.mono ?_); rintro e w2 ⟨v, rfl, ho2, E2⟩; obtain ⟨A3, c3, rfl, _, _, _⟩ := ho2.slice)
          | ((with_reducible show wpList _ _ _ (⟨some 56, _, _, _, _, _⟩ :: _) _ _); go_must (refine wpList_value rfl (exec_slice rfl rfl rfl rfl hs1 _) ?_))
          | ((with_reducible refine (HR1.out _ E2).mono ?_); rintro e w3 ⟨rfl, E3⟩; have HO3 := Lib.hid ((ho2.below E3).alloc (.cells (u8s x.1).toArray 45)); have HN3 := Lib.hid (Blk.new w3 (u8s x.1) 45).rd; have E4 := (E2.trans E3).alloc (.cells (u8s x.1).toArray 45); have hb4 := E4.size)
          | ((with_reducible show wpList _ _ _ (⟨some 58, _, _, _, _, _⟩ :: _) _ _); go_must (refine wpList_value rfl (exec_build rfl rfl (run_buildD x w3)) ?_))
          | ((with_reducible show wpList _ _ _ (⟨some 59, _, _, _, _, _⟩ :: _) _ _); go_must (refine wpList_appD _ rfl (.tmp 53) (.tmp 58) rfl w.heap.size _ l rfl HO3.out _ 1 1 [x] rfl rfl (by rw [dgs_one]; exact HN3.out) (by omega) hb4 ?_); intro v5 w5 ho5 hg5 hbl5; obtain ⟨A5, c5, rfl, _, _, _⟩ := ho5.slice)
          | fail)
        go_ret2
        rw [List.length_append, List.length_singleton] at ho5
        exact ⟨_, rfl, ho5, hbl5 _ _ (Nat.le_refl _) E4⟩
end Go.Proofs.YtcjeclddpkinkaaDoor
