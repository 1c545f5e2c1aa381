/- The contract of ProvePrefix. -/
import Derived.Test.YtcjeclddpkinkaaDoorD20
set_option linter.unusedSimpArgs false
set_option linter.unusedVariables false
namespace Go.Proofs.YtcjeclddpkinkaaDoor
open Go.RowKit
open Wz (Dg)

set_option maxRecDepth 100000 in
set_option maxHeartbeats 400000 in
theorem pp_bad (A : Option Addr) (N c : Nat) (i : Int) (w : World) (hi : i < 1 ∨ (N : Int) < i) :
    Calls Tryd.prog 36 #[.slice A N c, .int .i64 i] w (fun e w' => e = .returned (.tuple #[.slice none 0 0, .int .i64 12]) ∧ Ext w w') := by
  by_cases h0 : i < 1
  · have hd : decide (i < 1) = true := decide_eq_true h0
    clear hi h0
    go_enter Tryd.func36, Tryd.ntmps36
    go_wp2
    go_ret2
    exact ⟨rfl, Ext.refl w⟩
  · have hd : decide (i < 1) = false := decide_eq_false h0
    have hd2 : decide (i > (N : Int)) = true := decide_eq_true (by omega)
    clear hi h0
    go_enter Tryd.func36, Tryd.ntmps36
    go_wp2
    go_ret2
    exact ⟨rfl, Ext.refl w⟩

/-- what a round of ProvePrefix keeps -/
structure PpI (w0 : World) (L : List Dg) (m0 N : Nat) (A : Option Addr) (n c : Nat) (L' : List Dg) (m : Nat) (b : Bool) (v : Value) (out : List Dg) (w : World) : Prop where
  rd : Rd w0 A (dgs L')
  len : L'.length = n
  own : OwnD w w0.heap.size v out
  ext : Ext w0 w
  eq : Mk.subF shF L' m b ++ out.reverse = Mk.subF shF L m0 true

set_option maxRecDepth 100000 in
set_option maxHeartbeats 1000000 in
theorem pp_calls (N m : Nat) (A : Option Addr) (c : Nat) (L : List Dg) (w : World) (hr : Rd w A (dgs L)) (hL : L.length = N) (hc : N ≤ c) (hN : N ≤ 1000000) (hm : 1 ≤ m) (hmN : m ≤ N) (hG : Glo w) :
    Calls Tryd.prog 36 #[.slice A N c, .int .i64 (m : Int)] w (fun e w' => ∃ v, e = .returned (.tuple #[v, .int .i64 0]) ∧ OwnD w' w.heap.size v (Mk.subF shF L m true) ∧ Ext w w') := by
  have hd : decide ((m : Int) < 1) = false := by rw [decide_eq_false_iff_not]; omega
  have hd2 : decide ((m : Int) > (N : Int)) = false := by rw [decide_eq_false_iff_not]; omega
  have hd2n : decide (N < m) = false := by rw [decide_eq_false_iff_not]; omega
  have HI0 : Hid (PpI w L m N A N c L m true (.slice none 0 0) [] w) := Lib.hid ⟨hr, hL, OwnD.nil _ _, Ext.refl w, by simp⟩
  have HG := Lib.hid hG
  clear hr hL hG
  go_enter Tryd.func36, Tryd.ntmps36
  go_wp2_with fail
  go_loopg [0, 1, 6, 7] N (fun gk s0 s1 s6 s7 wr => ∃ A' n' c' L' m' b v out, s0 = .slice A' n' c' ∧ s1 = .int .i64 ((m' : Nat) : Int) ∧ s6 = v ∧ s7 = .bool b ∧ Hid (PpI w L m N A' n' c' L' m' b v out wr) ∧ n' ≤ gk ∧ n' ≤ c' ∧ 1 ≤ m' ∧ m' ≤ n' ∧ out.length + n' ≤ N)
  case atStart => exact ⟨A, N, c, L, m, true, _, [], rfl, rfl, rfl, rfl, HI0, Nat.le_refl _, hc, hm, hmN, by simp⟩
  case round =>
    obtain ⟨A', n, c', L', m', b, v, out, rfl, rfl, rfl, rfl, HI, hng, hnc, hm1, hmn, hon⟩ := hrel
    obtain ⟨A3, c3, rfl, _, _, _⟩ := HI.out.own.slice
    by_cases hlt : m' < n
    · have hd3 : decide ((m' : Int) < (n : Int)) = true := decide_eq_true (by omega)
      have h2 : 2 ≤ n := by omega
      have hkl := Mk.sp_lt h2
      have hkp := Mk.sp_pos n
      have hHL := HI.out.len
      have HPL := Lib.hid fun h => Mk.sub_left shF (l := L') (m := m') (by omega) hm1 h b
      have HPR := Lib.hid fun h => Mk.sub_right shF (l := L') (m := m') (by omega) h b
      rw [hHL] at HPL HPR
      have HSP := Lib.hid fun w => split_calls n h2 (by omega) w
      obtain ⟨k, hk⟩ : ∃ k, Mk.sp n = k := ⟨_, rfl⟩
      rw [hk] at hkl hkp HPL HPR
      simp only [hk] at HSP
      obtain ⟨A1, hs1, hr1, hA1⟩ := run_sliceD HI.out.rd hHL hnc none (some (.int .i64 (k : Int))) 0 k (.inl ⟨rfl, rfl⟩) (.inr ⟨_, rfl⟩) (by omega) (by omega)
      obtain ⟨A2, hs2, hr2, hA2⟩ := run_sliceD HI.out.rd hHL hnc (some (.int .i64 (k : Int))) none k n (.inr ⟨_, rfl⟩) (.inl ⟨rfl, rfl⟩) (by omega) (by omega)
      rw [List.drop_zero, Nat.sub_zero] at hr1
      simp only [Nat.sub_zero] at hs1
      have e2 : (L'.drop k).take (n - k) = L'.drop k := List.take_of_length_le (by rw [List.length_drop]; omega)
      rw [e2] at hr2
      have hl1 : (L'.take k).length = k := by rw [List.length_take]; omega
      have hl2 : (L'.drop k).length = n - k := by rw [List.length_drop]; omega
      have HX1 := Lib.hid hr1
      have HX2 := Lib.hid hr2
      have HL1 := Lib.hid hl1
      have HL2 := Lib.hid hl2
      have HR1 := Lib.hid fun w' (E : Ext w w') => root_calls k A1 c' (L'.take k) w' (hr1.ext E) hl1 (by omega) (by omega) (HG.out.ext E)
      have HR2 := Lib.hid fun w' (E : Ext w w') => root_calls (n - k) A2 (c' - k) (L'.drop k) w' (hr2.ext E) hl2 (by omega) (by omega) (HG.out.ext E)
      have HEQ := Lib.hid HI.out.eq
      have HO := Lib.hid HI.out.own
      have HE := Lib.hid HI.out.ext
      clear hr1 hr2 hl1 hl2 e2 hA1 hA2 hk hHL HI
      by_cases hik : m' ≤ k
      · have hdk : decide ((m' : Int) ≤ (k : Int)) = true := decide_eq_true (by omega)
        have HEL := HPL.out hik
        obtain ⟨x, hx⟩ : ∃ x, Mk.rootF shF (L'.drop k) = x := ⟨_, rfl⟩
        rw [hx] at HR2 HEL
        have HEL' := Lib.hid HEL
        clear hx HEL HPL HPR
        go_wp2_with (first
          | ((with_reducible refine (HSP.out _).mono ?_); rintro e w2 ⟨rfl, rfl⟩)
          | ((with_reducible show wpList _ _ _ (⟨some 30, _, _, _, _, _⟩ :: _) _ _); go_must (refine wpList_value rfl (exec_slice rfl rfl rfl rfl hs2 _) ?_))
          | ((with_reducible refine (HR2.out _ HE.out).mono ?_); rintro e w3 ⟨rfl, E3⟩; have HO3 := Lib.hid ((HO.out.below E3).alloc (.cells (u8s x.1).toArray 45)); have HN3 := Lib.hid (Blk.new w3 (u8s x.1) 45).rd; have E4 := (HE.out.trans E3).alloc (.cells (u8s x.1).toArray 45); have hb4 := E4.size)
          | ((with_reducible show wpList _ _ _ (⟨some 32, _, _, _, _, _⟩ :: _) _ _); go_must (refine wpList_value rfl (exec_build rfl rfl (run_buildD x w3)) ?_))
          | ((with_reducible show wpList _ _ _ (⟨some 33, _, _, _, _, _⟩ :: _) _ _); go_must (refine wpList_appD _ rfl (.tmp 27) (.tmp 32) rfl w.heap.size _ out rfl HO3.out _ 1 1 [x] rfl rfl (by rw [dgs_one]; exact HN3.out) (by omega) hb4 ?_); intro v5 w5 ho5 hg5 hbl5; have E5 := hbl5 _ _ (Nat.le_refl _) E4; obtain ⟨A5, c5, rfl, _, _, _⟩ := ho5.slice; rw [List.length_append, List.length_singleton] at ho5)
          | ((with_reducible show wpList _ _ _ (⟨some 36, _, _, _, _, _⟩ :: _) _ _); go_must (refine wpList_value rfl (exec_slice rfl rfl rfl rfl hs1 _) ?_))
          | fail)
        go_roundg k
        case measure => omega
        case rel => exact ⟨A1, k, c', L'.take k, m', b, _, out ++ [x], rfl, rfl, rfl, rfl, Lib.hid ⟨HX1.out, HL1.out, ho5, E5, by rw [← HEQ.out, HEL'.out, List.reverse_append, List.append_assoc]; rfl⟩, by omega, by omega, hm1, hik, by rw [List.length_append, List.length_singleton]; omega⟩
      · have hdk : decide ((m' : Int) ≤ (k : Int)) = false := by rw [decide_eq_false_iff_not]; omega
        have hsub : (m' : Int) - (k : Int) = ((m' - k : Nat) : Int) := by omega
        have HEL := HPR.out (by omega)
        obtain ⟨x, hx⟩ : ∃ x, Mk.rootF shF (L'.take k) = x := ⟨_, rfl⟩
        rw [hx] at HR1 HEL
        have HEL' := Lib.hid HEL
        clear hx HEL HPL HPR
        go_wp2_with (first
          | ((with_reducible refine (HSP.out _).mono ?_); rintro e w2 ⟨rfl, rfl⟩)
          | ((with_reducible show wpList _ _ _ (⟨some 40, _, _, _, _, _⟩ :: _) _ _); go_must (refine wpList_value rfl (exec_slice rfl rfl rfl rfl hs1 _) ?_))
          | ((with_reducible refine (HR1.out _ HE.out).mono ?_); rintro e w3 ⟨rfl, E3⟩; have HO3 := Lib.hid ((HO.out.below E3).alloc (.cells (u8s x.1).toArray 45)); have HN3 := Lib.hid (Blk.new w3 (u8s x.1) 45).rd; have E4 := (HE.out.trans E3).alloc (.cells (u8s x.1).toArray 45); have hb4 := E4.size)
          | ((with_reducible show wpList _ _ _ (⟨some 42, _, _, _, _, _⟩ :: _) _ _); go_must (refine wpList_value rfl (exec_build rfl rfl (run_buildD x w3)) ?_))
          | ((with_reducible show wpList _ _ _ (⟨some 43, _, _, _, _, _⟩ :: _) _ _); go_must (refine wpList_appD _ rfl (.tmp 37) (.tmp 42) rfl w.heap.size _ out rfl HO3.out _ 1 1 [x] rfl rfl (by rw [dgs_one]; exact HN3.out) (by omega) hb4 ?_); intro v5 w5 ho5 hg5 hbl5; have E5 := hbl5 _ _ (Nat.le_refl _) E4; obtain ⟨A5, c5, rfl, _, _, _⟩ := ho5.slice; rw [List.length_append, List.length_singleton] at ho5)
          | ((with_reducible show wpList _ _ _ (⟨some 46, _, _, _, _, _⟩ :: _) _ _); go_must (refine wpList_value rfl (exec_slice rfl rfl rfl rfl hs2 _) ?_))
          | fail)
        go_roundg (n - k)
        case measure => omega
        case rel => exact ⟨A2, n - k, c' - k, L'.drop k, m' - k, false, _, out ++ [x], rfl, by go_num, rfl, rfl, Lib.hid ⟨HX2.out, HL2.out, ho5, E5, by rw [← HEQ.out, HEL'.out, List.reverse_append, List.append_assoc]; rfl⟩, by omega, by omega, by omega, by omega, by rw [List.length_append, List.length_singleton]; omega⟩
    · have hmn' : m' = n := by omega
      subst hmn'
      have hd3 : decide ((m' : Int) < (m' : Int)) = false := by simp
      have hse := Mk.sub_end shF (l := L') (m := m') (by have := HI.out.len; omega) b
      have heq := HI.out.eq
      rw [hse] at heq
      have HO := Lib.hid HI.out.own
      have HE := Lib.hid HI.out.ext
      cases b with
      | true =>
        rw [if_pos rfl, List.nil_append] at heq
        have HEQ := Lib.hid heq
        have HRV := Lib.hid (reverse_own w.heap.size _ out wr HO.out (by omega))
        clear hse heq HI
        go_wp2_with ((with_reducible refine HRV.out.mono ?_); rintro e w3 ⟨⟨v1, rfl⟩, ho3, hg3⟩)
        go_ret2
        refine ⟨_, rfl, by rw [← HEQ.out]; exact ho3, HE.out.grown hg3 HE.out.size (fun k hk => (HO.out.base_le k hk).1)⟩
      | false =>
        rw [if_neg (by simp)] at heq
        have HR := Lib.hid (root_calls m' A' c' L' wr (HI.out.rd.ext HE.out) HI.out.len hnc (by omega) (HG.out.ext HE.out))
        obtain ⟨x, hx⟩ : ∃ x, Mk.rootF shF L' = x := ⟨_, rfl⟩
        rw [hx] at HR heq
        have HEQ := Lib.hid heq
        clear hse heq HI hx
        go_wp2_with (first
          | ((with_reducible refine HR.out.mono ?_); rintro e w3 ⟨rfl, E3⟩; have HO3 := Lib.hid ((HO.out.below E3).alloc (.cells (u8s x.1).toArray 45)); have HN3 := Lib.hid (Blk.new w3 (u8s x.1) 45).rd; have E4 := (HE.out.trans E3).alloc (.cells (u8s x.1).toArray 45); have hb4 := E4.size)
          | ((with_reducible show wpList _ _ _ (⟨some 55, _, _, _, _, _⟩ :: _) _ _); go_must (refine wpList_value rfl (exec_build rfl rfl (run_buildD x w3)) ?_))
          | ((with_reducible show wpList _ _ _ (⟨some 56, _, _, _, _, _⟩ :: _) _ _); go_must (refine wpList_appD _ rfl (.tmp 52) (.tmp 55) rfl w.heap.size _ out rfl HO3.out _ 1 1 [x] rfl rfl (by rw [dgs_one]; exact HN3.out) (by omega) hb4 ?_); intro v5 w5 ho5 hg5 hbl5; have E5 := hbl5 _ _ (Nat.le_refl _) E4; obtain ⟨A5, c5, rfl, _, _, _⟩ := ho5.slice; rw [List.length_append, List.length_singleton] at ho5; have HRV := Lib.hid (reverse_own w.heap.size _ (out ++ [x]) w5 ho5 (by rw [List.length_append, List.length_singleton]; omega)))
          | ((with_reducible refine HRV.out.mono ?_); rintro e w6 ⟨⟨v1, rfl⟩, ho6, hg6⟩)
          | fail)
        go_ret2
        refine ⟨_, rfl, ?_, E5.grown hg6 E5.size (fun k hk => (ho5.base_le k hk).1)⟩
        have e : (out ++ [x]).reverse = Mk.subF shF L m true := by rw [← HEQ.out, List.reverse_append]; rfl
        rw [← e]
        exact ho6
end Go.Proofs.YtcjeclddpkinkaaDoor
