/- IndexIncludes: the walk. -/
import Derived.Test.YtcjeclddpkinkaaJ2
import Derived.Test.YtcjeclddpkinkaaR1
set_option linter.unusedSimpArgs false
set_option linter.unusedVariables false
namespace Go.Proofs.Ytcjeclddpkinkaa
open Go.RowKit Go.ChangeMaps Ix

theorem OwnE.slice {w : World} {base : Nat} {v : Value} {L : List En} (h : OwnE w base v L) : ∃ A cap, v = .slice A L.length cap ∧ L.length ≤ cap ∧ cap ≤ maxLen ∧ Rd w A (enCells L) := own_slice h
theorem enCells_take (L : List En) (n : Nat) : (enCells L).take (n * 2) = enCells (L.take n) := by
  induction L generalizing n with
  | nil => simp [enCells]
  | cons x L ih =>
    cases n with
    | zero => simp [enCells]
    | succ n =>
      have e : enCells (x :: L) = .int .u32 x.1 :: .int .i64 x.2 :: enCells L := rfl
      have e2 : enCells ((x :: L).take (n + 1)) = .int .u32 x.1 :: .int .i64 x.2 :: enCells (L.take n) := rfl
      rw [e, e2, show (n + 1) * 2 = n * 2 + 1 + 1 from by omega, List.take_succ_cons, List.take_succ_cons, ih]
theorem pre_take {α : Type} {L M : List α} (h : L <+: M) : M.take L.length = L := by
  obtain ⟨t, rfl⟩ := h
  exact List.take_left
theorem cell_lt {w : World} {b o : Nat} {v : Value} (h : w.cell? ⟨b, o, none⟩ = some v) : b < w.heap.size := by
  by_cases hb : b < w.heap.size
  · exact hb
  · simp [World.cell?, Array.getElem?_eq_none (Nat.le_of_not_lt hb)] at h
theorem Try.und_es : Try.prog.underlying 27 = some (.slice 39) := by kernel_rfl

set_option maxRecDepth 100000 in
set_option maxHeartbeats 2000000 in
theorem includes_le (a b : Int) (A : Option Addr) (N c : Nat) (l : List Op3) (w : World) (hab : a ≤ b) (hA : Rd w A (opCells l)) (hN : l.length = N) (hNb : N ≤ 100000000000000) (hok : ∀ o ∈ l, OkO o) :
    Calls Try.prog 3 #[.int .i64 a, .int .i64 b, .slice A N c] w (RetT w) := by
  have q1 : decide (b < a) = false := by rw [decide_eq_false_iff_not]; omega
  have q2 : min a b = a := by omega
  have q3 : max a b = b := by omega
  have q4 : (if b < a then b else a) = a := if_neg (by omega)
  have q5 : (if a < b then b else a) = b := by split <;> omega
  by_cases hg : N ≤ 80 ∧ 1 ≤ a ∧ b ≤ 4096
  · obtain ⟨h80, hm1, hM1⟩ := hg
    obtain ⟨m, hm⟩ : ∃ m : Nat, a = (m : Int) := ⟨(a).toNat, by omega⟩
    obtain ⟨M, hM⟩ : ∃ M : Nat, b = (M : Int) := ⟨(b).toNat, by omega⟩
    have p1 := fun w (h : Rd w A (opCells l)) => play_calls m A N c l w (by omega) (by omega) h hN h80 hok
    have p2 := fun w (h : Rd w A (opCells l)) => play_calls M A N c l w (by omega) (by omega) h hN h80 hok
    have hpre := play_pre (c1 := m) (c2 := M) (by omega) (by omega) l
    have hlen1 := playL_len m l
    have hlen2 := playL_len M l
    obtain ⟨L1, hL1⟩ : ∃ L, playL m l = L := ⟨_, rfl⟩
    obtain ⟨L2, hL2⟩ : ∃ L, playL M l = L := ⟨_, rfl⟩
    rw [hL1, hL2] at hpre
    rw [hL1, hN] at hlen1
    rw [hL2, hN] at hlen2
    simp only [hL1] at p1
    simp only [hL2] at p2
    have P1 := Lib.hid p1; have P2 := Lib.hid p2; have HPRE := Lib.hid hpre.1; have HN := Lib.hid hN
    have hle := hpre.1.length_le
    subst hm; subst hM
    have n1 : (if m < M then (M : Int) else (m : Int)) = (M : Int) := by split <;> omega
    have n2 : (if M < m then (M : Int) else (m : Int)) = (m : Int) := by split <;> omega
    have n3 : (if m < M then (m : Int) else (M : Int)) = (m : Int) := by split <;> omega
    have n4 : (if M < m then (m : Int) else (M : Int)) = (M : Int) := by split <;> omega
    clear p1 p2 hpre hL1 hL2 hok hN
    go_enter Try.func3, Try.ntmps3
    go_wp2_with fail
    refine (sanity23_calls _).mono ?_
    rintro e w1 ⟨rfl, E1⟩
    go_wp2_with fail
    refine (P1.out _ (hA.ext E1)).mono ?_
    rintro e w2 ⟨p1, r1, rfl, hp1, hr1, hx2, F2⟩
    have E2 := E1.trans F2
    go_wp2_with fail
    refine (P2.out _ (hA.ext E2)).mono ?_
    rintro e w3 ⟨p2, r2, rfl, hp2, hr2, hy3, F3⟩
    have E3 := E2.trans F3
    have hx3 := hx2.ext F3
    clear hx2 P1 P2 E1 E2 F2 F3
    go_wp2_with fail
    refine (all_calls p1 r1 m L1 (by omega) _ hx3).mono ?_
    rintro e w4 ⟨v4, rfl, hown4, F4⟩
    have E4 := E3.trans F4
    have hx4 := hx3.ext F4; have hy4 := hy3.ext F4
    obtain ⟨A4, c4, rfl, hc4, hm4, hr4⟩ := OwnE.slice hown4
    clear hown4 hx3 hy3 E3 F4
    go_wp2_with fail
    refine (all_calls p2 r2 M L2 (by omega) _ hy4).mono ?_
    rintro e w5 ⟨v5, rfl, hown5, F5⟩
    have E5 := E4.trans F5
    have hx5 := hx4.ext F5; have hy5 := hy4.ext F5; have hr45 := hr4.ext F5
    obtain ⟨A5, c5, rfl, hc5, hm5, hr5⟩ := OwnE.slice hown5
    clear hown5 hx4 hy4 E4 F5 hr4
    obtain ⟨i0, hi, hz0, hz1, hz2⟩ := info_parts info_en
    obtain ⟨i1, hi', hz0', hz1', hz2'⟩ := info_parts info_int
    have g1 : decide ((L1.length : Int) > (L2.length : Int)) = false := by rw [decide_eq_false_iff_not]; omega
    obtain ⟨n1, hn1⟩ : ∃ n, L1.length = n := ⟨_, rfl⟩
    obtain ⟨n2, hn2⟩ : ∃ n, L2.length = n := ⟨_, rfl⟩
    rw [hn1] at hlen1 hle hc4 g1
    rw [hn2] at hlen2 hle hc5 g1
    simp only [hn1, hn2]
    have g2 : decide ((n2 : Int) < (n1 : Int)) = false := g1
    have g3 : decide (n2 < n1) = false := by rw [decide_eq_false_iff_not]; omega
    have HN1 := Lib.hid hn1; have HN2 := Lib.hid hn2
    clear hn1 hn2
    go_wp2_with (first
      | ((with_reducible show wpList _ _ _ (⟨some 59, _, _, _, _, _⟩ :: _) _ _); go_must (refine wpList_guarded rfl (wpList_slice _ rfl (.tmp 56) none (some (.tmp 58)) 27 rfl 39 i0 2 Try.und_es hi hz1 A5 n2 c5 (enCells L2) rfl hr5 hc5 0 n1 (.inl ⟨rfl, rfl⟩) (.inr ⟨_, .i64, rfl, rfl⟩) (Nat.zero_le _) hle ?_)); intro A6 hr6)
      | fail)
    have e6 : List.take ((n1 - 0) * 2) (List.drop (0 * 2) (enCells L2)) = enCells L1 := by
      rw [Nat.zero_mul, List.drop_zero, Nat.sub_zero, enCells_take, ← HN1.out, pre_take HPRE.out]
    rw [e6] at hr6
    refine (sameen_calls _ _ n1 n1 _ _ L1 L1 _ hr45 hr6 HN1.out HN1.out (by omega) (by omega) true (by simp)).mono ?_
    rintro e w6 ⟨rfl, hd⟩
    have F6 := (Ext.refl w5).drawn hd
    have E6 := E5.trans F6
    have hx6 := hx5.ext F6; have hy6 := hy5.ext F6
    clear hd hr45 hr5 hr6 e6 hx5 hy5 E5 F6 hc4 hc5 hm4 hm5
    go_wp2_with fail
    go_loopg [14] N (fun g i wr => ∃ k : Nat, i = .int .i64 (k : Int) ∧ k ≤ N ∧ N - k ≤ g ∧ Ext w6 wr)
    case atStart => exact ⟨0, rfl, by omega, by omega, Ext.refl _⟩
    case round =>
      obtain ⟨k, rfl, hk, hg, hE⟩ := hrel
      have hxr := hx6.ext hE; have hyr := hy6.ext hE
      by_cases hkN : k < N
      · have hkl : k < l.length := by rw [HN.out]; exact hkN
        obtain ⟨b, o, rfl, hc⟩ := hA.ext (E6.trans hE) (by rw [opCells_length]; omega)
        obtain ⟨k0, k1, k2⟩ := op_cell hkl hc
        obtain ⟨op, hop⟩ : ∃ op, l[k] = op := ⟨_, rfl⟩
        rw [hop] at k0 k1 k2
        obtain ⟨dr, pr, ch⟩ := op
        simp only at k0 k1 k2
        have HF := Lib.hid (find_pre pr HPRE.out)
        have hf1 := findL_len pr L1
        have hf2 := findL_len pr L2
        have hfl := HF.out.length_le
        rw [HN1.out] at hf1
        rw [HN2.out] at hf2
        have hk1c : ∀ w', Ext wr w' → w'.cell? ⟨b, o + k * 3 + 1, none⟩ = some (.int .u32 pr) := fun w' hw => (cell_same (hw.block b (cell_lt k1))).trans k1
        clear hop hc k0 k2
        go_wp2_with fail
        refine (find_calls p1 r1 m pr L1 (by rw [HN1.out]; omega) _ hxr).mono ?_
        rintro e w7 ⟨v7, rfl, hown7, F7⟩
        have hyr7 := hyr.ext F7
        have k17 := hk1c _ F7
        obtain ⟨A7, c7, rfl, hc7, hm7, hr7⟩ := hown7.slice
        clear hown7 k1
        go_wp2_with fail
        refine (find_calls p2 r2 M pr L2 (by rw [HN2.out]; omega) _ hyr7).mono ?_
        rintro e w8 ⟨v8, rfl, hown8, F8⟩
        have F78 := Ext.trans F7 F8
        have hr78 := hr7.ext F8
        obtain ⟨A8, c8, rfl, hc8, hm8, hr8⟩ := hown8.slice
        clear hown8 k17 hr7
        obtain ⟨f1, hf1e⟩ : ∃ n, (findL pr L1).length = n := ⟨_, rfl⟩
        obtain ⟨f2, hf2e⟩ : ∃ n, (findL pr L2).length = n := ⟨_, rfl⟩
        rw [hf1e] at hf1 hfl hc7
        rw [hf2e] at hf2 hfl hc8
        simp only [hf1e, hf2e]
        have HF1 := Lib.hid hf1e; have HF2 := Lib.hid hf2e
        have g4 : decide (f2 < f1) = false := by rw [decide_eq_false_iff_not]; omega
        clear hf1e hf2e
        go_wp2_with (first
          | ((with_reducible show wpList _ _ _ (⟨some 93, _, _, _, _, _⟩ :: _) _ _); go_must (refine wpList_guarded rfl (wpList_slice _ rfl (.tmp 90) none (some (.tmp 92)) 30 rfl 3 i1 1 Try.und_is hi' hz1' A8 f2 c8 (i64s (findL pr L2)) rfl hr8 hc8 0 f1 (.inl ⟨rfl, rfl⟩) (.inr ⟨_, .i64, rfl, rfl⟩) (Nat.zero_le _) hfl ?_)); intro A9 hr9)
          | fail)
        have e9 : List.take ((f1 - 0) * 1) (List.drop (0 * 1) (i64s (findL pr L2))) = i64s (findL pr L1) := by
          rw [Nat.zero_mul, List.drop_zero, Nat.sub_zero, Nat.mul_one, i64s, ← List.map_take, ← HF1.out, pre_take HF.out]
          rfl
        rw [e9] at hr9
        refine (sameints_calls _ _ f1 f1 _ _ (findL pr L1) (findL pr L1) _ hr78 hr9 HF1.out HF1.out (by omega) (by omega) true (by simp)).mono ?_
        rintro e w9 ⟨rfl, hd⟩
        have F9 := hE.trans (Ext.drawn F78 hd)
        clear hd hr78 hr8 hr9 e9
        go_wp2_with fail
        go_roundg (N - (k + 1))
        case measure => omega
        case rel => exact ⟨k + 1, by go_num, by omega, by omega, F9⟩
      · go_wp2
        go_ret
        exact ⟨rfl, E6.trans hE⟩
  · by_cases B1 : (a < 1 ∨ a > 4096) ∨ N > 80
    · have c1 := fun w => play_bad (a) A N c w B1 (by omega)
      by_cases B2 : (b < 1 ∨ b > 4096) ∨ N > 80
      · have c2 := fun w => play_bad (b) A N c w B2 (by omega)
        have C1 := Lib.hid c1; have C2 := Lib.hid c2
        clear c1 c2 B1 B2 hg hok hN
        go_enter Try.func3, Try.ntmps3
        go_wp2_with fail
        refine (sanity23_calls _).mono ?_
        rintro e w1 ⟨rfl, E1⟩
        go_wp2_with fail
        refine (C1.out _).mono ?_
        rintro e w2 ⟨rfl, F2⟩
        go_wp2_with fail
        refine (C2.out _).mono ?_
        rintro e w3 ⟨rfl, F3⟩
        go_wp2
        go_ret
        exact ⟨rfl, (E1.trans F2).trans F3⟩
      · obtain ⟨M, hM⟩ : ∃ M : Nat, b = (M : Int) := ⟨(b).toNat, by omega⟩
        have p2 := fun w (h : Rd w A (opCells l)) => play_calls M A N c l w (by omega) (by omega) h hN (by omega) hok
        rw [← hM] at p2
        have C1 := Lib.hid c1; have C2 := Lib.hid p2
        clear c1 p2 B1 B2 hg hok hN hM
        go_enter Try.func3, Try.ntmps3
        go_wp2_with fail
        refine (sanity23_calls _).mono ?_
        rintro e w1 ⟨rfl, E1⟩
        go_wp2_with fail
        refine (C1.out _).mono ?_
        rintro e w2 ⟨rfl, F2⟩
        go_wp2_with fail
        refine (C2.out _ (hA.ext (E1.trans F2))).mono ?_
        rintro e w3 ⟨p2, r2, rfl, _, _, _, F3⟩
        go_wp2
        go_ret
        exact ⟨rfl, (E1.trans F2).trans F3⟩
    · have B2 : (b < 1 ∨ b > 4096) ∨ N > 80 := by omega
      have c2 := fun w => play_bad (b) A N c w B2 (by omega)
      obtain ⟨m, hm⟩ : ∃ m : Nat, a = (m : Int) := ⟨(a).toNat, by omega⟩
      have p1 := fun w (h : Rd w A (opCells l)) => play_calls m A N c l w (by omega) (by omega) h hN (by omega) hok
      rw [← hm] at p1
      have C1 := Lib.hid p1; have C2 := Lib.hid c2
      clear c2 p1 B1 B2 hg hok hN hm
      go_enter Try.func3, Try.ntmps3
      go_wp2_with fail
      refine (sanity23_calls _).mono ?_
      rintro e w1 ⟨rfl, E1⟩
      go_wp2_with fail
      refine (C1.out _ (hA.ext E1)).mono ?_
      rintro e w2 ⟨p1, r1, rfl, _, _, _, F2⟩
      go_wp2_with fail
      refine (C2.out _).mono ?_
      rintro e w3 ⟨rfl, F3⟩
      go_wp2
      go_ret
      exact ⟨rfl, (E1.trans F2).trans F3⟩

set_option maxRecDepth 100000 in
set_option maxHeartbeats 2000000 in
theorem includes_gt (a b : Int) (A : Option Addr) (N c : Nat) (l : List Op3) (w : World) (hab : b < a) (hA : Rd w A (opCells l)) (hN : l.length = N) (hNb : N ≤ 100000000000000) (hok : ∀ o ∈ l, OkO o) :
    Calls Try.prog 3 #[.int .i64 a, .int .i64 b, .slice A N c] w (RetT w) := by
  have q1 : decide (b < a) = true := by rw [decide_eq_true_iff]; omega
  have q2 : min a b = b := by omega
  have q3 : max a b = a := by omega
  have q4 : (if b < a then b else a) = b := if_pos (by omega)
  have q5 : (if a < b then b else a) = a := if_neg (by omega)
  by_cases hg : N ≤ 80 ∧ 1 ≤ b ∧ a ≤ 4096
  · obtain ⟨h80, hm1, hM1⟩ := hg
    obtain ⟨m, hm⟩ : ∃ m : Nat, b = (m : Int) := ⟨(b).toNat, by omega⟩
    obtain ⟨M, hM⟩ : ∃ M : Nat, a = (M : Int) := ⟨(a).toNat, by omega⟩
    have p1 := fun w (h : Rd w A (opCells l)) => play_calls m A N c l w (by omega) (by omega) h hN h80 hok
    have p2 := fun w (h : Rd w A (opCells l)) => play_calls M A N c l w (by omega) (by omega) h hN h80 hok
    have hpre := play_pre (c1 := m) (c2 := M) (by omega) (by omega) l
    have hlen1 := playL_len m l
    have hlen2 := playL_len M l
    obtain ⟨L1, hL1⟩ : ∃ L, playL m l = L := ⟨_, rfl⟩
    obtain ⟨L2, hL2⟩ : ∃ L, playL M l = L := ⟨_, rfl⟩
    rw [hL1, hL2] at hpre
    rw [hL1, hN] at hlen1
    rw [hL2, hN] at hlen2
    simp only [hL1] at p1
    simp only [hL2] at p2
    have P1 := Lib.hid p1; have P2 := Lib.hid p2; have HPRE := Lib.hid hpre.1; have HN := Lib.hid hN
    have hle := hpre.1.length_le
    subst hm; subst hM
    have n1 : (if m < M then (M : Int) else (m : Int)) = (M : Int) := by split <;> omega
    have n2 : (if M < m then (M : Int) else (m : Int)) = (m : Int) := by split <;> omega
    have n3 : (if m < M then (m : Int) else (M : Int)) = (m : Int) := by split <;> omega
    have n4 : (if M < m then (m : Int) else (M : Int)) = (M : Int) := by split <;> omega
    clear p1 p2 hpre hL1 hL2 hok hN
    go_enter Try.func3, Try.ntmps3
    go_wp2_with fail
    refine (sanity23_calls _).mono ?_
    rintro e w1 ⟨rfl, E1⟩
    go_wp2_with fail
    refine (P1.out _ (hA.ext E1)).mono ?_
    rintro e w2 ⟨p1, r1, rfl, hp1, hr1, hx2, F2⟩
    have E2 := E1.trans F2
    go_wp2_with fail
    refine (P2.out _ (hA.ext E2)).mono ?_
    rintro e w3 ⟨p2, r2, rfl, hp2, hr2, hy3, F3⟩
    have E3 := E2.trans F3
    have hx3 := hx2.ext F3
    clear hx2 P1 P2 E1 E2 F2 F3
    go_wp2_with fail
    refine (all_calls p1 r1 m L1 (by omega) _ hx3).mono ?_
    rintro e w4 ⟨v4, rfl, hown4, F4⟩
    have E4 := E3.trans F4
    have hx4 := hx3.ext F4; have hy4 := hy3.ext F4
    obtain ⟨A4, c4, rfl, hc4, hm4, hr4⟩ := OwnE.slice hown4
    clear hown4 hx3 hy3 E3 F4
    go_wp2_with fail
    refine (all_calls p2 r2 M L2 (by omega) _ hy4).mono ?_
    rintro e w5 ⟨v5, rfl, hown5, F5⟩
    have E5 := E4.trans F5
    have hx5 := hx4.ext F5; have hy5 := hy4.ext F5; have hr45 := hr4.ext F5
    obtain ⟨A5, c5, rfl, hc5, hm5, hr5⟩ := OwnE.slice hown5
    clear hown5 hx4 hy4 E4 F5 hr4
    obtain ⟨i0, hi, hz0, hz1, hz2⟩ := info_parts info_en
    obtain ⟨i1, hi', hz0', hz1', hz2'⟩ := info_parts info_int
    have g1 : decide ((L1.length : Int) > (L2.length : Int)) = false := by rw [decide_eq_false_iff_not]; omega
    obtain ⟨n1, hn1⟩ : ∃ n, L1.length = n := ⟨_, rfl⟩
    obtain ⟨n2, hn2⟩ : ∃ n, L2.length = n := ⟨_, rfl⟩
    rw [hn1] at hlen1 hle hc4 g1
    rw [hn2] at hlen2 hle hc5 g1
    simp only [hn1, hn2]
    have g2 : decide ((n2 : Int) < (n1 : Int)) = false := g1
    have g3 : decide (n2 < n1) = false := by rw [decide_eq_false_iff_not]; omega
    have HN1 := Lib.hid hn1; have HN2 := Lib.hid hn2
    clear hn1 hn2
    go_wp2_with (first
      | ((with_reducible show wpList _ _ _ (⟨some 59, _, _, _, _, _⟩ :: _) _ _); go_must (refine wpList_guarded rfl (wpList_slice _ rfl (.tmp 56) none (some (.tmp 58)) 27 rfl 39 i0 2 Try.und_es hi hz1 A5 n2 c5 (enCells L2) rfl hr5 hc5 0 n1 (.inl ⟨rfl, rfl⟩) (.inr ⟨_, .i64, rfl, rfl⟩) (Nat.zero_le _) hle ?_)); intro A6 hr6)
      | fail)
    have e6 : List.take ((n1 - 0) * 2) (List.drop (0 * 2) (enCells L2)) = enCells L1 := by
      rw [Nat.zero_mul, List.drop_zero, Nat.sub_zero, enCells_take, ← HN1.out, pre_take HPRE.out]
    rw [e6] at hr6
    refine (sameen_calls _ _ n1 n1 _ _ L1 L1 _ hr45 hr6 HN1.out HN1.out (by omega) (by omega) true (by simp)).mono ?_
    rintro e w6 ⟨rfl, hd⟩
    have F6 := (Ext.refl w5).drawn hd
    have E6 := E5.trans F6
    have hx6 := hx5.ext F6; have hy6 := hy5.ext F6
    clear hd hr45 hr5 hr6 e6 hx5 hy5 E5 F6 hc4 hc5 hm4 hm5
    go_wp2_with fail
    go_loopg [14] N (fun g i wr => ∃ k : Nat, i = .int .i64 (k : Int) ∧ k ≤ N ∧ N - k ≤ g ∧ Ext w6 wr)
    case atStart => exact ⟨0, rfl, by omega, by omega, Ext.refl _⟩
    case round =>
      obtain ⟨k, rfl, hk, hg, hE⟩ := hrel
      have hxr := hx6.ext hE; have hyr := hy6.ext hE
      by_cases hkN : k < N
      · have hkl : k < l.length := by rw [HN.out]; exact hkN
        obtain ⟨b, o, rfl, hc⟩ := hA.ext (E6.trans hE) (by rw [opCells_length]; omega)
        obtain ⟨k0, k1, k2⟩ := op_cell hkl hc
        obtain ⟨op, hop⟩ : ∃ op, l[k] = op := ⟨_, rfl⟩
        rw [hop] at k0 k1 k2
        obtain ⟨dr, pr, ch⟩ := op
        simp only at k0 k1 k2
        have HF := Lib.hid (find_pre pr HPRE.out)
        have hf1 := findL_len pr L1
        have hf2 := findL_len pr L2
        have hfl := HF.out.length_le
        rw [HN1.out] at hf1
        rw [HN2.out] at hf2
        have hk1c : ∀ w', Ext wr w' → w'.cell? ⟨b, o + k * 3 + 1, none⟩ = some (.int .u32 pr) := fun w' hw => (cell_same (hw.block b (cell_lt k1))).trans k1
        clear hop hc k0 k2
        go_wp2_with fail
        refine (find_calls p1 r1 m pr L1 (by rw [HN1.out]; omega) _ hxr).mono ?_
        rintro e w7 ⟨v7, rfl, hown7, F7⟩
        have hyr7 := hyr.ext F7
        have k17 := hk1c _ F7
        obtain ⟨A7, c7, rfl, hc7, hm7, hr7⟩ := hown7.slice
        clear hown7 k1
        go_wp2_with fail
        refine (find_calls p2 r2 M pr L2 (by rw [HN2.out]; omega) _ hyr7).mono ?_
        rintro e w8 ⟨v8, rfl, hown8, F8⟩
        have F78 := Ext.trans F7 F8
        have hr78 := hr7.ext F8
        obtain ⟨A8, c8, rfl, hc8, hm8, hr8⟩ := hown8.slice
        clear hown8 k17 hr7
        obtain ⟨f1, hf1e⟩ : ∃ n, (findL pr L1).length = n := ⟨_, rfl⟩
        obtain ⟨f2, hf2e⟩ : ∃ n, (findL pr L2).length = n := ⟨_, rfl⟩
        rw [hf1e] at hf1 hfl hc7
        rw [hf2e] at hf2 hfl hc8
        simp only [hf1e, hf2e]
        have HF1 := Lib.hid hf1e; have HF2 := Lib.hid hf2e
        have g4 : decide (f2 < f1) = false := by rw [decide_eq_false_iff_not]; omega
        clear hf1e hf2e
        go_wp2_with (first
          | ((with_reducible show wpList _ _ _ (⟨some 93, _, _, _, _, _⟩ :: _) _ _); go_must (refine wpList_guarded rfl (wpList_slice _ rfl (.tmp 90) none (some (.tmp 92)) 30 rfl 3 i1 1 Try.und_is hi' hz1' A8 f2 c8 (i64s (findL pr L2)) rfl hr8 hc8 0 f1 (.inl ⟨rfl, rfl⟩) (.inr ⟨_, .i64, rfl, rfl⟩) (Nat.zero_le _) hfl ?_)); intro A9 hr9)
          | fail)
        have e9 : List.take ((f1 - 0) * 1) (List.drop (0 * 1) (i64s (findL pr L2))) = i64s (findL pr L1) := by
          rw [Nat.zero_mul, List.drop_zero, Nat.sub_zero, Nat.mul_one, i64s, ← List.map_take, ← HF1.out, pre_take HF.out]
          rfl
        rw [e9] at hr9
        refine (sameints_calls _ _ f1 f1 _ _ (findL pr L1) (findL pr L1) _ hr78 hr9 HF1.out HF1.out (by omega) (by omega) true (by simp)).mono ?_
        rintro e w9 ⟨rfl, hd⟩
        have F9 := hE.trans (Ext.drawn F78 hd)
        clear hd hr78 hr8 hr9 e9
        go_wp2_with fail
        go_roundg (N - (k + 1))
        case measure => omega
        case rel => exact ⟨k + 1, by go_num, by omega, by omega, F9⟩
      · go_wp2
        go_ret
        exact ⟨rfl, E6.trans hE⟩
  · by_cases B1 : (b < 1 ∨ b > 4096) ∨ N > 80
    · have c1 := fun w => play_bad (b) A N c w B1 (by omega)
      by_cases B2 : (a < 1 ∨ a > 4096) ∨ N > 80
      · have c2 := fun w => play_bad (a) A N c w B2 (by omega)
        have C1 := Lib.hid c1; have C2 := Lib.hid c2
        clear c1 c2 B1 B2 hg hok hN
        go_enter Try.func3, Try.ntmps3
        go_wp2_with fail
        refine (sanity23_calls _).mono ?_
        rintro e w1 ⟨rfl, E1⟩
        go_wp2_with fail
        refine (C1.out _).mono ?_
        rintro e w2 ⟨rfl, F2⟩
        go_wp2_with fail
        refine (C2.out _).mono ?_
        rintro e w3 ⟨rfl, F3⟩
        go_wp2
        go_ret
        exact ⟨rfl, (E1.trans F2).trans F3⟩
      · obtain ⟨M, hM⟩ : ∃ M : Nat, a = (M : Int) := ⟨(a).toNat, by omega⟩
        have p2 := fun w (h : Rd w A (opCells l)) => play_calls M A N c l w (by omega) (by omega) h hN (by omega) hok
        rw [← hM] at p2
        have C1 := Lib.hid c1; have C2 := Lib.hid p2
        clear c1 p2 B1 B2 hg hok hN hM
        go_enter Try.func3, Try.ntmps3
        go_wp2_with fail
        refine (sanity23_calls _).mono ?_
        rintro e w1 ⟨rfl, E1⟩
        go_wp2_with fail
        refine (C1.out _).mono ?_
        rintro e w2 ⟨rfl, F2⟩
        go_wp2_with fail
        refine (C2.out _ (hA.ext (E1.trans F2))).mono ?_
        rintro e w3 ⟨p2, r2, rfl, _, _, _, F3⟩
        go_wp2
        go_ret
        exact ⟨rfl, (E1.trans F2).trans F3⟩
    · have B2 : (a < 1 ∨ a > 4096) ∨ N > 80 := by omega
      have c2 := fun w => play_bad (a) A N c w B2 (by omega)
      obtain ⟨m, hm⟩ : ∃ m : Nat, b = (m : Int) := ⟨(b).toNat, by omega⟩
      have p1 := fun w (h : Rd w A (opCells l)) => play_calls m A N c l w (by omega) (by omega) h hN (by omega) hok
      rw [← hm] at p1
      have C1 := Lib.hid p1; have C2 := Lib.hid c2
      clear c2 p1 B1 B2 hg hok hN hm
      go_enter Try.func3, Try.ntmps3
      go_wp2_with fail
      refine (sanity23_calls _).mono ?_
      rintro e w1 ⟨rfl, E1⟩
      go_wp2_with fail
      refine (C1.out _ (hA.ext E1)).mono ?_
      rintro e w2 ⟨p1, r1, rfl, _, _, _, F2⟩
      go_wp2_with fail
      refine (C2.out _).mono ?_
      rintro e w3 ⟨rfl, F3⟩
      go_wp2
      go_ret
      exact ⟨rfl, (E1.trans F2).trans F3⟩

theorem includes_law (a b : Int) (A : Option Addr) (N c : Nat) (l : List Op3) (w : World) (hA : Rd w A (opCells l)) (hN : l.length = N) (hNb : N ≤ 100000000000000) (hok : ∀ o ∈ l, OkO o) :
    Calls Try.prog 3 #[.int .i64 a, .int .i64 b, .slice A N c] w (RetT w) := by
  by_cases hab : a ≤ b
  · exact includes_le a b A N c l w hab hA hN hNb hok
  · exact includes_gt a b A N c l w (by omega) hA hN hNb hok

end Go.Proofs.Ytcjeclddpkinkaa
