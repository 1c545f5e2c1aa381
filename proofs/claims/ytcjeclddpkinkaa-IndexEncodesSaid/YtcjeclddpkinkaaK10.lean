/- The reader of numbers, of the index's reference. -/
import Derived.Test.YtcjeclddpkinkaaK9
set_option linter.unusedSimpArgs false
set_option linter.unusedVariables false
namespace Go.Proofs.Ytcjeclddpkinkaa
open Go.RowKit Go.ChangeMaps Ix

set_option maxRecDepth 100000 in
set_option maxHeartbeats 1000000 in
theorem refnumber_calls (B g : Nat) (lo hi : Int) (s : Rs) (w : World) (h : Rdr w B g 108 s) (he : s.2 ≤ 6) :
    Calls Try.prog 68 #[.pointer (some ⟨g, 0, none⟩), .int .i64 lo, .int .i64 hi] w fun e w' => e = .returned (.int .i64 (numR lo hi s).1) ∧ Rdr w' B g 108 (numR lo hi s).2 ∧ Keep2 g g w w' := by
  by_cases h0 : s.2 = 0
  · obtain ⟨l, e⟩ := s
    simp only at h0
    subst h0
    obtain ⟨A, c, hb, hlc, hcm, hl6, hr, hBg⟩ := h
    simp only at hb hlc hl6 hr
    obtain ⟨n, u, er, hd⟩ : ∃ n u er, Wz.dec l = (n, u, er) := ⟨_, _, _, rfl⟩
    have hle := Wz.dec_le l
    have hee := Wz.dec_er l
    rw [hd] at hle hee
    simp only at hle hee
    have hg := fun w' (hr : Rd w' A (u8s l)) => refgetint_calls A l.length c l w' hr (by omega) hlc hcm rfl hd
    obtain ⟨N, hN⟩ : ∃ N, l.length = N := ⟨_, rfl⟩
    have HN := Lib.hid hN
    rw [hN] at hb hlc hl6 hle
    simp only [hN] at hg
    have k0 : w.cell? ⟨g, 0, none⟩ = some (.slice A N c) := hb.cell 0
    have k1 : w.cell? ⟨g, 1, none⟩ = some (.int .i64 0) := hb.cell 1
    have f0 : w.frozen? ⟨g, 0, none⟩ = false := hb.free 0
    have f1 : w.frozen? ⟨g, 1, none⟩ = false := hb.free 1
    have HB := Lib.hid hb; have HR := Lib.hid hr; have HG := Lib.hid (hg w hr.rd); have HD := Lib.hid hd
    clear hb hr hg hN hd he
    by_cases her : er = 0
    · subst her
      by_cases hrng : n < lo ∨ hi < n
      · have hv : numR lo hi (l, 0) = (0, (l, 6)) := by unfold numR; rw [HD.out]; simp only; rw [if_neg (by simp), if_neg (by simp), if_pos hrng]
        have HV := Lib.hid hv
        have HRD : Hid (Rdr w B g 108 (l, 0)) := Lib.hid ⟨A, c, by rw [HN.out]; exact HB.out, by rw [HN.out]; exact hlc, hcm, by rw [HN.out]; exact hl6, HR.out, hBg⟩
        clear hv
        by_cases hlt : n < lo
        · have g1 : decide (n < lo) = true := decide_eq_true hlt
          clear hrng hlt
          go_enter Try.func68, Try.ntmps68
          go_wp2_with fail
          refine HG.out.mono ?_
          rintro e w1 ⟨rfl, F1⟩
          have E1 : Ext w w1 := F1
          have HB1 := HB.out.below E1
          have HR1 := HR.out.kept (w' := w1) fun b hb => E1.block b (by have := HB.out.lt; omega)
          have k0 : w1.cell? ⟨g, 0, none⟩ = some (.slice A N c) := HB1.cell 0
          have k1 : w1.cell? ⟨g, 1, none⟩ = some (.int .i64 0) := HB1.cell 1
          have f0 : w1.frozen? ⟨g, 0, none⟩ = false := HB1.free 0
          have f1 : w1.frozen? ⟨g, 1, none⟩ = false := HB1.free 1
          have HBB := Lib.hid HB1; have HRR := Lib.hid HR1
          clear HB1 HR1 F1
          go_wp2
          go_ret
          rw [HV.out]
          exact ⟨rfl, (HRD.out.ext E1).setE 6, ((Keep2.refl g g w).ext E1).grown (grownBy_setCell _ _ _ _)⟩
        · have g1 : decide (n < lo) = false := decide_eq_false hlt
          have g2 : decide (n > hi) = true := by rw [decide_eq_true_iff]; omega
          clear hrng hlt
          go_enter Try.func68, Try.ntmps68
          go_wp2_with fail
          refine HG.out.mono ?_
          rintro e w1 ⟨rfl, F1⟩
          have E1 : Ext w w1 := F1
          have HB1 := HB.out.below E1
          have HR1 := HR.out.kept (w' := w1) fun b hb => E1.block b (by have := HB.out.lt; omega)
          have k0 : w1.cell? ⟨g, 0, none⟩ = some (.slice A N c) := HB1.cell 0
          have k1 : w1.cell? ⟨g, 1, none⟩ = some (.int .i64 0) := HB1.cell 1
          have f0 : w1.frozen? ⟨g, 0, none⟩ = false := HB1.free 0
          have f1 : w1.frozen? ⟨g, 1, none⟩ = false := HB1.free 1
          have HBB := Lib.hid HB1; have HRR := Lib.hid HR1
          clear HB1 HR1 F1
          go_wp2
          go_ret
          rw [HV.out]
          exact ⟨rfl, (HRD.out.ext E1).setE 6, ((Keep2.refl g g w).ext E1).grown (grownBy_setCell _ _ _ _)⟩
      · have g1 : decide (n < lo) = false := by rw [decide_eq_false_iff_not]; omega
        have g2 : decide (n > hi) = false := by rw [decide_eq_false_iff_not]; omega
        have hv : numR lo hi (l, 0) = (n, (l.drop u, 0)) := by unfold numR; rw [HD.out]; simp only; rw [if_neg (by simp), if_neg (by simp), if_neg hrng]
        have HV := Lib.hid hv
        clear hv hrng
        obtain ⟨i0, hi0, hz0, hz1, hz2⟩ := info_parts info_u8
        go_enter Try.func68, Try.ntmps68
        go_wp2_with fail
        refine HG.out.mono ?_
        rintro e w1 ⟨rfl, F1⟩
        have E1 : Ext w w1 := F1
        have HB1 := HB.out.below E1
        have HR1 := HR.out.kept (w' := w1) fun b hb => E1.block b (by have := HB.out.lt; omega)
        have k0 : w1.cell? ⟨g, 0, none⟩ = some (.slice A N c) := HB1.cell 0
        have k1 : w1.cell? ⟨g, 1, none⟩ = some (.int .i64 0) := HB1.cell 1
        have f0 : w1.frozen? ⟨g, 0, none⟩ = false := HB1.free 0
        have f1 : w1.frozen? ⟨g, 1, none⟩ = false := HB1.free 1
        have HBB := Lib.hid HB1; have HRR := Lib.hid HR1
        clear HB1 HR1 F1
        go_wp2_with (first
          | ((with_reducible show wpList _ _ _ (⟨some 48, _, _, _, _, _⟩ :: _) _ _); go_must (refine wpList_sliceB _ rfl (.tmp 46) (some (.tmp 47)) none 57 rfl 5 i0 1 Try.underlying57 hi0 hz1 A N c (u8s l) rfl HRR.out.rd hlc u N (.inr ⟨_, .i64, rfl, rfl⟩) (.inl ⟨rfl, rfl⟩) hle.1 (Nat.le_refl _) ?_); intro A5 hr5 hA5)
          | fail)
        go_ret
        rw [HV.out]
        have e5 : List.take ((N - u) * 1) (List.drop (u * 1) (u8s l)) = u8s (l.drop u) := by
          rw [Nat.mul_one, Nat.mul_one, List.take_of_length_le (by rw [List.length_drop, u8s_length, HN.out]; omega), u8s, u8s, List.map_drop]
        rw [e5] at hr5
        refine ⟨rfl, ⟨A5, c - u, ?_, ?_, ?_, ?_, ?_, hBg⟩, ((Keep2.refl g g w).ext E1).grown (grownBy_setCell _ _ _ _)⟩
        · have := HBB.out.set 0 (.slice A5 (N - u) (c - u))
          simp only [List.length_drop, HN.out]
          exact this
        · simp only [List.length_drop, HN.out]; omega
        · omega
        · simp only [List.length_drop, HN.out]; omega
        · have h5 := RdB.cut HRR.out hr5 hA5 (by rw [u8s_length, u8s_length, List.length_drop]; omega)
          exact h5.kept fun b hb => Below.heap_setCell _ _ _ _ (show b ≠ g by omega)
    · have hv : numR lo hi (l, 0) = (0, (l, er)) := by unfold numR; rw [HD.out]; simp only; rw [if_neg (by simp), if_pos her]
      have HV := Lib.hid hv
      have HRD : Hid (Rdr w B g 108 (l, 0)) := Lib.hid ⟨A, c, by rw [HN.out]; exact HB.out, by rw [HN.out]; exact hlc, hcm, by rw [HN.out]; exact hl6, HR.out, hBg⟩
      have g1 : ((er : Int) == 0) = false := by rw [beq_eq_false_iff_ne]; omega
      have g2 : ((er : Int) != 0) = true := by rw [bne_iff_ne]; omega
      clear hv her
      go_enter Try.func68, Try.ntmps68
      go_wp2_with fail
      refine HG.out.mono ?_
      rintro e w1 ⟨rfl, F1⟩
      have E1 : Ext w w1 := F1
      have HB1 := HB.out.below E1
      have HR1 := HR.out.kept (w' := w1) fun b hb => E1.block b (by have := HB.out.lt; omega)
      have k0 : w1.cell? ⟨g, 0, none⟩ = some (.slice A N c) := HB1.cell 0
      have k1 : w1.cell? ⟨g, 1, none⟩ = some (.int .i64 0) := HB1.cell 1
      have f0 : w1.frozen? ⟨g, 0, none⟩ = false := HB1.free 0
      have f1 : w1.frozen? ⟨g, 1, none⟩ = false := HB1.free 1
      have HBB := Lib.hid HB1; have HRR := Lib.hid HR1
      clear HB1 HR1 F1
      go_wp2
      go_ret
      rw [HV.out]
      exact ⟨rfl, (HRD.out.ext E1).setE er, ((Keep2.refl g g w).ext E1).grown (grownBy_setCell _ _ _ _)⟩
  · have hne : ((s.2 : Int) != 0) = true := by rw [bne_iff_ne]; omega
    have HV := Lib.hid (numR_bad (lo := lo) (hi := hi) h0)
    have HX := Lib.hid h
    have k1 := h.er
    obtain ⟨e, hee⟩ : ∃ e, s.2 = e := ⟨_, rfl⟩
    rw [hee] at hne k1
    clear h h0 hee
    go_enter Try.func68, Try.ntmps68
    go_wp2
    go_ret
    rw [HV.out]
    exact ⟨rfl, HX.out, Keep2.refl _ _ _⟩

end Go.Proofs.Ytcjeclddpkinkaa
