/- WireCanonical: the walk. -/
import Derived.Test.YtcjeclddpkinkaaL8
import Derived.Test.YtcjeclddpkinkaaWz
set_option linter.unusedSimpArgs false
set_option linter.unusedVariables false
namespace Go.Proofs.Ytcjeclddpkinkaa
open Go.RowKit

namespace Wz
theorem getB_len {l s : List UInt8} {u e : Nat} (h : getB l = (s, u, e)) : s.length ≤ l.length := by
  by_cases he : e = 0
  · subst he; exact (getB_ok h).2.2
  · unfold getB at h
    split at h
    · simp only [Prod.mk.injEq] at h; rw [← h.1]; exact Nat.zero_le _
    · simp only [Prod.mk.injEq] at h; omega
theorem getL_in {l : List UInt8} {s : List Int} {u e : Nat} (h : getL l = (s, u, e)) : In64 s := by
  by_cases he : e = 0
  · subst he; exact (getL_ok h).2.2.2
  · rw [getL_bad h he]; intro x hx; simp at hx
end Wz

set_option maxRecDepth 100000 in
set_option maxHeartbeats 400000 in
/-- the closure: a decoder's answer is the encoding of what it answers -/
theorem canon_calls (A : Option Addr) (N c : Nat) (l : List UInt8) (B : Nat) (A1 : Option Addr) (M c1 : Nat) (m : List UInt8) (u er : Nat) (w : World) (hr : Rd w A (u8s l)) (hN : l.length = N) (hc : N ≤ c) (hm : c ≤ maxLen) (hNs : N ≤ 2000)
    (hB : w.heap[B]? = some (.cells #[.slice A N c] 57 (0, 0))) (hr1 : Rd w A1 (u8s m)) (hM : m.length = M) (hMb : M ≤ 100000) (hok : er = 0 → u ≤ N ∧ l.take u = m) :
    Calls Try.prog 57 #[.slice A1 M c1, .int .i64 (u : Int), .int .i64 (er : Int), .pointer (some ⟨B, 0, none⟩)] w fun e w' => e = .returned (.bool true) ∧ Drawn w w' := by
  have HN := Lib.hid hN; have HM := Lib.hid hM
  have hcell := cell_of_block hB
  clear hB
  by_cases he : er = 0
  · subst he
    obtain ⟨hu, hl⟩ := hok rfl
    have HL := Lib.hid hl
    clear hl hok hN hM
    obtain ⟨i0, hi, hz0, hz1, hz2⟩ := info_parts info_u8
    have g1 : decide ((u : Int) ≥ 0) = true := by rw [decide_eq_true_iff]; omega
    have g2 : decide ((u : Int) ≤ (N : Int)) = true := by rw [decide_eq_true_iff]; omega
    have g3 : min (u : Int) (N : Int) = (u : Int) := by omega
    have g4 : max (0 : Int) (u : Int) = (u : Int) := by omega
    have g5 : decide ((N : Int) < (u : Int)) = false := by rw [decide_eq_false_iff_not]; omega
    have g6 : decide ((u : Int) > 0) = decide (0 < u) := by simp
    have HU : Hid ((if 0 < u then (u : Int) else 0) = (u : Int)) := Lib.hid (by split <;> omega)
    have hU : (if 0 < u then (u : Int) else 0) = (u : Int) := HU.out
    go_enter Try.func57, Try.ntmps57
    go_wp2_with (first
      | ((with_reducible show wpList _ _ _ (⟨some 27, _, _, _, _, _⟩ :: _) _ _); go_must (refine wpList_guarded rfl (wpList_slice _ rfl (.tmp 21) none (some (.tmp 26)) 57 rfl 5 i0 1 Try.underlying57 hi hz1 A N c (u8s l) rfl hr hc 0 u (.inl ⟨rfl, rfl⟩) (.inr ⟨_, .i64, rfl, by first | rfl | exact congrArg (Value.int .i64) HU.out⟩) (Nat.zero_le _) hu ?_)); intro A5 hr5)
      | fail)
    have e5 : List.take ((u - 0) * 1) (List.drop (0 * 1) (u8s l)) = u8s m := by rw [← HL.out]; simp [u8s, List.map_take]
    rw [e5] at hr5
    refine (same_calls _ _ _ _ _ _ m m _ hr1 hr5 HM.out (by have := congrArg List.length HL.out; rw [List.length_take, HN.out] at this; omega) (by omega) (by omega) true (by simp)).mono ?_
    rintro e w1 ⟨rfl, hw⟩
    go_wp2
    go_ret
    exact ⟨rfl, hw⟩
  · have g0 : ((er : Int) != 0) = true := by rw [bne_iff_ne]; omega
    clear hok hN hM
    go_enter Try.func57, Try.ntmps57
    go_wp2
    go_ret
    exact ⟨rfl, Drawn.refl _⟩

set_option maxRecDepth 100000 in
set_option maxHeartbeats 1000000 in
theorem canonical_law (A : Option Addr) (N c : Nat) (l : List UInt8) (w : World) (hr : Rd w A (u8s l)) (hN : l.length = N) (hc : N ≤ c) (hm : c ≤ maxLen) :
    Calls Try.prog 11 #[.slice A N c] w (RetT w) := by
  by_cases hbig : N ≤ 2000
  · have hg : decide ((N : Int) > 2000) = false := by rw [decide_eq_false_iff_not]; omega
    obtain ⟨q, h1⟩ : ∃ q, Wz.dec l = q := ⟨_, rfl⟩
    obtain ⟨n1, u1, e1⟩ := q
    obtain ⟨q, h2⟩ : ∃ q, Wz.getB l = q := ⟨_, rfl⟩
    obtain ⟨s2, u2, e2⟩ := q
    obtain ⟨q, h3⟩ : ∃ q, Wz.getL l = q := ⟨_, rfl⟩
    obtain ⟨s3, u3, e3⟩ := q
    obtain ⟨q, h4⟩ : ∃ q, Wz.getD l = q := ⟨_, rfl⟩
    obtain ⟨s4, u4, e4⟩ := q
    have hd := Wz.dec_le l
    rw [h1] at hd
    have ok1 : e1 = 0 → u1 ≤ N ∧ l.take u1 = Wz.enc n1 := by rintro rfl; have := Wz.enc_dec h1; exact ⟨by omega, this.2.2.2.1⟩
    have ok2 : e2 = 0 → u2 ≤ N ∧ l.take u2 = Wz.encB s2 := by rintro rfl; have := Wz.getB_ok h2; exact ⟨by omega, this.2.1⟩
    have ok3 : e3 = 0 → u3 ≤ N ∧ l.take u3 = Wz.encL s3 := by rintro rfl; have := Wz.getL_ok h3; exact ⟨by omega, this.2.1⟩
    have ok4 : e4 = 0 → u4 ≤ N ∧ l.take u4 = Wz.encD s4 := by rintro rfl; have := Wz.getD_ok h4; exact ⟨by omega, this.2.1⟩
    have l2 : s2.length ≤ 2000 := by
      have := Wz.getB_len h2; omega
    have l3 : s3.length ≤ 2000 := by have := Wz.getL_len h3; omega
    have l4 : s4.length ≤ 2000 := by have := Wz.getD_len h4; omega
    have i3 : Wz.In64 s3 := Wz.getL_in h3
    have L1 := Wz.enc_length n1 hd.2.1 hd.2.2
    have L2 := Wz.encB_len s2 (by omega)
    have L2b : (Wz.encB s2).length ≤ 2009 := by unfold Wz.encB; rw [List.length_append]; have := Wz.enc_length (s2.length : Int) (by omega) (by omega); omega
    have L3 := Wz.encL_len i3 (by omega)
    have L4 := Wz.encD_len (d := s4) (by omega)
    have HN := Lib.hid hN; have H1 := Lib.hid h1; have H2 := Lib.hid h2; have H3 := Lib.hid h3; have H4 := Lib.hid h4
    have O1 := Lib.hid ok1; have O2 := Lib.hid ok2; have O3 := Lib.hid ok3; have O4 := Lib.hid ok4; have I3 := Lib.hid i3
    have D1 := hd.2.1; have D2 := hd.2.2
    clear h1 h2 h3 h4 hN ok1 ok2 ok3 ok4 i3 hd
    go_enter Try.func11, Try.ntmps11
    go_wp2_with fail
    obtain ⟨w1, hw1⟩ : ∃ w1, w.alloc (.cells #[.slice A N c] 57) = w1 := ⟨_, rfl⟩
    have E1 : Ext w w1 := hw1 ▸ (Ext.refl w).alloc _
    have hB : w1.heap[w.heap.size]? = some (.cells #[.slice A N c] 57 (0, 0)) := hw1 ▸ heap_alloc_new w _
    have HC : w1.cell? ⟨w.heap.size, 0, none⟩ = some (.slice A N c) := cell_of_block hB
    simp only [hw1]
    clear hw1
    have HBB : Blk w1 w.heap.size 57 [.slice A N c] := hB
    clear hB
    refine (getint_calls _ _ _ l _ (hr.ext E1) (by omega) hc hm HN.out H1.out).mono ?_
    rintro e _ ⟨rfl, rfl⟩
    go_wp2_with fail
    refine (getbytes_calls _ _ _ l _ (hr.ext E1) (by omega) hc hm HN.out H2.out).mono ?_
    rintro e w2 ⟨rfl, hw⟩
    have F2 := Ext.of hw
    have E2 := E1.trans hw
    have HC2 : w2.cell? ⟨w.heap.size, 0, none⟩ = some (.slice A N c) := (HBB.below F2).cell 0
    clear hw HC
    go_wp2_with fail
    refine (getints_calls _ _ _ l _ (hr.ext E2) (by omega) hc hm HN.out H3.out).mono ?_
    rintro e w3 ⟨v3, rfl, hown3, hw⟩
    have F3 := F2.trans hw
    have E3 := E2.trans hw
    have HC3 : w3.cell? ⟨w.heap.size, 0, none⟩ = some (.slice A N c) := (HBB.below F3).cell 0
    obtain ⟨A3, c3, rfl, hc3, hm3, hr3⟩ := hown3.slice
    clear hw HC2 hown3
    go_wp2_with fail
    refine (getdigests_calls _ _ _ l _ (hr.ext E3) (by omega) hc hm HN.out H4.out).mono ?_
    rintro e w4 ⟨v4, rfl, hown4, hw⟩
    have F4 := F3.trans hw
    have E4 := E3.trans hw
    have hr34 := hr3.ext hw
    obtain ⟨A4, c4, rfl, hc4, hm4, hr4⟩ := hown4.slice
    clear hw HC3 hown4 hr3
    go_wp2_with fail
    refine (sanity_calls _).mono ?_
    rintro e w5 ⟨rfl, hw⟩
    have F5 := F4.trans hw
    have E5 := E4.trans hw
    have hr35 := hr34.ext hw
    have hr45 := hr4.ext hw
    clear hw F4 F3 F2 E4 E3 E2 E1 hr34 hr4
    go_wp2_with fail
    refine (int_calls _ _ D1 D2).mono ?_
    rintro e w6 ⟨v6, rfl, hown6, hw⟩
    have FB := F5.trans hw
    have EB := E5.trans hw
    have K := Ext.of hw
    obtain ⟨Aq, cq, rfl, hcq, hmq, hrq⟩ := hown6.slice
    clear hw hown6
    go_wp2_with fail
    refine (canon_calls _ _ _ l w.heap.size _ _ _ (Wz.enc n1) _ _ _ (hr.ext EB) HN.out hc hm hbig (HBB.below FB) hrq rfl (by omega) O1.out).mono ?_
    rintro e wc7 ⟨rfl, hw⟩
    have EB' := EB.drawn hw
    have FB' := FB.drawn hw
    have K' := K.drawn hw
    clear hw hrq hcq hmq EB FB K
    have EB := EB'; have FB := FB'; have K := K'
    clear EB' FB' K'
    go_wp2_with fail
    refine (bytes_calls _ _ (by rw [str_size]; omega)).mono ?_
    rw [show (str s2).data.toList = s2 from by simp [str]]
    rintro e w8 ⟨v8, rfl, hown8, hw⟩
    have FC := FB.trans hw
    have EC := EB.trans hw
    have KC := K.trans hw
    obtain ⟨Aq8, cq8, rfl, hcq, hmq, hrq⟩ := hown8.slice
    clear hw hown8 FB EB K
    have FB := FC; have EB := EC; have K := KC
    clear FC EC KC
    go_wp2_with fail
    refine (canon_calls _ _ _ l w.heap.size _ _ _ (Wz.encB s2) _ _ _ (hr.ext EB) HN.out hc hm hbig (HBB.below FB) hrq rfl (by omega) O2.out).mono ?_
    rintro e wc9 ⟨rfl, hw⟩
    have EB' := EB.drawn hw
    have FB' := FB.drawn hw
    have K' := K.drawn hw
    clear hw hrq hcq hmq EB FB K
    have EB := EB'; have FB := FB'; have K := K'
    clear EB' FB' K'
    go_wp2_with fail
    refine (ints_calls _ _ _ s3 _ (hr35.ext K) (by omega) rfl I3.out).mono ?_
    rintro e w10 ⟨v10, rfl, hown10, hw⟩
    have FC := FB.trans hw
    have EC := EB.trans hw
    have KC := K.trans hw
    obtain ⟨Aq10, cq10, rfl, hcq, hmq, hrq⟩ := hown10.slice
    clear hw hown10 FB EB K
    have FB := FC; have EB := EC; have K := KC
    clear FC EC KC
    go_wp2_with fail
    refine (canon_calls _ _ _ l w.heap.size _ _ _ (Wz.encL s3) _ _ _ (hr.ext EB) HN.out hc hm hbig (HBB.below FB) hrq rfl (by omega) O3.out).mono ?_
    rintro e wc11 ⟨rfl, hw⟩
    have EB' := EB.drawn hw
    have FB' := FB.drawn hw
    have K' := K.drawn hw
    clear hw hrq hcq hmq EB FB K
    have EB := EB'; have FB := FB'; have K := K'
    clear EB' FB' K'
    go_wp2_with fail
    refine (digests_calls _ _ _ s4 _ (hr45.ext K) (by omega) rfl).mono ?_
    rintro e w12 ⟨v12, rfl, hown12, hw⟩
    have FC := FB.trans hw
    have EC := EB.trans hw
    have KC := K.trans hw
    obtain ⟨Aq12, cq12, rfl, hcq, hmq, hrq⟩ := hown12.slice
    clear hw hown12 FB EB K
    have FB := FC; have EB := EC; have K := KC
    clear FC EC KC
    go_wp2_with fail
    refine (canon_calls _ _ _ l w.heap.size _ _ _ (Wz.encD s4) _ _ _ (hr.ext EB) HN.out hc hm hbig (HBB.below FB) hrq rfl (by omega) O4.out).mono ?_
    rintro e wc13 ⟨rfl, hw⟩
    have EB' := EB.drawn hw
    have FB' := FB.drawn hw
    have K' := K.drawn hw
    clear hw hrq hcq hmq EB FB K
    have EB := EB'; have FB := FB'; have K := K'
    clear EB' FB' K'
    go_wp2
    go_ret
    exact ⟨rfl, EB⟩
  · have hg : decide ((N : Int) > 2000) = true := by rw [decide_eq_true_iff]; omega
    go_enter Try.func11, Try.ntmps11
    go_wp2_with fail
    refine (sanity_calls _).mono ?_
    rintro e w1 ⟨rfl, E1⟩
    go_wp2
    go_ret
    exact ⟨rfl, ((Ext.refl w).alloc _).trans E1⟩

end Go.Proofs.Ytcjeclddpkinkaa
