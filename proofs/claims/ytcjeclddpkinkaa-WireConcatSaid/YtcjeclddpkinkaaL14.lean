/- WireConcat: the walk. -/
import Derived.Test.YtcjeclddpkinkaaL7
import Derived.Test.YtcjeclddpkinkaaWz
set_option linter.unusedSimpArgs false
set_option linter.unusedVariables false
namespace Go.Proofs.Ytcjeclddpkinkaa
open Go.RowKit

set_option maxRecDepth 100000 in
set_option maxHeartbeats 1000000 in
theorem concat_law (s : ByteArray) (A1 : Option Addr) (N1 c1 : Nat) (v : List Int) (w : World)
    (hs : s.size ≤ 1000000000000000) (hr1 : Rd w A1 (i64s v)) (hN1 : v.length = N1) (hm1 : N1 ≤ 1000000000000000) (hin : Wz.In64 v) :
    Calls Try.prog 14 #[.string s, .slice A1 N1 c1] w (RetT w) := by
  by_cases hbig : s.size + N1 ≤ 2000
  · have hg : decide ((s.size : Int) + (N1 : Int) > 2000) = false := by rw [decide_eq_false_iff_not]; omega
    have hsl : s.data.toList.length = s.size := rfl
    have HB := Lib.hid (Wz.getB_of s.data.toList (by omega) (Wz.encL v))
    have HI := Lib.hid (Wz.getL_of v hin (by omega) [])
    have hbl := Wz.encB_len s.data.toList (by omega)
    have hbp : 1 ≤ (Wz.encB s.data.toList).length := by unfold Wz.encB; rw [List.length_append]; have := Wz.enc_length (s.data.toList.length : Int) (by omega) (by omega); omega
    have hil := Wz.encL_len hin (by omega)
    have hip : 1 ≤ (Wz.encL v).length := by unfold Wz.encL; rw [List.length_append]; have := Wz.enc_length (v.length : Int) (by omega) (by omega); omega
    rw [hN1] at hil
    have HIN := Lib.hid hin; have HN1 := Lib.hid hN1
    clear hin hN1 hsl
    have cb := bytes_calls s w (by omega)
    have ci := fun w (hr1 : Rd w A1 (i64s v)) => ints_calls A1 N1 c1 v w hr1 (by omega) HN1.out HIN.out
    obtain ⟨qb, hqb⟩ : ∃ q, Wz.encB s.data.toList = q := ⟨_, rfl⟩
    obtain ⟨qi, hqi⟩ : ∃ q, Wz.encL v = q := ⟨_, rfl⟩
    rw [hqb, hqi] at HB
    rw [hqb] at hbl hbp cb
    rw [hqi] at HI hil hip
    rw [hqi] at ci
    obtain ⟨Lb, hLb⟩ : ∃ L, qb.length = L := ⟨_, rfl⟩
    obtain ⟨Li, hLi⟩ : ∃ L, qi.length = L := ⟨_, rfl⟩
    rw [hLb] at HB hbl hbp
    rw [hLi] at HI hil hip
    have HLb := Lib.hid hLb; have HLi := Lib.hid hLi
    have CB := Lib.hid cb; have CI := Lib.hid ci
    clear hqb hqi hLb hLi cb ci
    go_enter Try.func14, Try.ntmps14
    go_wp2_with fail
    refine CB.out.mono ?_
    rintro e w1 ⟨v1, rfl, hown1, hw⟩
    have E1 := Ext.of hw
    clear hw CB
    go_wp2_with fail
    refine (CI.out _ (hr1.ext E1)).mono ?_
    rintro e w2 ⟨v2, rfl, hown2, hw⟩
    have E2 := E1.trans hw
    have hown12 := hown1.ext hw
    obtain ⟨Ai, ci, rfl, hci, hmi, hri⟩ := hown2.slice
    rw [HLi.out] at hci ⊢
    have hsz := E2.size
    clear hw hown2 CI E1 hown1
    go_wp2_with (first
      | (at_builtin; go_must (refine wpList_app8 _ rfl (.tmp 20) (.tmp 22) rfl w.heap.size _ _ rfl hown12 Ai ci qi (by rw [HLi.out]; rfl) hri (by rw [HLb.out, HLi.out]; omega) hsz ?_); intro v3 w3 hown3 _ hb3)
      | fail)
    have E3 := Ext.of (hb3 w.heap.size w (Nat.le_refl _) E2)
    obtain ⟨Ax, cx, rfl, hcx, hmx, hrx⟩ := hown3.slice
    have hlx : (qb ++ qi).length = Lb + Li := by rw [List.length_append, HLb.out, HLi.out]
    rw [hlx] at hcx
    simp only [hlx]
    have HLX := Lib.hid hlx
    clear hlx hown3 hb3 E2 hown12 hri
    go_wp2_with fail
    refine (getbytes_calls _ _ _ (qb ++ qi) _ hrx (by omega) hcx hmx HLX.out HB.out).mono ?_
    rintro e w4 ⟨rfl, hw⟩
    have E4 := E3.trans hw
    have hrx4 := hrx.ext hw
    clear hw E3 hrx
    rw [str_list]
    have g1 : decide ((Lb : Int) < 0) = false := by rw [decide_eq_false_iff_not]; omega
    have g2 : decide ((Lb : Int) > ((Lb + Li : Nat) : Int)) = false := by rw [decide_eq_false_iff_not]; omega
    obtain ⟨i0, hi, hz0, hz1, hz2⟩ := info_parts info_u8
    go_wp2_with (first
      | ((with_reducible show wpList _ _ _ (⟨some 45, _, _, _, _, _⟩ :: _) _ _); go_must (refine wpList_slice _ rfl (.tmp 43) (some (.tmp 44)) none 57 rfl 5 i0 1 Try.underlying57 hi hz1 Ax (Lb + Li) cx (u8s (qb ++ qi)) rfl hrx4 hcx Lb (Lb + Li) (.inr ⟨_, .i64, rfl, rfl⟩) (.inl ⟨rfl, rfl⟩) (by omega) (Nat.le_refl _) ?_); intro A5 hr5)
      | fail)
    have e5 : List.take ((Lb + Li - Lb) * 1) (List.drop (Lb * 1) (u8s (qb ++ qi))) = u8s (qi ++ []) := by
      rw [List.append_nil, Nat.mul_one, Nat.mul_one, u8s_append, ← HLb.out, show qb.length = (u8s qb).length from (u8s_length _).symm, List.drop_left, List.take_of_length_le (by rw [u8s_length, u8s_length, HLb.out, HLi.out]; omega)]
    rw [e5] at hr5
    refine (getints_calls _ _ _ (qi ++ []) _ hr5 (by omega) (by omega) (by omega) (by rw [List.append_nil]; exact HLi.out) HI.out).mono ?_
    rintro e w5 ⟨v5, rfl, hown5, hw⟩
    have E5 := E4.trans hw
    obtain ⟨A7, c7, rfl, hc7, hm7, hr7⟩ := hown5.slice
    rw [HN1.out] at hc7 ⊢
    clear hw hown5 hr5 hrx4 e5
    go_wp2_with fail
    refine (sanity_calls _).mono ?_
    rintro e w6 ⟨rfl, E56⟩
    have E6 := E5.trans E56
    go_wp2_with fail
    refine (sameints_calls _ _ _ _ _ _ v v _ (hr7.ext E56) (hr1.ext E6) HN1.out HN1.out (by omega) (by omega) true (by simp)).mono ?_
    rintro e w7 ⟨rfl, hw⟩
    have E7 := E6.drawn hw
    clear hw
    clear HIN
    have g4 : ((Lb : Int) + (Li : Int) == ((Lb + Li : Nat) : Int)) = true := by rw [beq_iff_eq]; omega
    go_wp2
    go_ret
    exact ⟨rfl, E7⟩
  · have hg : decide ((s.size : Int) + (N1 : Int) > 2000) = true := by rw [decide_eq_true_iff]; omega
    clear hin
    go_enter Try.func14, Try.ntmps14
    go_wp2_with fail
    refine (sanity_calls _).mono ?_
    rintro e w1 ⟨rfl, E1⟩
    go_wp2
    go_ret
    exact ⟨rfl, E1⟩

end Go.Proofs.Ytcjeclddpkinkaa
