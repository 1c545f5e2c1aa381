/- WireListRoundTrip: the walk. -/
import Derived.Test.YtcjeclddpkinkaaL7
import Derived.Test.YtcjeclddpkinkaaWz
import Derived.Test.YtcjeclddpkinkaaB4
set_option linter.unusedSimpArgs false
set_option linter.unusedVariables false
namespace Go.Proofs.Ytcjeclddpkinkaa
open Go.RowKit

set_option maxRecDepth 100000 in
set_option maxHeartbeats 1000000 in
theorem listroundtrip_law (s : ByteArray) (A1 : Option Addr) (N1 c1 : Nat) (v : List Int) (A2 : Option Addr) (N2 c2 : Nat) (d : List Wz.Dg) (A3 : Option Addr) (N3 c3 : Nat) (l : List UInt8) (w : World)
    (hs : s.size ≤ 1000000000000000) (hr1 : Rd w A1 (i64s v)) (hN1 : v.length = N1) (hm1 : N1 ≤ 1000000000000000) (hin : Wz.In64 v) (hr2 : Rd w A2 (u8s (Wz.flat d))) (hN2 : d.length = N2) (hm2 : N2 ≤ 1000000000000000)
    (hr3 : Rd w A3 (u8s l)) (hN3 : l.length = N3) (hc3 : N3 ≤ c3) (hm3 : c3 ≤ maxLen) (hb3 : N3 ≤ 1000000000000000) :
    Calls Try.prog 12 #[.string s, .slice A1 N1 c1, .slice A2 N2 c2, .slice A3 N3 c3] w (RetT w) := by
  by_cases hbig : s.size + N1 + N2 + N3 ≤ 2000
  · have hg : decide ((s.size : Int) + (N1 : Int) + (N2 : Int) + (N3 : Int) > 2000) = false := by rw [decide_eq_false_iff_not]; omega
    have hsl : s.data.toList.length = s.size := rfl
    have HB := Lib.hid (Wz.getB_of s.data.toList (by omega) l)
    have HI := Lib.hid (Wz.getL_of v hin (by omega) l)
    have HG := Lib.hid (Wz.getD_of d (by omega) l)
    have hbl := Wz.encB_len s.data.toList (by omega)
    have hbp : 1 ≤ (Wz.encB s.data.toList).length := by unfold Wz.encB; rw [List.length_append]; have := Wz.enc_length (s.data.toList.length : Int) (by omega) (by omega); omega
    have hil := Wz.encL_len hin (by omega)
    have hip : 1 ≤ (Wz.encL v).length := by unfold Wz.encL; rw [List.length_append]; have := Wz.enc_length (v.length : Int) (by omega) (by omega); omega
    have hgl := Wz.encD_len (d := d) (by omega)
    have hgp : 1 ≤ (Wz.encD d).length := by unfold Wz.encD; rw [List.length_append]; have := Wz.enc_length (d.length : Int) (by omega) (by omega); omega
    rw [hN1] at hil
    rw [hN2] at hgl
    have HIN := Lib.hid hin; have HN1 := Lib.hid hN1; have HN2 := Lib.hid hN2; have HN3 := Lib.hid hN3
    clear hin hN1 hN2 hN3 hsl
    have cb := bytes_calls s w (by omega)
    have ci := fun w (hr1 : Rd w A1 (i64s v)) => ints_calls A1 N1 c1 v w hr1 (by omega) HN1.out HIN.out
    have cd := fun w (hr2 : Rd w A2 (u8s (Wz.flat d))) => digests_calls A2 N2 c2 d w hr2 (by omega) HN2.out
    obtain ⟨qb, hqb⟩ : ∃ q, Wz.encB s.data.toList = q := ⟨_, rfl⟩
    obtain ⟨qi, hqi⟩ : ∃ q, Wz.encL v = q := ⟨_, rfl⟩
    obtain ⟨qd, hqd⟩ : ∃ q, Wz.encD d = q := ⟨_, rfl⟩
    rw [hqb] at HB hbl hbp cb
    rw [hqi] at HI hil hip
    rw [hqd] at HG hgl hgp
    rw [hqi] at ci
    rw [hqd] at cd
    obtain ⟨Lb, hLb⟩ : ∃ L, qb.length = L := ⟨_, rfl⟩
    obtain ⟨Li, hLi⟩ : ∃ L, qi.length = L := ⟨_, rfl⟩
    obtain ⟨Ld, hLd⟩ : ∃ L, qd.length = L := ⟨_, rfl⟩
    rw [hLb] at HB hbl hbp
    rw [hLi] at HI hil hip
    rw [hLd] at HG hgl hgp
    have HLb := Lib.hid hLb; have HLi := Lib.hid hLi; have HLd := Lib.hid hLd
    have CB := Lib.hid cb; have CI := Lib.hid ci; have CD := Lib.hid cd
    clear hqb hqi hqd hLb hLi hLd cb ci cd
    go_enter Try.func12, Try.ntmps12
    go_wp2_with fail
    refine CB.out.mono ?_
    rintro e w1 ⟨v1, rfl, hown1, hw⟩
    have E1 := Ext.of hw
    obtain ⟨Ab, cb, rfl, hcb, hmb, hrb⟩ := hown1.slice
    rw [HLb.out] at hcb ⊢
    clear hw hown1 CB
    go_wp2_with fail
    refine (CI.out _ (hr1.ext E1)).mono ?_
    rintro e w2 ⟨v2, rfl, hown2, hw⟩
    have E2 := E1.trans hw
    have hrb2 := hrb.ext hw
    obtain ⟨Ai, ci, rfl, hci, hmi, hri⟩ := hown2.slice
    rw [HLi.out] at hci ⊢
    clear hw hown2 CI E1 hrb
    go_wp2_with fail
    refine (CD.out _ (hr2.ext E2)).mono ?_
    rintro e w3 ⟨v3, rfl, hown3, hw⟩
    have E3 := E2.trans hw
    have hrb3 := hrb2.ext hw
    have hri3 := hri.ext hw
    obtain ⟨Ad, cd, rfl, hcd, hmd, hrd⟩ := hown3.slice
    rw [HLd.out] at hcd ⊢
    clear hw hown3 CD E2 hrb2 hri
    obtain ⟨b1, o1, rfl, hcell⟩ := hrb3 (by rw [u8s_length, HLb.out]; omega)
    have hrb4 : Rd w3 (some ⟨b1, o1, none⟩) (u8s qb) := fun _ => ⟨b1, o1, rfl, hcell⟩
    clear hcell hrb3
    obtain ⟨b2, o2, rfl, hcell⟩ := hri3 (by rw [u8s_length, HLi.out]; omega)
    have hri4 : Rd w3 (some ⟨b2, o2, none⟩) (u8s qi) := fun _ => ⟨b2, o2, rfl, hcell⟩
    clear hcell hri3
    obtain ⟨b3, o3, rfl, hcell⟩ := hrd (by rw [u8s_length, HLd.out]; omega)
    have hrd4 : Rd w3 (some ⟨b3, o3, none⟩) (u8s qd) := fun _ => ⟨b3, o3, rfl, hcell⟩
    clear hcell hrd
    go_wp2_with (first
      | (at_builtin; go_must (refine wpList_app8full _ rfl (.tmp 46) (.tmp 47) rfl _ _ qb rfl HLb.out (by omega) hrb4 _ _ _ l rfl HN3.out (hr3.ext E3) (by omega) (by unfold maxLen; omega) ?_); intro Ax cx w4 hrx hcx hmx E34)
      | fail)
    refine (getbytes_calls _ _ _ (qb ++ l) _ hrx (by omega) hcx hmx (by rw [List.length_append, HLb.out, HN3.out]) HB.out).mono ?_
    rintro e w5 ⟨rfl, hw⟩
    have E35 := E34.trans hw
    have E5 := E3.trans E35
    have hri5 := hri4.ext E35
    have hrd5 := hrd4.ext E35
    clear hw E34 E35 E3 hrx hcx hmx hrb4 hri4 hrd4
    rw [str_list]
    go_wp2_with (first
      | (at_builtin; go_must (refine wpList_app8full _ rfl (.tmp 59) (.tmp 60) rfl _ _ qi rfl HLi.out (by omega) hri5 _ _ _ l rfl HN3.out (hr3.ext E5) (by omega) (by unfold maxLen; omega) ?_); intro Ax cx w6 hrx hcx hmx E56)
      | fail)
    refine (getints_calls _ _ _ (qi ++ l) _ hrx (by omega) hcx hmx (by rw [List.length_append, HLi.out, HN3.out]) HI.out).mono ?_
    rintro e w7 ⟨v7, rfl, hown7, hw⟩
    have E57 := E56.trans hw
    have E7 := E5.trans E57
    have hrd7 := hrd5.ext E57
    obtain ⟨A7, c7, rfl, hc7, hm7, hr7⟩ := hown7.slice
    rw [HN1.out] at hc7 ⊢
    clear hw hown7 E56 E57 E5 hrx hcx hmx hri5 hrd5
    go_wp2_with (first
      | (at_builtin; go_must (refine wpList_app8full _ rfl (.tmp 72) (.tmp 73) rfl _ _ qd rfl HLd.out (by omega) hrd7 _ _ _ l rfl HN3.out (hr3.ext E7) (by omega) (by unfold maxLen; omega) ?_); intro Ax cx w8 hrx hcx hmx E78)
      | fail)
    refine (getdigests_calls _ _ _ (qd ++ l) _ hrx (by omega) hcx hmx (by rw [List.length_append, HLd.out, HN3.out]) HG.out).mono ?_
    rintro e w9 ⟨v9, rfl, hown9, hw⟩
    have E79 := E78.trans hw
    obtain ⟨A9, c9, rfl, hc9, hm9, hr9⟩ := hown9.slice
    rw [HN2.out] at hc9 ⊢
    clear hw hown9 E78 hrx hcx hmx hrd7
    go_wp2_with fail
    refine (sanity_calls _).mono ?_
    rintro e w10 ⟨rfl, E910⟩
    have E710 := E79.trans E910
    go_wp2_with fail
    refine (sameints_calls _ _ _ _ _ _ v v _ (hr7.ext E710) (hr1.ext (E7.trans E710)) HN1.out HN1.out (by omega) (by omega) true (by simp)).mono ?_
    rintro e w11 ⟨rfl, hw⟩
    have E911 := E910.drawn hw
    have E11 := E7.trans (E79.trans E911)
    clear hw
    go_wp2_with fail
    refine (samedigests_calls _ _ _ _ _ _ d d _ (hr9.ext E911) (hr2.ext E11) HN2.out HN2.out (by omega) (by omega) true (by simp)).mono ?_
    rintro e w12 ⟨rfl, hw⟩
    have E12 := E11.drawn hw
    clear hw
    go_wp2
    go_ret
    exact ⟨rfl, E12⟩
  · have hg : decide ((s.size : Int) + (N1 : Int) + (N2 : Int) + (N3 : Int) > 2000) = true := by rw [decide_eq_true_iff]; omega
    clear hin
    go_enter Try.func12, Try.ntmps12
    go_wp2_with fail
    refine (sanity_calls _).mono ?_
    rintro e w1 ⟨rfl, E1⟩
    go_wp2
    go_ret
    exact ⟨rfl, E1⟩

end Go.Proofs.Ytcjeclddpkinkaa
