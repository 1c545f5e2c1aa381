/- WireDecodeMatchesSpec: the walk. -/
import Derived.Test.YtcjeclddpkinkaaL7
import Derived.Test.YtcjeclddpkinkaaWz
set_option linter.unusedSimpArgs false
set_option linter.unusedVariables false
namespace Go.Proofs.Ytcjeclddpkinkaa
open Go.RowKit

set_option maxRecDepth 100000 in
set_option maxHeartbeats 400000 in
theorem decode_law (A : Option Addr) (N c : Nat) (l : List UInt8) (w : World) (hr : Rd w A (u8s l)) (hN : l.length = N) (hc : N ≤ c) (hm : c ≤ maxLen) :
    Calls Try.prog 8 #[.slice A N c] w (RetT w) := by
  have HN := Lib.hid hN
  by_cases hbig : N ≤ 2000
  · have hg : decide ((N : Int) > 2000) = false := by rw [decide_eq_false_iff_not]; omega
    obtain ⟨q, h1⟩ : ∃ q, Wz.dec l = q := ⟨_, rfl⟩
    obtain ⟨n1, u1, e1⟩ := q
    obtain ⟨q, h2⟩ : ∃ q, Wz.getB l = q := ⟨_, rfl⟩
    obtain ⟨s2, u2, e2⟩ := q
    obtain ⟨q, h3⟩ : ∃ q, Wz.getL l = q := ⟨_, rfl⟩
    obtain ⟨s3, u3, e3⟩ := q
    obtain ⟨q, h4⟩ : ∃ q, Wz.getD l = q := ⟨_, rfl⟩
    obtain ⟨s4, u4, e4⟩ := q
    have H1 := Lib.hid h1; have H2 := Lib.hid h2; have H3 := Lib.hid h3; have H4 := Lib.hid h4
    have hl3 : s3.length ≤ 2000 := by have := Wz.getL_len h3; omega
    have hl4 : s4.length ≤ 2000 := by have := Wz.getD_len h4; omega
    clear h1 h2 h3 h4 hN
    go_enter Try.func8, Try.ntmps8
    go_wp2_with fail
    refine (getint_calls _ _ _ l _ hr (by omega) hc hm HN.out H1.out).mono ?_
    rintro e _ ⟨rfl, rfl⟩
    go_wp2_with fail
    refine (refgetint_calls _ _ _ l _ hr (by omega) hc hm HN.out H1.out).mono ?_
    rintro e w1 ⟨rfl, hw⟩
    have E1 := Ext.of hw
    clear hw
    go_wp2_with fail
    refine (getbytes_calls _ _ _ l _ (hr.ext E1) (by omega) hc hm HN.out H2.out).mono ?_
    rintro e w2 ⟨rfl, hw⟩
    have E2 := E1.trans hw
    clear hw E1
    go_wp2_with fail
    refine (refgetbytes_calls _ _ _ l _ (hr.ext E2) (by omega) hc hm HN.out H2.out).mono ?_
    rintro e w3 ⟨rfl, hw⟩
    have E3 := E2.trans hw
    clear hw E2
    go_wp2_with fail
    refine (getints_calls _ _ _ l _ (hr.ext E3) (by omega) hc hm HN.out H3.out).mono ?_
    rintro e w4 ⟨v4, rfl, hown4, hw⟩
    have E4 := E3.trans hw
    obtain ⟨A4, c4, rfl, hc4, hm4, hr4⟩ := hown4.slice
    clear hw E3 hown4
    go_wp2_with fail
    refine (refgetints_calls _ _ _ l _ (hr.ext E4) (by omega) hc hm HN.out H3.out).mono ?_
    rintro e w5 ⟨v5, rfl, hown5, hw⟩
    have E5 := E4.trans hw
    have hr4' := hr4.ext hw
    obtain ⟨A5, c5, rfl, hc5, hm5, hr5⟩ := hown5.slice
    clear hw E4 hown5 hr4
    go_wp2_with fail
    refine (sameints_calls _ _ _ _ _ _ s3 s3 _ hr4' hr5 rfl rfl (by omega) (by omega) true (by simp)).mono ?_
    rintro e w6 ⟨rfl, hw⟩
    have E6 := E5.drawn hw
    clear hw E5 hc5 hm5 hc4 hm4 hr4' hr5
    go_wp2_with fail
    refine (getdigests_calls _ _ _ l _ (hr.ext E6) (by omega) hc hm HN.out H4.out).mono ?_
    rintro e w7 ⟨v7, rfl, hown7, hw⟩
    have E7 := E6.trans hw
    obtain ⟨A7, c7, rfl, hc7, hm7, hr7⟩ := hown7.slice
    clear hw E6 hown7
    go_wp2_with fail
    refine (refgetdigests_calls _ _ _ l _ (hr.ext E7) (by omega) hc hm HN.out H4.out).mono ?_
    rintro e w8 ⟨v8, rfl, hown8, hw⟩
    have E8 := E7.trans hw
    have hr7' := hr7.ext hw
    obtain ⟨A8, c8, rfl, hc8, hm8, hr8⟩ := hown8.slice
    clear hw E7 hown8 hr7
    go_wp2_with fail
    refine (sanity_calls _).mono ?_
    rintro e w9 ⟨rfl, E89⟩
    have E9 := E8.trans E89
    go_wp2_with fail
    refine (samedigests_calls _ _ _ _ _ _ s4 s4 _ (hr7'.ext E89) (hr8.ext E89) rfl rfl (by omega) (by omega) true (by simp)).mono ?_
    rintro e w10 ⟨rfl, hw⟩
    have E10 := E9.drawn hw
    clear hw E9 E8 E89
    go_wp2
    go_ret
    exact ⟨rfl, E10⟩
  · clear hN
    have hg : decide ((N : Int) > 2000) = true := by rw [decide_eq_true_iff]; omega
    go_enter Try.func8, Try.ntmps8
    go_wp2_with fail
    refine (sanity_calls _).mono ?_
    rintro e w1 ⟨rfl, E1⟩
    go_wp2
    go_ret
    exact ⟨rfl, E1⟩

end Go.Proofs.Ytcjeclddpkinkaa
