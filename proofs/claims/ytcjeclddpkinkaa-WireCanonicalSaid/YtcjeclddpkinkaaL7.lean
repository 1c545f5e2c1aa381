/- WireEncodeMatchesSpec: the walk. -/
import Derived.Test.YtcjeclddpkinkaaWx
set_option linter.unusedSimpArgs false
set_option linter.unusedVariables false
namespace Go.Proofs.Ytcjeclddpkinkaa
open Go.RowKit

namespace Wz
theorem encB_len (l : List UInt8) (h : l.length ≤ 10000000000) : (encB l).length ≤ 10000000009 := by
  have := enc_length (l.length : Int) (by omega) (by omega)
  unfold encB
  rw [List.length_append]
  omega
theorem encL_len {l : List Int} (h : In64 l) (hl : l.length ≤ 100000) : (encL l).length ≤ 9 * l.length + 9 := by
  have := enc_length (l.length : Int) (by omega) (by omega)
  have := encs_length h
  unfold encL
  rw [List.length_append]
  omega
theorem encD_len {d : List Dg} (hl : d.length ≤ 100000) : (encD d).length ≤ 16 * d.length + 9 := by
  have := enc_length (d.length : Int) (by omega) (by omega)
  unfold encD
  rw [List.length_append, flat_length]
  omega
end Wz

set_option maxRecDepth 100000 in
set_option maxHeartbeats 400000 in
theorem encode_law (x : Int) (s : ByteArray) (A2 : Option Addr) (N2 c2 : Nat) (v : List Int) (A3 : Option Addr) (N3 c3 : Nat) (d : List Wz.Dg) (w : World) (hx0 : -9223372036854775808 ≤ x) (hx1 : x ≤ 9223372036854775807)
    (hs : s.size ≤ 1000000000000000) (hr2 : Rd w A2 (i64s v)) (hN2 : v.length = N2) (hm2 : N2 ≤ 1000000000000000) (hin : Wz.In64 v) (hr3 : Rd w A3 (u8s (Wz.flat d))) (hN3 : d.length = N3) (hm3 : N3 ≤ 1000000000000000) :
    Calls Try.prog 7 #[.int .i64 x, .string s, .slice A2 N2 c2, .slice A3 N3 c3] w (RetT w) := by
  have HIN := Lib.hid hin; have HN2 := Lib.hid hN2; have HN3 := Lib.hid hN3
  clear hin hN2 hN3
  by_cases hbig : s.size + N2 + N3 ≤ 2000
  · have hc : decide ((s.size : Int) + (N2 : Int) + (N3 : Int) > 2000) = false := by rw [decide_eq_false_iff_not]; omega
    go_enter Try.func7, Try.ntmps7
    go_wp2_with fail
    refine (sanity_calls _).mono ?_
    rintro e w1 ⟨rfl, E1⟩
    go_wp2_with fail
    refine (int_calls _ _ hx0 hx1).mono ?_
    rintro e w2 ⟨v2, rfl, hown2, hw⟩
    have E12 := Ext.of hw
    obtain ⟨Aa, ca, rfl, hca, hma, hra⟩ := hown2.slice
    clear hw hown2
    go_wp2_with fail
    refine (refint_calls _ _ hx0 hx1).mono ?_
    rintro e w3 ⟨v3, rfl, hown3, hw⟩
    have E13 := E12.trans hw
    obtain ⟨Ab, cb, rfl, hcb, hmb, hrb⟩ := hown3.slice
    have hra' := hra.ext hw
    have hl := Wz.enc_length x hx0 hx1
    clear hw hown3 E12 hra
    go_wp2_with fail
    refine (same_calls _ _ _ _ _ _ _ _ _ hra' hrb rfl rfl (by omega) (by omega) true (by simp)).mono ?_
    rintro e w4 ⟨rfl, hw⟩
    have E4 := E1.trans (E13.drawn hw)
    clear hw E13 E1 hra' hrb hcb hmb hca hma hl
    go_wp2_with fail
    refine (bytes_calls _ _ (by omega)).mono ?_
    rintro e wa5 ⟨va5, rfl, howna, hw⟩
    have E12 := Ext.of hw
    obtain ⟨Aa5, ca5, rfl, hca, hma, hra⟩ := howna.slice
    clear hw howna
    go_wp2_with fail
    refine (refbytes_calls _ _ (by omega)).mono ?_
    rintro e wb5 ⟨vb5, rfl, hownb, hw⟩
    have E13 := E12.trans hw
    obtain ⟨Ab5, cb5, rfl, hcb, hmb, hrb⟩ := hownb.slice
    have hra' := hra.ext hw
    have hl := Wz.encB_len s.data.toList (by have : s.data.toList.length = s.size := rfl; omega)
    clear hw hownb E12 hra
    go_wp2_with fail
    refine (same_calls _ _ _ _ _ _ _ _ _ hra' hrb rfl rfl (by omega) (by omega) true (by simp)).mono ?_
    rintro e wc5 ⟨rfl, hw⟩
    have E5 := E4.trans (E13.drawn hw)
    clear hw E13 E4 hra' hrb hcb hmb hca hma hl
    go_wp2_with fail
    refine (ints_calls _ _ _ v _ (hr2.ext E5) (by omega) HN2.out HIN.out).mono ?_
    rintro e wa6 ⟨va6, rfl, howna, hw⟩
    have E12 := Ext.of hw
    obtain ⟨Aa6, ca6, rfl, hca, hma, hra⟩ := howna.slice
    clear hw howna
    go_wp2_with fail
    refine (refints_calls _ _ _ v _ ((hr2.ext E5).ext E12) (by omega) HN2.out HIN.out).mono ?_
    rintro e wb6 ⟨vb6, rfl, hownb, hw⟩
    have E13 := E12.trans hw
    obtain ⟨Ab6, cb6, rfl, hcb, hmb, hrb⟩ := hownb.slice
    have hra' := hra.ext hw
    have hl := Wz.encL_len HIN.out (by rw [HN2.out]; omega); rw [HN2.out] at hl
    clear hw hownb E12 hra
    go_wp2_with fail
    refine (same_calls _ _ _ _ _ _ _ _ _ hra' hrb rfl rfl (by omega) (by omega) true (by simp)).mono ?_
    rintro e wc6 ⟨rfl, hw⟩
    have E6 := E5.trans (E13.drawn hw)
    clear hw E13 E5 hra' hrb hcb hmb hca hma hl
    go_wp2_with fail
    refine (digests_calls _ _ _ d _ (hr3.ext E6) (by omega) HN3.out).mono ?_
    rintro e wa7 ⟨va7, rfl, howna, hw⟩
    have E12 := Ext.of hw
    obtain ⟨Aa7, ca7, rfl, hca, hma, hra⟩ := howna.slice
    clear hw howna
    go_wp2_with fail
    refine (refdigests_calls _ _ _ d _ ((hr3.ext E6).ext E12) (by omega) HN3.out).mono ?_
    rintro e wb7 ⟨vb7, rfl, hownb, hw⟩
    have E13 := E12.trans hw
    obtain ⟨Ab7, cb7, rfl, hcb, hmb, hrb⟩ := hownb.slice
    have hra' := hra.ext hw
    have hl := Wz.encD_len (d := d) (by rw [HN3.out]; omega); rw [HN3.out] at hl
    clear hw hownb E12 hra
    go_wp2_with fail
    refine (same_calls _ _ _ _ _ _ _ _ _ hra' hrb rfl rfl (by omega) (by omega) true (by simp)).mono ?_
    rintro e wc7 ⟨rfl, hw⟩
    have E7 := E6.trans (E13.drawn hw)
    clear hw E13 E6 hra' hrb hcb hmb hca hma hl
    go_wp2
    go_ret
    exact ⟨rfl, E7⟩
  · have hc : decide ((s.size : Int) + (N2 : Int) + (N3 : Int) > 2000) = true := by rw [decide_eq_true_iff]; omega
    go_enter Try.func7, Try.ntmps7
    go_wp2_with fail
    refine (sanity_calls _).mono ?_
    rintro e w1 ⟨rfl, E1⟩
    go_wp2
    go_ret
    exact ⟨rfl, E1⟩

end Go.Proofs.Ytcjeclddpkinkaa
