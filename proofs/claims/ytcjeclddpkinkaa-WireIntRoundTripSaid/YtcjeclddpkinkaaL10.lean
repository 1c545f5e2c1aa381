/- WireIntRoundTrip: the walk. -/
import Derived.Test.YtcjeclddpkinkaaWx
import Derived.Test.YtcjeclddpkinkaaB4
set_option linter.unusedSimpArgs false
set_option linter.unusedVariables false
namespace Go.Proofs.Ytcjeclddpkinkaa
open Go.RowKit

set_option maxRecDepth 100000 in
set_option maxHeartbeats 400000 in
theorem introundtrip_law (x : Int) (A : Option Addr) (N c : Nat) (l : List UInt8) (w : World) (hx0 : -9223372036854775808 ≤ x) (hx1 : x ≤ 9223372036854775807) (hr : Rd w A (u8s l)) (hN : l.length = N) (hc : N ≤ c) (hm : c ≤ maxLen) :
    Calls Try.prog 10 #[.int .i64 x, .slice A N c] w (RetT w) := by
  have HN := Lib.hid hN
  clear hN
  by_cases hbig : N ≤ 2000
  · have hg : decide ((N : Int) > 2000) = false := by rw [decide_eq_false_iff_not]; omega
    have HD := Lib.hid (Wz.dec_enc x hx0 hx1 l)
    have hl := Wz.enc_length x hx0 hx1
    go_enter Try.func10, Try.ntmps10
    go_wp2_with fail
    refine (int_calls _ _ hx0 hx1).mono ?_
    rintro e w1 ⟨v1, rfl, hown1, hw⟩
    have E1 := Ext.of hw
    obtain ⟨A1, c1, rfl, hc1, hm1, hr1⟩ := hown1.slice
    clear hw hown1
    obtain ⟨q, hq⟩ : ∃ q, Wz.enc x = q := ⟨_, rfl⟩
    rw [hq] at hr1 HD hl hc1
    simp only [hq]
    clear hq
    obtain ⟨L, hL⟩ : ∃ L, q.length = L := ⟨_, rfl⟩
    rw [hL] at HD hl hc1
    simp only [hL]
    have HL := Lib.hid hL
    clear hL
    have hr' := hr.ext E1
    obtain ⟨b1, o1, rfl, hcell1⟩ := hr1 (by rw [u8s_length, HL.out]; omega)
    have hr1' : Rd w1 (some ⟨b1, o1, none⟩) (u8s q) := fun _ => ⟨b1, o1, rfl, hcell1⟩
    clear hcell1 hr1
    go_wp2_with (first
      | (at_builtin; go_must (refine wpList_app8full _ rfl (.tmp 21) (.tmp 22) rfl _ _ q rfl HL.out (by omega) hr1' _ _ _ l rfl HN.out hr' (by omega) (by unfold maxLen; omega) ?_); intro A2 c2 w2 hr2 hc2 hm2 E2)
      | fail)
    have h1 : decide ((L : Int) ≥ 1) = true := by rw [decide_eq_true_iff]; omega
    have h9 : decide ((L : Int) ≤ 9) = true := by rw [decide_eq_true_iff]; omega
    refine (getint_calls _ _ _ (q ++ l) _ hr2 (by omega) hc2 hm2 (by rw [List.length_append, HL.out, HN.out]) HD.out).mono ?_
    rintro e _ ⟨rfl, rfl⟩
    go_wp2_with fail
    refine (sanity_calls _).mono ?_
    rintro e w3 ⟨rfl, E3⟩
    go_wp2
    go_ret
    exact ⟨rfl, (E1.trans E2).trans E3⟩
  · have hg : decide ((N : Int) > 2000) = true := by rw [decide_eq_true_iff]; omega
    go_enter Try.func10, Try.ntmps10
    go_wp2_with fail
    refine (sanity_calls _).mono ?_
    rintro e w1 ⟨rfl, E1⟩
    go_wp2
    go_ret
    exact ⟨rfl, E1⟩

end Go.Proofs.Ytcjeclddpkinkaa
