/- The contract of the reference's GetInt. -/
import Derived.Test.YtcjeclddpkinkaaWj
import Derived.Deep.RegionWith
set_option linter.unusedSimpArgs false
set_option linter.unusedVariables false
namespace Go.Proofs.Ytcjeclddpkinkaa
open Go.RowKit

/-- an integer, a number of bytes and an error; new memory alone -/
def RetGB (w : World) (n : Int) (u er : Nat) (e : Ending) (w' : World) : Prop := e = .returned (.tuple #[.int .i64 n, .int .i64 (u : Int), .int .i64 (er : Int)]) ∧ Below w.heap.size w w'

namespace Wz
theorem num_big {ds : List UInt8} {j : Nat} (hj : j < ds.length) (h : 36028797018963967 < num (ds.take j)) : 9223372036854775807 < (num ds : Int) := by
  have e : num ds = num (ds.take j) * 256 ^ (ds.drop j).length + num (ds.drop j) := by
    rw [← num_append, List.take_append_drop]
  have h1 : 256 ^ 1 ≤ 256 ^ (ds.drop j).length := Nat.pow_le_pow_right (by decide) (by rw [List.length_drop]; omega)
  have h2 : num (ds.take j) * 256 ^ 1 ≤ num (ds.take j) * 256 ^ (ds.drop j).length := Nat.mul_le_mul_left _ h1
  omega
theorem dec_cons (c : UInt8) (r : List UInt8) (h8 : ¬ 8 < cnt c) (hr : ¬ r.length < cnt c) : dec (c :: r) = if bad c r then (0, 0, 6) else (res c (num (digs c r)), cnt c + 1, 0) := by
  simp only [dec]; rw [if_neg h8, if_neg hr]
theorem same_bad (c : UInt8) (r : List UInt8) (h8 : ¬ 8 < cnt c) (hr : ¬ r.length < cnt c) (hs : (num (digs c r) : Int) ≤ 9223372036854775807) : (bad c r = false ↔ enc (res c (num (digs c r))) = (c :: r).take (cnt c + 1)) := by
  have hd := dec_cons c r h8 hr
  constructor
  · intro hb
    rw [hb] at hd
    exact (enc_dec hd).2.2.2.1.symm
  · intro he
    have hr1 : -9223372036854775808 ≤ res c (num (digs c r)) ∧ res c (num (digs c r)) ≤ 9223372036854775807 := by unfold res; split <;> omega
    have h1 := dec_enc _ hr1.1 hr1.2 ((c :: r).drop (cnt c + 1))
    rw [he, List.take_append_drop] at h1
    cases hb : bad c r with
    | false => rfl
    | true => rw [hb, h1] at hd; simp at hd
end Wz

set_option maxRecDepth 100000 in
set_option maxHeartbeats 800000 in
/-- the reference's GetInt decodes an integer -/
theorem refgetint_calls (A : Option Addr) (N0 cap : Nat) (l : List UInt8) (w : World) (hr : Rd w A (u8s l)) (hlen : N0 ≤ 140737488351232) (hcap : N0 ≤ cap) (hcm : cap ≤ maxLen) (hNl : l.length = N0) {n : Int} {u er : Nat} (h : Wz.dec l = (n, u, er)) :
    Calls Try.prog 49 #[.slice A N0 cap] w (RetGB w n u er) := by
  subst hNl
  unfold maxLen at hcm
  cases l with
  | nil =>
    simp only [Wz.dec, Prod.mk.injEq] at h
    obtain ⟨rfl, rfl, rfl⟩ := h
    go_enter Try.func49, Try.ntmps49
    go_wp2
    go_ret3
    exact ⟨rfl, Below.refl _ _⟩
  | cons c r =>
    obtain ⟨b, o, rfl, hcell⟩ := hr (by simp [u8s])
    have h0 : w.cell? ⟨b, o, none⟩ = some (.int .u8 (c.toNat : Int)) := hcell 0 _ rfl
    have hc := u8_lt c
    have HC := Lib.hid hcell; clear hcell hr
    have HD := Lib.hid h; clear h
    obtain ⟨N, hN⟩ : ∃ N, (c :: r).length = N := ⟨_, rfl⟩
    have hN1 : N = r.length + 1 := by rw [← hN]; simp
    rw [hN] at hlen hcap ⊢
    have hNpos : 0 < N := by omega
    have HN := Lib.hid hN1; clear hN hN1
    obtain ⟨K, hK⟩ : ∃ K, Wz.cnt c = K := ⟨_, rfl⟩
    have hK2 : K ≤ 128 := by rw [← hK]; unfold Wz.cnt; split <;> omega
    have HK := Lib.hid hK
    obtain ⟨C, hC⟩ : ∃ C : Int, (c.toNat : Int) = C := ⟨_, rfl⟩
    have hKC : (128 ≤ C ∧ (K : Int) = C - 128) ∨ (C < 128 ∧ (K : Int) = 127 - C) := by
      rw [← hK, ← hC]; unfold Wz.cnt; split <;> omega
    rw [hC] at h0 hc
    have HCC := Lib.hid hC
    clear hK hC
    by_cases h8 : 8 < K
    · have hd := HD.out
      simp only [Wz.dec] at hd
      rw [HK.out, if_pos h8] at hd
      simp only [Prod.mk.injEq] at hd
      obtain ⟨rfl, rfl, rfl⟩ := hd
      clear HD
      by_cases h119 : C < 119
      · go_enter Try.func49, Try.ntmps49
        go_wp2
        go_ret3
        exact ⟨rfl, Below.refl _ _⟩
      · have h136 : 136 < C := by omega
        go_enter Try.func49, Try.ntmps49
        go_wp2
        go_ret3
        exact ⟨rfl, Below.refl _ _⟩
    · have h119 : ¬ C < 119 := by omega
      have h136 : ¬ 136 < C := by omega
      go_enter Try.func49, Try.ntmps49
      go_upto_if 27 with (fail)
      go_cut [6] (fun s6 wc => s6 = .int .i64 (K : Int) ∧ w = wc)
      case first =>
        by_cases hcc : C < 128
        · go_wp2; go_meet; exact ⟨by congr 1; omega, rfl⟩
        · go_wp2; go_meet; exact ⟨by congr 1; omega, rfl⟩
      case rest =>
        obtain ⟨rfl, rfl⟩ := hcut
        by_cases h5 : N ≤ K
        · have hd := HD.out
          simp only [Wz.dec] at hd
          rw [HK.out, if_neg h8, if_pos (by have := HN.out; omega)] at hd
          simp only [Prod.mk.injEq] at hd
          obtain ⟨rfl, rfl, rfl⟩ := hd
          clear HD
          go_wp2
          go_ret3
          exact ⟨rfl, Below.refl _ _⟩
        have hrl : ¬ r.length < K := by have := HN.out; omega
        have hdec : Hid ((n, u, er) = if Wz.bad c r then (0, 0, 6) else (Wz.res c (Wz.num (Wz.digs c r)), K + 1, 0)) := by
          have := Wz.dec_cons c r (by rw [HK.out]; exact h8) (by rw [HK.out]; exact hrl)
          rw [HK.out, HD.out] at this
          exact Lib.hid this
        clear HD
        have hdl : (Wz.digs c r).length = K := by unfold Wz.digs; rw [HK.out, List.length_map, List.length_take]; omega
        obtain ⟨ds, hds⟩ : ∃ ds, Wz.digs c r = ds := ⟨_, rfl⟩
        have hsame : Hid ((Wz.num ds : Int) ≤ 9223372036854775807 → (Wz.bad c r = false ↔ Wz.enc (Wz.res c (Wz.num ds)) = (c :: r).take (K + 1))) := by
          have := Wz.same_bad c r (by rw [HK.out]; exact h8) (by rw [HK.out]; exact hrl)
          rw [hds, HK.out] at this
          exact Lib.hid this
        rw [hds] at hdec hdl
        have HDS := Lib.hid hds; have HDL := Lib.hid hdl; clear hds hdl
        go_wp2
        go_loopg [7, 8] K (fun g m i wr => ∃ i' M : Nat, i = .int .i64 (i' : Int) ∧ 1 ≤ i' ∧ i' ≤ K + 1 ∧ K + 1 - i' ≤ g ∧ m = .int .i64 (M : Int) ∧ (M : Int) ≤ 9223372036854775807 ∧ Hid (M = Wz.num (ds.take (i' - 1))) ∧ w = wr)
        case atStart => exact ⟨1, 0, rfl, by omega, by omega, by omega, rfl, by omega, Lib.hid rfl, rfl⟩
        case round =>
          obtain ⟨i, M, rfl, hi1, hiK, hig, rfl, hM63, HM, rfl⟩ := hrel
          by_cases hik : i ≤ K
          · have hrj : i - 1 < r.length := by omega
            obtain ⟨d, hd⟩ : ∃ d, r[i - 1]? = some d := ⟨r[i - 1], by simp [hrj]⟩
            have hcell : w.cell? ⟨b, o + i, none⟩ = some (.int .u8 (d.toNat : Int)) := HC.out i _ (by rw [show i = i - 1 + 1 from by omega]; simp [u8s, hd])
            have hdr := u8_lt d
            obtain ⟨e, he⟩ : ∃ e, Wz.dig c d = e := ⟨_, rfl⟩
            have hdj : ds[i - 1]? = some e := by
              rw [← HDS.out]; unfold Wz.digs; rw [HK.out]; simp [List.getElem?_take, show i - 1 < K from by omega, hd, he]
            by_cases hM : 36028797018963967 < (M : Int)
            · have hbig := Wz.num_big (ds := ds) (j := i - 1) (by rw [HDL.out]; omega) (by rw [← HM.out]; omega)
              have hbad : Wz.bad c r = true := by unfold Wz.bad; rw [HDS.out]; simp; right; omega
              have hd' := hdec.out
              rw [hbad, if_pos rfl] at hd'
              simp only [Prod.mk.injEq] at hd'
              obtain ⟨rfl, rfl, rfl⟩ := hd'
              clear hbig hbad hd he hdj hdec
              by_cases hcc : C < 128
              all_goals
                go_wp2
                go_ret3
                exact ⟨rfl, Below.refl _ _⟩
            · have hM2 : M * 256 + e.toNat = Wz.num (ds.take (i + 1 - 1)) := by
                rw [HM.out, show i + 1 - 1 = i - 1 + 1 from by omega, List.take_add_one, hdj]
                exact (Wz.num_snoc _ _).symm
              have HM2 := Lib.hid hM2
              have hE : (C < 128 → 255 - (d.toNat : Int) = (e.toNat : Int)) ∧ (¬ C < 128 → (d.toNat : Int) = (e.toNat : Int)) := by
                rw [← he, ← HCC.out]; unfold Wz.dig
                constructor
                · intro h; rw [if_neg (by omega), sub255]
                · intro h; rw [if_pos (by omega)]
              have her := u8_lt e
              have HE := Lib.hid hE
              clear hM2 hd he hdj hE
              by_cases hcc : C < 128
              · have hz := HE.out.1 hcc
                go_wp2
                go_roundg (K + 1 - (i + 1))
                case measure => omega
                case rel => exact ⟨i + 1, M * 256 + e.toNat, by go_num, by omega, by omega, by omega, by congr 1; omega, by omega, HM2, rfl⟩
              · have hz := HE.out.2 hcc
                go_wp2
                go_roundg (K + 1 - (i + 1))
                case measure => omega
                case rel => exact ⟨i + 1, M * 256 + e.toNat, by go_num, by omega, by omega, by omega, by congr 1; omega, by omega, HM2, rfl⟩
          · have hMn : M = Wz.num ds := by rw [HM.out, List.take_of_length_le (by rw [HDL.out]; omega)]
            have HMN := Lib.hid hMn
            clear hMn
            go_upto_if 57 with (fail)
            obtain ⟨q, hq⟩ : ∃ q, Wz.res c M = q := ⟨_, rfl⟩
            go_cut [10] (fun s10 wc => s10 = .int .i64 q ∧ w = wc)
            case first =>
              by_cases hcc : C < 128
              · go_wp2; go_meet; exact ⟨by rw [← hq]; unfold Wz.res; rw [if_neg (by have := HCC.out; omega)], rfl⟩
              · go_wp2; go_meet; exact ⟨by rw [← hq]; unfold Wz.res; rw [if_pos (by have := HCC.out; omega)], rfl⟩
            case rest =>
              obtain ⟨rfl, rfl⟩ := hcut
              go_upto_region 24 with fail
              have hq1 : -9223372036854775808 ≤ q := by rw [← hq]; unfold Wz.res; split <;> omega
              have hq2 : q ≤ 9223372036854775807 := by rw [← hq]; unfold Wz.res; split <;> omega
              have hql := Wz.enc_length q hq1 hq2
              have HS : Hid (Wz.bad c r = false ↔ Wz.enc q = (c :: r).take (K + 1)) := by
                have := hsame.out (by rw [← HMN.out]; omega)
                rw [← HMN.out, hq] at this
                exact Lib.hid this
              obtain ⟨R, hR⟩ : ∃ R : Bool, R = true ↔ Wz.enc q = (c :: r).take (K + 1) := ⟨decide (Wz.enc q = (c :: r).take (K + 1)), decide_eq_true_iff⟩
              have HR := Lib.hid hR
              have HQ := Lib.hid hq
              have hKN1 : K + 1 ≤ N := by omega
              have HRD : Hid (Rd w (some ⟨b, o, none⟩) (u8s ((c :: r).take (K + 1)))) := by
                refine Lib.hid (fun _ => ⟨b, o, rfl, fun j u hu => HC.out j u ?_⟩)
                simp only [u8s, List.map_take, List.getElem?_take] at hu ⊢
                split at hu
                · exact hu
                · cases hu
              have hml : ((c :: r).take (K + 1)).length = K + 1 := by rw [List.length_take, List.length_cons]; have := HN.out; omega
              have HML := Lib.hid hml
              have hcap0 : ¬ cap = 0 := by omega
              clear hml hR hq
              go_cut [67] (fun s67 wc => s67 = .bool (!R) ∧ Below w.heap.size w wc)
              case first =>
                have hwr : IntKind.i64.wrap ((K : Int) + 1) = (K : Int) + 1 := IntWalk.i64_in _ (by omega)
                have hwn : ((K : Int) + 1).toNat = K + 1 := by omega
                have hk0 : (0 : Int) ≤ (K : Int) + 1 := by omega
                have hkc : (K : Int) + 1 ≤ (cap : Int) := by omega
                go_region_with (first | (go_at_call 41; refine (refint_calls q _ (by omega) (by omega)).mono ?_; rintro e w1 ⟨v, rfl, hown, hb⟩; obtain ⟨A2, cap2, rfl, hn2, hc2, hrd2⟩ := hown.slice) | (go_at_call 39; refine (same_calls _ _ _ _ _ _ (Wz.enc q) ((c :: r).take (K + 1)) _ hrd2 (HRD.out.drew.below hb) rfl HML.out (by omega) (by omega) R HR.out).mono ?_; rintro e w2 ⟨rfl, hd⟩))
                all_goals (go_wp2_with fail; go_meet; exact ⟨rfl, (Below.refl _ w).drew.trans ((hb.mono (by simp)).trans (hd.below _))⟩)
              case rest =>
                obtain ⟨rfl, hbel⟩ := hcut
                cases hbad : Wz.bad c r with
                | true =>
                  have hR : R = false := by
                    cases R with
                    | false => rfl
                    | true => have := HS.out.2 (HR.out.1 rfl); rw [hbad] at this; cases this
                  have hd' := hdec.out
                  rw [hbad, if_pos rfl] at hd'
                  simp only [Prod.mk.injEq] at hd'
                  obtain ⟨rfl, rfl, rfl⟩ := hd'
                  subst hR
                  go_wp2
                  go_ret3
                  exact ⟨rfl, hbel⟩
                | false =>
                  have hR : R = true := HR.out.2 (HS.out.1 hbad)
                  have hd' := hdec.out
                  rw [hbad, if_neg (by simp), ← HMN.out, HQ.out] at hd'
                  simp only [Prod.mk.injEq] at hd'
                  obtain ⟨rfl, rfl, rfl⟩ := hd'
                  subst hR
                  go_wp2
                  go_ret3
                  exact ⟨rfl, hbel⟩

end Go.Proofs.Ytcjeclddpkinkaa
