/- The contracts of wire.GetInt and of the reference's Same. -/
import Derived.Test.YtcjeclddpkinkaaWi
import Derived.Test.YtcjeclddpkinkaaWq
import Derived.Deep.QuietTactic
import Derived.BigQuiet
set_option linter.unusedSimpArgs false
set_option linter.unusedVariables false
namespace Go.Proofs.Ytcjeclddpkinkaa
open Go.RowKit

attribute [local go_sem] xor8_0 xor8_255

/-- an integer, a number of bytes, and an error -/
def RetG (w : World) (n : Int) (u er : Nat) (e : Ending) (w' : World) : Prop := e = .returned (.tuple #[.int .i64 n, .int .i64 (u : Int), .int .i64 (er : Int)]) ∧ w = w'

theorem flip_dig (c d : UInt8) (F : Int) (hF : F = (if 128 ≤ c.toNat then 0 else 255)) : bits .xor .u8 (d.toNat : Int) F = ((Wz.dig c d).toNat : Int) := by
  subst hF
  unfold Wz.dig
  split
  · exact xor8_0 d
  · rw [xor8_255, sub255]

set_option maxRecDepth 100000 in
set_option maxHeartbeats 400000 in
theorem getint_calls (A : Option Addr) (N cap : Nat) (l : List UInt8) (w : World) (hr : Rd w A (u8s l)) (hlen : N ≤ 140737488351232) (hcap : N ≤ cap) (hcm : cap ≤ maxLen) (hNl : l.length = N) {n : Int} {u er : Nat} (h : Wz.dec l = (n, u, er)) :
    Calls Try.prog 48 #[.slice A N cap] w (RetG w n u er) := by
  subst hNl
  unfold maxLen at hcm
  cases l with
  | nil =>
    simp only [Wz.dec, Prod.mk.injEq] at h
    obtain ⟨rfl, rfl, rfl⟩ := h
    go_enter Try.func48, Try.ntmps48
    go_wp2
    go_ret3
    exact ⟨rfl, rfl⟩
  | cons c r =>
    obtain ⟨b, o, rfl, hcell⟩ := hr (by simp [u8s])
    have h0 : w.cell? ⟨b, o, none⟩ = some (.int .u8 (c.toNat : Int)) := hcell 0 _ rfl
    have hc := u8_lt c
    obtain ⟨F, hF⟩ : ∃ F : Int, F = (if 128 ≤ c.toNat then 0 else 255) := ⟨_, rfl⟩
    have hF0 : 0 ≤ F := by subst hF; split <;> omega
    have hF1 : F ≤ 255 := by subst hF; split <;> omega
    have HF := Lib.hid hF; clear hF
    have HC := Lib.hid hcell; clear hcell hr
    have HD := Lib.hid h; clear h
    obtain ⟨N, hN⟩ : ∃ N, (c :: r).length = N := ⟨_, rfl⟩
    have hN1 : N = r.length + 1 := by rw [← hN]; simp
    rw [hN] at hlen hcap ⊢
    have hNpos : 0 < N := by omega
    have HN := Lib.hid hN1; clear hN hN1
    go_enter Try.func48, Try.ntmps48
    go_upto_if 16 with (fail)
    go_cut [5] (fun s5 wc => s5 = .int .u8 F ∧ w = wc)
    case first =>
      by_cases hcc : (c.toNat : Int) < 128
      · go_wp2; go_meet; exact ⟨by rw [HF.out, if_neg (by omega)], rfl⟩
      · go_wp2; go_meet; exact ⟨by rw [HF.out, if_pos (by omega)], rfl⟩
    case rest =>
      obtain ⟨rfl, rfl⟩ := hcut
      obtain ⟨K, hK⟩ : ∃ K, Wz.cnt c = K := ⟨_, rfl⟩
      obtain ⟨X, hX, hXK⟩ : ∃ X : Int, bits .xor .u8 (c.toNat : Int) F = X ∧ X = K + 128 := by
        refine ⟨_, rfl, ?_⟩
        rw [← hK]; unfold Wz.cnt
        by_cases hcc : 128 ≤ c.toNat
        · rw [HF.out, if_pos hcc, if_pos hcc, xor8_0]; omega
        · rw [HF.out, if_neg hcc, if_neg hcc, xor8_255]; omega
      subst hXK
      have hK2 : K ≤ 128 := by rw [← hK]; unfold Wz.cnt; split <;> omega
      have HK := Lib.hid hK; clear hK
      have HD2 : Hid (if 8 < K then (n, u, er) = (0, 0, 6) else if r.length < K then (n, u, er) = (0, 0, 5) else if Wz.bad c r then (n, u, er) = (0, 0, 6) else (n, u, er) = (Wz.res c (Wz.num (Wz.digs c r)), K + 1, 0)) := by
        refine Lib.hid ?_
        have hd := HD.out
        simp only [Wz.dec] at hd
        rw [HK.out] at hd
        rw [← hd]
        repeat' split
        all_goals rfl
      go_upto_block 0 with fail
      go_cut [6] (fun s6 wc => (s6 = .int .i64 (K : Int) ∧ w = wc) ∧ Hid (K ≤ 8 ∧ K < N ∧ (Wz.digs c r).length = K ∧ (if (9223372036854775807 < (Wz.num (Wz.digs c r) : Int)) then (n, u, er) = (0, 0, 6) else (n, u, er) = (Wz.res c (Wz.num (Wz.digs c r)), K + 1, 0))))
      case first =>
        by_cases h8 : 8 < K
        · have hd := HD2.out
          rw [if_pos h8] at hd
          simp only [Prod.mk.injEq] at hd
          obtain ⟨rfl, rfl, rfl⟩ := hd
          clear HD HD2
          go_wp2
          go_ret3
          exact ⟨rfl, rfl⟩
        by_cases h5 : N ≤ K
        · have hd := HD2.out
          rw [if_neg h8, if_pos (by have := HN.out; omega)] at hd
          simp only [Prod.mk.injEq] at hd
          obtain ⟨rfl, rfl, rfl⟩ := hd
          clear HD HD2
          go_wp2
          go_ret3
          exact ⟨rfl, rfl⟩
        have hd := HD2.out
        rw [if_neg h8, if_neg (by have := HN.out; omega)] at hd
        have HD3 := Lib.hid hd
        clear HD HD2 hd
        have hdl : (Wz.digs c r).length = K := by unfold Wz.digs; rw [HK.out, List.length_map, List.length_take]; have := HN.out; omega
        have HDL := Lib.hid hdl; clear hdl
        by_cases hK0 : 0 < K
        · have hrl : 0 < r.length := by have := HN.out; omega
          obtain ⟨d, r', hr'⟩ : ∃ d r', r = d :: r' := by
            cases r with
            | nil => simp at hrl
            | cons d r' => exact ⟨d, r', rfl⟩
          have h1 : w.cell? ⟨b, o + 1, none⟩ = some (.int .u8 (d.toNat : Int)) := HC.out 1 _ (by rw [hr']; rfl)
          obtain ⟨e, he⟩ : ∃ e, Wz.dig c d = e := ⟨_, rfl⟩
          have hx : bits .xor .u8 (d.toNat : Int) F = (e.toNat : Int) := by rw [← he]; exact flip_dig c d F HF.out
          have hg : (Wz.digs c r).getD 0 0 = e := by
            unfold Wz.digs; rw [hr', HK.out, show K = K - 1 + 1 from by omega, List.take_succ_cons, List.map_cons, ← he]; rfl
          have HG := Lib.hid hg
          clear hrl he hg hr'
          by_cases h0e : e = 0
          · have hz : ((e.toNat : Int) == 0) = true := by subst h0e; rfl
            have hd := HD3.out
            rw [if_pos (by unfold Wz.bad; rw [HK.out, HG.out]; simp [hK0, h0e])] at hd
            simp only [Prod.mk.injEq] at hd
            obtain ⟨rfl, rfl, rfl⟩ := hd
            clear HD3 h0e
            go_wp2
            go_ret3
            exact ⟨rfl, rfl⟩
          · have hz : ((e.toNat : Int) == 0) = false := by
              rw [beq_eq_false_iff_ne]
              intro h
              exact h0e (UInt8.toNat_inj.1 (by have h0' : (0 : UInt8).toNat = 0 := rfl
                                               omega))
            go_wp2
            go_meet
            refine ⟨⟨rfl, rfl⟩, Lib.hid ⟨by omega, by omega, HDL.out, ?_⟩⟩
            have hd := HD3.out
            unfold Wz.bad at hd
            rw [HK.out, HG.out] at hd
            simpa [h0e] using hd
        · go_wp2
          go_meet
          refine ⟨⟨rfl, rfl⟩, Lib.hid ⟨by omega, by omega, HDL.out, ?_⟩⟩
          have hd := HD3.out
          unfold Wz.bad at hd
          rw [HK.out] at hd
          simpa [hK0] using hd
      case rest =>
        obtain ⟨⟨rfl, rfl⟩, HR⟩ := hcut
        obtain ⟨hK8, hKN, hdl, _⟩ := HR.out
        clear HD HD2
        obtain ⟨ds, hds⟩ : ∃ ds, Wz.digs c r = ds := ⟨_, rfl⟩
        rw [hds] at HR hdl
        have HDS := Lib.hid hds; clear hds
        have HDL := Lib.hid hdl; clear hdl
        obtain ⟨i0, hi, hz0, hz1, hz2⟩ := info_parts info_u8
        have HRD : Hid (Rd w (some ⟨b, o, none⟩) (u8s (c :: r))) := Lib.hid (fun _ => ⟨b, o, rfl, HC.out⟩)
        go_wp2_with ((with_reducible show wpList _ _ _ (⟨some 46, _, _, _, _, _⟩ :: _) _ _); go_must (refine wpList_slice w rfl (.tmp 43) (some (.const (.int .i64 1))) (some (.tmp 45)) 57 rfl 5 i0 1 Try.underlying57 hi hz1 (some ⟨b, o, none⟩) N cap (u8s (c :: r)) rfl HRD.out hcap 1 (K + 1) (.inr ⟨_, .i64, rfl, rfl⟩) (.inr ⟨_, .i64, rfl, rfl⟩) (Nat.le_add_left _ _) hKN ?_); intro A' hrA)
        have hrA2 : Rd w A' (u8s (r.take K)) := by
          have e1 : ((u8s (c :: r)).drop (1 * 1)).take ((K + 1 - 1) * 1) = u8s (r.take K) := by simp [u8s, List.map_take]
          rw [e1] at hrA
          exact hrA
        clear hrA
        go_loopg [7, 48] K (fun g m i wr => ∃ j M : Nat, i = .int .i64 (j : Int) ∧ j ≤ K ∧ K - j ≤ g ∧ m = .int .u64 (M : Int) ∧ Hid (M = Wz.num (ds.take j)) ∧ w = wr)
        case atStart => exact ⟨0, 0, rfl, by omega, by omega, rfl, Lib.hid rfl, rfl⟩
        case round =>
          obtain ⟨j, M, rfl, hj, hjg, rfl, HM, rfl⟩ := hrel
          by_cases hjk : j < K
          · obtain ⟨b', o', rfl, hc'⟩ := hrA2 (by simp [u8s_length]; have := HN.out; omega)
            have hrj : j < r.length := by have := HN.out; omega
            obtain ⟨d, hd⟩ : ∃ d, r[j]? = some d := ⟨r[j], by simp [hrj]⟩
            have hcell : w.cell? ⟨b', o' + j, none⟩ = some (.int .u8 (d.toNat : Int)) := hc' j _ (by simp [u8s, List.getElem?_take, hjk, hd])
            obtain ⟨e, he⟩ : ∃ e, Wz.dig c d = e := ⟨_, rfl⟩
            have hx : bits .xor .u8 (d.toNat : Int) F = (e.toNat : Int) := by rw [← he]; exact flip_dig c d F HF.out
            have hdj : ds[j]? = some e := by
              rw [← HDS.out]; unfold Wz.digs; rw [HK.out]; simp [List.getElem?_take, hjk, hd, he]
            have hM2 : M * 256 + e.toNat = Wz.num (ds.take (j + 1)) := by
              rw [HM.out, List.take_add_one, hdj]
              exact (Wz.num_snoc _ _).symm
            have hM3 : M * 256 + e.toNat < 18446744073709551616 := by
              rw [hM2]
              have h1 := Wz.num_lt (ds.take (j + 1))
              have h2 : (ds.take (j + 1)).length ≤ 8 := by have := List.length_take_le (j + 1) ds; omega
              exact Nat.lt_of_lt_of_le h1 (Nat.le_trans (Nat.pow_le_pow_right (by decide) h2) (by decide))
            have hor : bits .or .u64 ((M : Int) * 256) (e.toNat : Int) = ((M * 256 + e.toNat : Nat) : Int) := or64 M e.toNat hM3 (by have := e.toNat_lt; exact this)
            have hbd : (M : Int) * 256 ≤ 18446744073709551615 := by
              have := Nat.lt_of_le_of_lt (Nat.le_add_right (M * 256) e.toNat) hM3
              omega
            have HM2 := Lib.hid hM2
            have her := u8_lt e
            clear hM2 hM3 hc' hd he hdj hrA2
            go_wp2
            go_roundg (K - (j + 1))
            case measure => omega
            case rel => exact ⟨j + 1, M * 256 + e.toNat, by go_num, by omega, by omega, by simp, HM2, rfl⟩
          · have hjK : j = K := by omega
            have hMn : M = Wz.num ds := by rw [HM.out, List.take_of_length_le (by rw [HDL.out]; omega)]
            obtain ⟨-, -, -, hif⟩ := HR.out
            rw [← hMn] at hif
            have hM64 : (M : Int) ≤ 18446744073709551615 := by
              have h1 := Wz.num_lt ds
              rw [← hMn, HDL.out] at h1
              have h2 : M < 18446744073709551616 := Nat.lt_of_lt_of_le h1 (Nat.le_trans (Nat.pow_le_pow_right (by decide) hK8) (by decide))
              omega
            clear hMn
            have HI := Lib.hid hif; clear hif hrA2 hjK hj hjg
            by_cases hbig : 9223372036854775807 < (M : Int)
            · have hd := HI.out
              rw [if_pos hbig] at hd
              simp only [Prod.mk.injEq] at hd
              obtain ⟨rfl, rfl, rfl⟩ := hd
              have h63 : 0 < (M : Int) / 9223372036854775808 := by omega
              clear HI HR
              go_wp2
              go_ret3
              exact ⟨rfl, rfl⟩
            · have hd := HI.out
              rw [if_neg hbig] at hd
              simp only [Prod.mk.injEq] at hd
              obtain ⟨hn, rfl, rfl⟩ := hd
              have HNN := Lib.hid hn; clear hn
              have h63 : (M : Int) / 9223372036854775808 ≤ 0 := by omega
              have hnot := not64 (M : Int) (by omega) (by omega)
              clear HI HR
              by_cases hcc : 128 ≤ c.toNat
              · have hF' : F = 0 := by rw [HF.out, if_pos hcc]
                subst hF'
                go_wp2
                go_ret3
                exact ⟨by rw [HNN.out]; unfold Wz.res; rw [if_pos hcc]; rfl, rfl⟩
              · have hF' : F = 255 := by rw [HF.out, if_neg hcc]
                subst hF'
                have hw : wrap64 (18446744073709551615 - (M : Int)) = -1 - (M : Int) := by unfold wrap64; omega
                go_wp2
                go_ret3
                exact ⟨by rw [HNN.out]; unfold Wz.res; rw [if_neg hcc]; rfl, rfl⟩

set_option maxRecDepth 100000 in
set_option maxHeartbeats 400000 in
/-- Same compares two byte sequences -/
theorem same_calls (A B : Option Addr) (N M c d : Nat) (l m : List UInt8) (w : World) (hl : Rd w A (u8s l)) (hm : Rd w B (u8s m)) (hNl : l.length = N) (hMm : m.length = M) (hll : N ≤ 140737488351232) (hml : M ≤ 140737488351232) (r : Bool) (hb : r = true ↔ l = m) :
    Calls Try.prog 39 #[.slice A N c, .slice B M d] w fun e w' => e = .returned (.bool r) ∧ Drawn w w' := by
  subst hNl; subst hMm
  have HB := Lib.hid hb; clear hb
  by_cases hlen : (l.length : Int) = m.length
  · have hne : ((l.length : Int) != m.length) = false := by rw [hlen]; simp
    have hle : l.length = m.length := by omega
    have HE := Lib.hid hle; clear hle hlen
    obtain ⟨N, hN⟩ : ∃ N, l.length = N := ⟨_, rfl⟩
    obtain ⟨M, hM⟩ : ∃ M, m.length = M := ⟨_, rfl⟩
    rw [hN, hM] at hne HE
    rw [hN] at hll ⊢
    rw [hM] at hml ⊢
    have HN := Lib.hid hN; have HM := Lib.hid hM; clear hN hM
    go_enter Try.func39, Try.ntmps39
    go_wp2
    go_loopg [5] N (fun g i wr => ∃ k : Nat, i = .int .i64 (k : Int) ∧ k ≤ N ∧ N - k ≤ g ∧ Hid (l.take k = m.take k) ∧ Drawn w wr)
    case atStart => exact ⟨0, rfl, by omega, by omega, Lib.hid rfl, Drawn.refl _⟩
    case round =>
      obtain ⟨k, rfl, hk, hg, HT, ⟨q, rfl⟩⟩ := hrel
      by_cases hkN : k < N
      · have h1 : k < l.length := by rw [HN.out]; exact hkN
        have h2 : k < m.length := by rw [HM.out, ← HE.out]; exact hkN
        have hkM : k < M := by rw [← HE.out]; exact hkN
        obtain ⟨b1, o1, rfl, hc1⟩ := hl (by rw [u8s_length]; omega)
        obtain ⟨b2, o2, rfl, hc2⟩ := hm (by rw [u8s_length]; omega)
        have hx1 := hc1 k _ (u8s_at h1)
        have hx2 := hc2 k _ (u8s_at h2)
        have ht1 : l.take (k + 1) = l.take k ++ [l.getD k 0] := by rw [List.take_add_one, List.getD, List.getElem?_eq_getElem h1]; rfl
        have ht2 : m.take (k + 1) = m.take k ++ [m.getD k 0] := by rw [List.take_add_one, List.getD, List.getElem?_eq_getElem h2]; rfl
        have hlk : l.getD k 0 = l[k] := by simp [List.getD, h1]
        have hmk : m.getD k 0 = m[k] := by simp [List.getD, h2]
        obtain ⟨x, hx⟩ : ∃ x, l.getD k 0 = x := ⟨_, rfl⟩
        obtain ⟨y, hy⟩ : ∃ y, m.getD k 0 = y := ⟨_, rfl⟩
        rw [hx] at hx1 ht1
        rw [hy] at hx2 ht2
        have HT1 := Lib.hid ht1; have HT2 := Lib.hid ht2
        have HX := Lib.hid hx; have HY := Lib.hid hy
        clear ht1 ht2 hc1 hc2 hl hm hx hy hlk hmk h1 h2
        by_cases hxy : x = y
        · subst hxy
          have hz : ((x.toNat : Int) != x.toNat) = false := by simp
          go_wp2
          go_quiet (fail)
          go_wp2
          go_roundg (N - (k + 1))
          case measure => omega
          case rel => exact ⟨k + 1, by go_num, by omega, by omega, Lib.hid (by rw [HT1.out, HT2.out, HT.out]), by repeat (first | exact Drawn.refl _ | refine Drawn.step ?_ _)⟩
        · have hz : ((x.toNat : Int) != y.toNat) = true := by
            rw [bne_iff_ne]; intro h; exact hxy (UInt8.toNat_inj.1 (by omega))
          have hr : r = false := by
            cases r with
            | false => rfl
            | true =>
              have := HB.out.1 rfl
              exact absurd (by rw [← HX.out, ← HY.out, this]) hxy
          subst hr
          clear hxy
          go_wp2
          go_quiet (fail)
          go_wp2
          go_ret
          exact ⟨rfl, by repeat (first | exact Drawn.refl _ | refine Drawn.step ?_ _)⟩
      · have hr : r = true := HB.out.2 (by
          have := HT.out
          have hk2 : k = N := by omega
          rwa [List.take_of_length_le (by rw [HN.out]; omega), List.take_of_length_le (by rw [HM.out, ← HE.out]; omega)] at this)
        subst hr
        go_wp2
        go_ret
        exact ⟨rfl, by repeat (first | exact Drawn.refl _ | refine Drawn.step ?_ _)⟩
  · have hne : ((l.length : Int) != m.length) = true := by rw [bne_iff_ne]; exact hlen
    have hr : r = false := by
      cases r with
      | false => rfl
      | true => exact absurd (by rw [HB.out.1 rfl]) hlen
    subst hr
    clear hlen
    go_enter Try.func39, Try.ntmps39
    go_wp2
    go_ret
    exact ⟨rfl, Drawn.refl _⟩

end Go.Proofs.Ytcjeclddpkinkaa
