/- The contracts of count, Bytes and GetBytes, of wire and of the reference. -/
import Derived.Test.YtcjeclddpkinkaaWk
import Derived.Test.YtcjeclddpkinkaaWr
import Derived.Test.YtcjeclddpkinkaaB2
set_option linter.unusedSimpArgs false
set_option linter.unusedVariables false
namespace Go.Proofs.Ytcjeclddpkinkaa
open Go.RowKit

/-- a length, a place and an error; with an error the rest may be anything -/
def RetC (w : World) (n at_ er : Nat) (e : Ending) (w' : World) : Prop := (∃ n' at' : Int, e = .returned (.tuple #[.int .i64 n', .int .i64 at', .int .i64 (er : Int)]) ∧ (er = 0 → n' = (n : Int) ∧ at' = (at_ : Int))) ∧ w = w'

set_option maxRecDepth 100000 in
set_option maxHeartbeats 400000 in
theorem count_calls (A : Option Addr) (N cap : Nat) (l : List UInt8) (w : World) (hr : Rd w A (u8s l)) (hlen : N ≤ 140737488351232) (hcap : N ≤ cap) (hcm : cap ≤ maxLen) (hNl : l.length = N) (s : Nat) (S : Int) (hS : S = (s : Int)) (hs0 : 1 ≤ S) (hs1 : S ≤ 16) {n u er : Nat} (h : Wz.count s l = (n, u, er)) :
    Calls Try.prog 64 #[.slice A N cap, .int .i64 S] w (RetC w n u er) := by
  obtain ⟨q, hq⟩ : ∃ q, Wz.dec l = q := ⟨_, rfl⟩
  obtain ⟨D, U, R⟩ := q
  have hle := Wz.dec_le l
  unfold Wz.count at h
  rw [hq] at h hle
  simp only at h hle
  rw [hNl] at h hle
  have HQ := Lib.hid hq; have HH := Lib.hid h; have HNL := Lib.hid hNl; have HS := Lib.hid hS
  clear hq h hNl hS
  go_enter Try.func64, Try.ntmps64
  go_wp2_with fail
  refine (getint_calls _ _ _ l _ hr hlen hcap hcm HNL.out HQ.out).mono ?_
  rintro e w1 ⟨rfl, rfl⟩
  by_cases hR : R = 0
  · have hRz : ((R : Int) != 0) = false := by subst hR; rfl
    have hh := HH.out
    rw [if_neg (by omega)] at hh
    by_cases hD : D < 0
    · rw [if_pos hD] at hh
      simp only [Prod.mk.injEq] at hh
      obtain ⟨rfl, rfl, rfl⟩ := hh
      clear hR HH
      go_wp2
      go_ret3
      exact ⟨⟨_, _, rfl, fun h => by cases h⟩, rfl⟩
    · rw [if_neg hD] at hh
      have hdiv : ((N : Int) - (U : Int)) / S = (((N - U) / s : Nat) : Int) := by
        rw [HS.out]
        have : ((N : Int) - (U : Int)) = ((N - U : Nat) : Int) := by omega
        rw [this]
        exact (Int.natCast_ediv _ _).symm
      have HDV := Lib.hid hdiv; clear hdiv
      by_cases hb : (N - U) / s < D.toNat
      · rw [if_pos hb] at hh
        simp only [Prod.mk.injEq] at hh
        obtain ⟨rfl, rfl, rfl⟩ := hh
        have hb2 : ((N : Int) - (U : Int)) / S < D := by rw [HDV.out]; omega
        have hS0 : ¬ S = 0 := by omega
        clear hR HH hb
        go_wp2
        go_ret3
        exact ⟨⟨_, _, rfl, fun h => by cases h⟩, rfl⟩
      · rw [if_neg hb] at hh
        simp only [Prod.mk.injEq] at hh
        obtain ⟨rfl, rfl, rfl⟩ := hh
        have hb2 : ¬ ((N : Int) - (U : Int)) / S < D := by rw [HDV.out]; omega
        have hS0 : ¬ S = 0 := by omega
        have HR := Lib.hid hR
        clear hR HH hb
        go_wp2
        go_ret3
        exact ⟨⟨_, _, by rw [HR.out]; rfl, fun _ => ⟨by omega, rfl⟩⟩, rfl⟩
  · have hRz : ((R : Int) != 0) = true := by rw [bne_iff_ne]; omega
    have hh := HH.out
    rw [if_pos hR] at hh
    simp only [Prod.mk.injEq] at hh
    obtain ⟨rfl, rfl, rfl⟩ := hh
    clear hR HH
    go_wp2
    go_ret3
    exact ⟨⟨_, _, rfl, fun h => by subst h; cases hRz⟩, rfl⟩

set_option maxRecDepth 100000 in
set_option maxHeartbeats 400000 in
theorem refcount_calls (A : Option Addr) (N cap : Nat) (l : List UInt8) (w : World) (hr : Rd w A (u8s l)) (hlen : N ≤ 140737488351232) (hcap : N ≤ cap) (hcm : cap ≤ maxLen) (hNl : l.length = N) (s : Nat) (S : Int) (hS : S = (s : Int)) (hs0 : 1 ≤ S) (hs1 : S ≤ 16) {n u er : Nat} (h : Wz.count s l = (n, u, er)) :
    Calls Try.prog 65 #[.slice A N cap, .int .i64 S] w (RetGB w (n : Int) u er) := by
  obtain ⟨q, hq⟩ : ∃ q, Wz.dec l = q := ⟨_, rfl⟩
  obtain ⟨D, U, R⟩ := q
  have hle := Wz.dec_le l
  unfold Wz.count at h
  rw [hq] at h hle
  simp only at h hle
  rw [hNl] at h hle
  have HQ := Lib.hid hq; have HH := Lib.hid h; have HNL := Lib.hid hNl; have HS := Lib.hid hS
  clear hq h hNl hS
  go_enter Try.func65, Try.ntmps65
  go_wp2_with fail
  refine (refgetint_calls _ _ _ l _ hr hlen hcap hcm HNL.out HQ.out).mono ?_
  rintro e w1 ⟨rfl, hb1⟩
  by_cases hR : R = 0
  · have hRz : ((R : Int) != 0) = false := by subst hR; rfl
    have hh := HH.out
    rw [if_neg (by omega)] at hh
    by_cases hD : D < 0
    · rw [if_pos hD] at hh
      simp only [Prod.mk.injEq] at hh
      obtain ⟨rfl, rfl, rfl⟩ := hh
      clear hR HH
      go_wp2
      go_ret3
      exact ⟨rfl, hb1⟩
    · rw [if_neg hD] at hh
      have hs : 0 < s := by have := HS.out; omega
      have hdm := Nat.div_add_mod (N - U) s
      by_cases hb : (N - U) / s < D.toNat
      · rw [if_pos hb] at hh
        simp only [Prod.mk.injEq] at hh
        obtain ⟨rfl, rfl, rfl⟩ := hh
        by_cases hN : (N : Int) < D
        · clear hR HH hb hdm
          go_wp2
          go_ret3
          exact ⟨rfl, hb1⟩
        · have hb2 : (N : Int) - (U : Int) < D * S := by
            rw [HS.out]
            have h1 : N - U < D.toNat * s := (Nat.div_lt_iff_lt_mul hs).1 hb
            have h2 : ((D.toNat * s : Nat) : Int) = D * (s : Int) := by rw [Int.natCast_mul]; congr 1; omega
            omega
          have hb3 : D * S ≤ 140737488351232 * 16 := by
            have h1 : D * S ≤ 140737488351232 * S := Int.mul_le_mul_of_nonneg_right (by omega) (by omega)
            omega
          have hb4 : 0 ≤ D * S := Int.mul_nonneg (by omega) (by omega)
          clear hR HH hb hdm
          go_wp2
          go_ret3
          exact ⟨rfl, hb1⟩
      · rw [if_neg hb] at hh
        simp only [Prod.mk.injEq] at hh
        obtain ⟨rfl, rfl, rfl⟩ := hh
        have h1 : D.toNat * s ≤ N - U := by
          have := Nat.mul_le_mul_right s (Nat.le_of_not_lt hb)
          have h2 := Nat.div_mul_le_self (N - U) s
          omega
        have h2 : ((D.toNat * s : Nat) : Int) = D * (s : Int) := by rw [Int.natCast_mul]; congr 1; omega
        have h3 : D.toNat ≤ D.toNat * s := Nat.le_mul_of_pos_right _ hs
        have hb2 : ¬ (N : Int) - (U : Int) < D * S := by rw [HS.out]; omega
        have hN : ¬ (N : Int) < D := by omega
        have hb4 : 0 ≤ D * S := Int.mul_nonneg (by omega) (by omega)
        have hDD : ((D.toNat : Nat) : Int) = D := by omega
        have HR := Lib.hid hR; have HDD := Lib.hid hDD
        clear hR HH hb hdm h1 h2 h3 hDD
        go_wp2
        go_ret3
        exact ⟨by rw [HDD.out]; rfl, hb1⟩
  · have hRz : ((R : Int) != 0) = true := by rw [bne_iff_ne]; omega
    have hh := HH.out
    rw [if_pos hR] at hh
    simp only [Prod.mk.injEq] at hh
    obtain ⟨rfl, rfl, rfl⟩ := hh
    clear hR HH
    go_wp2
    go_ret3
    exact ⟨rfl, hb1⟩

set_option maxRecDepth 100000 in
set_option maxHeartbeats 400000 in
/-- wire.Bytes -/
theorem bytes_calls (s : ByteArray) (w : World) (hs : s.size ≤ 140737488351232) : Calls Try.prog 42 #[.string s] w (RetB w (Wz.encB s.data.toList)) := by
  have hl := Wz.enc_length (s.size : Int) (by omega) (by omega)
  go_enter Try.func42, Try.ntmps42
  go_wp2_with fail
  refine (int_calls _ _ (by omega) (by omega)).mono ?_
  rintro e w1 ⟨v, rfl, hown, hb⟩
  have hbs := hb.size
  go_wp2_with (at_builtin; go_must (refine wpList_app8str _ rfl (.tmp 5) (.tmp 6) rfl w.heap.size v (Wz.enc (s.size : Int)) rfl hown s rfl (by omega) hbs ?_); intro v' w' h1 _ h3)
  go_ret
  exact ⟨_, rfl, by unfold Wz.encB; rw [Array.length_toList]; exact h1, h3 _ _ (Nat.le_refl _) hb⟩

set_option maxRecDepth 100000 in
set_option maxHeartbeats 400000 in
/-- the reference's Bytes -/
theorem refbytes_calls (s : ByteArray) (w : World) (hs : s.size ≤ 140737488351232) : Calls Try.prog 43 #[.string s] w (RetB w (Wz.encB s.data.toList)) := by
  have hl := Wz.enc_length (s.size : Int) (by omega) (by omega)
  have hsm : s.size ≤ maxLen := by simp only [maxLen]; omega
  go_enter Try.func43, Try.ntmps43
  go_wp2_with fail
  refine (refint_calls _ _ (by omega) (by omega)).mono ?_
  rintro e w1 ⟨v, rfl, hown, hb⟩
  have hbs := hb.size
  go_wp2_with (first | ((with_reducible show wpList _ _ _ (⟨some 7, _, _, _, _, _⟩ :: _) _ _); go_must (refine wpList_bytes8 _ rfl (.tmp 6) rfl s rfl hsm ?_); intro A c w2 hrd hsc hcm hb2; have hown2 := hown.below hb2; have hb3 := below_then hb hb.size hb2; have hbs3 := hb3.size) | (at_builtin; go_must (refine wpList_app8 _ rfl (.tmp 5) (.tmp 7) rfl w.heap.size v (Wz.enc (s.size : Int)) rfl hown2 A c s.data.toList rfl hrd (by rw [Array.length_toList]; exact (by omega : (Wz.enc (s.size : Int)).length + s.size ≤ 140737488355328)) hbs3 ?_); intro v' w' h1 _ h3))
  go_ret
  exact ⟨_, rfl, by unfold Wz.encB; rw [Array.length_toList]; exact h1, h3 _ _ (Nat.le_refl _) hb3⟩

/-- a string, a number of bytes and an error -/
def RetS (w : World) (l : List UInt8) (u er : Nat) (e : Ending) (w' : World) : Prop := e = .returned (.tuple #[.string (str l), .int .i64 (u : Int), .int .i64 (er : Int)]) ∧ Below w.heap.size w w'

set_option maxRecDepth 100000 in
set_option maxHeartbeats 400000 in
/-- wire.GetBytes -/
theorem getbytes_calls (A : Option Addr) (N cap : Nat) (l : List UInt8) (w : World) (hr : Rd w A (u8s l)) (hlen : N ≤ 140737488351232) (hcap : N ≤ cap) (hcm : cap ≤ maxLen) (hNl : l.length = N) {s : List UInt8} {u er : Nat} (h : Wz.getB l = (s, u, er)) :
    Calls Try.prog 50 #[.slice A N cap] w (RetS w s u er) := by
  obtain ⟨q, hq⟩ : ∃ q, Wz.count 1 l = q := ⟨_, rfl⟩
  obtain ⟨D, U, R⟩ := q
  have hok := @Wz.count_ok 1 l
  unfold Wz.getB at h
  rw [hq] at h hok
  simp only at h hok
  have HQ := Lib.hid hq; have HH := Lib.hid h; have HNL := Lib.hid hNl; have HOK := Lib.hid hok
  clear hq h hNl hok
  obtain ⟨i0, hi, hz0, hz1, hz2⟩ := info_parts info_u8
  go_enter Try.func50, Try.ntmps50
  go_wp2_with fail
  refine (count_calls _ _ _ l _ hr hlen hcap hcm HNL.out 1 1 rfl (by omega) (by omega) HQ.out).mono ?_
  rintro e w1 ⟨⟨n', at', rfl, hz⟩, rfl⟩
  by_cases hR : R = 0
  · have hRz : ((R : Int) != 0) = false := by subst hR; rfl
    obtain ⟨rfl, rfl⟩ := hz hR
    have hh := HH.out
    rw [if_neg (by omega)] at hh
    simp only [Prod.mk.injEq] at hh
    obtain ⟨hs, rfl, rfl⟩ := hh
    obtain ⟨_, _, _, hfit, _⟩ := HOK.out hR
    rw [HNL.out] at hfit
    have HS := Lib.hid hs
    have hin : U + D ≤ N := by omega
    clear hs hR HH hfit hz
    have hl2 : ((l.drop U).take D).length = U + D - U := by rw [List.length_take, List.length_drop, HNL.out]; omega
    have e1 : ((u8s l).drop (U * 1)).take ((U + D - U) * 1) = u8s ((l.drop U).take D) := by simp [u8s, List.map_take, List.map_drop]
    rw [HS.out] at hl2 e1
    have HE1 := Lib.hid e1; have HL2 := Lib.hid hl2
    clear e1 hl2
    go_wp2_with (first | ((with_reducible show wpList _ _ _ (⟨some 22, _, _, _, _, _⟩ :: _) _ _); go_must (refine wpList_slice w rfl (.tmp 17) (some (.tmp 18)) (some (.tmp 21)) 57 rfl 5 i0 1 Try.underlying57 hi hz1 A N cap (u8s l) rfl hr hcap U (U + D) (.inr ⟨_, .i64, rfl, rfl⟩) (.inr ⟨_, .i64, rfl, rfl⟩) (Nat.le_add_right _ _) hin ?_); intro A' hrA; rw [HE1.out] at hrA) | ((with_reducible show wpList _ _ _ (⟨some 23, _, _, _, _, _⟩ :: _) _ _); go_must (refine wpList_str8 w rfl (.tmp 22) rfl A' _ _ s rfl hrA HL2.out ?_)))
    go_ret3
    exact ⟨rfl, Below.refl _ _⟩
  · have hRz : ((R : Int) != 0) = true := by rw [bne_iff_ne]; omega
    have hh := HH.out
    rw [if_pos hR] at hh
    simp only [Prod.mk.injEq] at hh
    obtain ⟨rfl, rfl, rfl⟩ := hh
    clear hR HH
    go_wp2
    go_ret3
    exact ⟨rfl, Below.refl _ _⟩

set_option maxRecDepth 100000 in
set_option maxHeartbeats 400000 in
/-- the reference's GetBytes -/
theorem refgetbytes_calls (A : Option Addr) (N cap : Nat) (l : List UInt8) (w : World) (hr : Rd w A (u8s l)) (hlen : N ≤ 140737488351232) (hcap : N ≤ cap) (hcm : cap ≤ maxLen) (hNl : l.length = N) {s : List UInt8} {u er : Nat} (h : Wz.getB l = (s, u, er)) :
    Calls Try.prog 51 #[.slice A N cap] w (RetS w s u er) := by
  obtain ⟨q, hq⟩ : ∃ q, Wz.count 1 l = q := ⟨_, rfl⟩
  obtain ⟨D, U, R⟩ := q
  have hok := @Wz.count_ok 1 l
  unfold Wz.getB at h
  rw [hq] at h hok
  simp only at h hok
  have HQ := Lib.hid hq; have HH := Lib.hid h; have HNL := Lib.hid hNl; have HOK := Lib.hid hok
  clear hq h hNl hok
  obtain ⟨i0, hi, hz0, hz1, hz2⟩ := info_parts info_u8
  go_enter Try.func51, Try.ntmps51
  go_wp2_with fail
  refine (refcount_calls _ _ _ l _ hr hlen hcap hcm HNL.out 1 1 rfl (by omega) (by omega) HQ.out).mono ?_
  rintro e w1 ⟨rfl, hb1⟩
  by_cases hR : R = 0
  · have hRz : ((R : Int) != 0) = false := by subst hR; rfl
    have hh := HH.out
    rw [if_neg (by omega)] at hh
    simp only [Prod.mk.injEq] at hh
    obtain ⟨hs, rfl, rfl⟩ := hh
    obtain ⟨_, _, _, hfit, _⟩ := HOK.out hR
    rw [HNL.out] at hfit
    have HS := Lib.hid hs
    have hin : U + D ≤ N := by omega
    clear hs hR HH hfit
    have hr1 := hr.below hb1
    have hl2 : ((l.drop U).take D).length = U + D - U := by rw [List.length_take, List.length_drop, HNL.out]; omega
    have e1 : ((u8s l).drop (U * 1)).take ((U + D - U) * 1) = u8s ((l.drop U).take D) := by simp [u8s, List.map_take, List.map_drop]
    rw [HS.out] at hl2 e1
    have HE1 := Lib.hid e1; have HL2 := Lib.hid hl2
    clear e1 hl2
    go_wp2_with (first | ((with_reducible show wpList _ _ _ (⟨some 22, _, _, _, _, _⟩ :: _) _ _); go_must (refine wpList_slice w1 rfl (.tmp 17) (some (.tmp 18)) (some (.tmp 21)) 57 rfl 5 i0 1 Try.underlying57 hi hz1 A N cap (u8s l) rfl hr1 hcap U (U + D) (.inr ⟨_, .i64, rfl, rfl⟩) (.inr ⟨_, .i64, rfl, rfl⟩) (Nat.le_add_right _ _) hin ?_); intro A' hrA; rw [HE1.out] at hrA) | ((with_reducible show wpList _ _ _ (⟨some 23, _, _, _, _, _⟩ :: _) _ _); go_must (refine wpList_str8 w1 rfl (.tmp 22) rfl A' _ _ s rfl hrA HL2.out ?_)))
    go_ret3
    exact ⟨rfl, hb1⟩
  · have hRz : ((R : Int) != 0) = true := by rw [bne_iff_ne]; omega
    have hh := HH.out
    rw [if_pos hR] at hh
    simp only [Prod.mk.injEq] at hh
    obtain ⟨rfl, rfl, rfl⟩ := hh
    clear hR HH
    go_wp2
    go_ret3
    exact ⟨rfl, hb1⟩
end Go.Proofs.Ytcjeclddpkinkaa
