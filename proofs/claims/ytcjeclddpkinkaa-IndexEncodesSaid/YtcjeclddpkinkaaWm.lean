/- The contracts of Ints and GetInts, of wire and of the reference. -/
import Derived.Test.YtcjeclddpkinkaaWl
set_option linter.unusedSimpArgs false
set_option linter.unusedVariables false
namespace Go.Proofs.Ytcjeclddpkinkaa
open Go.RowKit

namespace Wz
def In64 (l : List Int) : Prop := ∀ x ∈ l, -9223372036854775808 ≤ x ∧ x ≤ 9223372036854775807
theorem In64.get {l : List Int} (h : In64 l) {k : Nat} (hk : k < l.length) : -9223372036854775808 ≤ l.getD k 0 ∧ l.getD k 0 ≤ 9223372036854775807 := by
  have : l.getD k 0 = l[k] := by simp [List.getD, hk]
  rw [this]
  exact h _ (List.getElem_mem hk)
theorem encs_length {l : List Int} (h : In64 l) : (encs l).length ≤ 9 * l.length := by
  induction l with
  | nil => simp [encs]
  | cons x l ih =>
    have h1 := enc_length x (h x (by simp)).1 (h x (by simp)).2
    have h2 := ih (fun y hy => h y (by simp [hy]))
    have e : encs (x :: l) = enc x ++ encs l := rfl
    rw [e, List.length_append, List.length_cons]
    omega
theorem encs_take {l : List Int} {k : Nat} (hk : k < l.length) : encs (l.take (k + 1)) = encs (l.take k) ++ enc (l.getD k 0) := by
  have e : l.take (k + 1) = l.take k ++ [l.getD k 0] := by rw [List.take_add_one, List.getD, List.getElem?_eq_getElem hk]; rfl
  rw [e, encs_append]
  simp [encs]
end Wz

set_option maxRecDepth 100000 in
set_option maxHeartbeats 400000 in
/-- wire.Ints -/
theorem ints_calls (A : Option Addr) (N cap : Nat) (l : List Int) (w : World) (hr : Rd w A (i64s l)) (hlen : N ≤ 1000000000000) (hNl : l.length = N) (hin : Wz.In64 l) :
    Calls Try.prog 44 #[.slice A N cap] w (RetB w (Wz.encL l)) := by
  have hel := Wz.enc_length (N : Int) (by omega) (by omega)
  have HNL := Lib.hid hNl; have HIN := Lib.hid hin
  clear hNl hin
  go_enter Try.func44, Try.ntmps44
  go_wp2_with fail
  refine (int_calls _ _ (by omega) (by omega)).mono ?_
  rintro e w1 ⟨v0, rfl, hown0, hb0⟩
  go_wp2_with fail
  go_loopg [3, 11] N (fun g v i wr => ∃ k : Nat, i = .int .i64 (k : Int) ∧ k ≤ N ∧ N - k ≤ g ∧ Own8 wr w.heap.size v (Wz.enc (N : Int) ++ Wz.encs (l.take k)) ∧ Below w.heap.size w wr)
  case atStart => exact ⟨0, rfl, by omega, by omega, by simpa [Wz.encs] using hown0, hb0⟩
  case round =>
    obtain ⟨k, rfl, hk, hg, hown, hb⟩ := hrel
    clear hown0 hb0
    by_cases hkN : k < N
    · have hkl : k < l.length := by rw [HNL.out]; exact hkN
      obtain ⟨b, o, rfl, hc⟩ := hr.below hb (by rw [i64s_length]; omega)
      have hx := hc k _ (i64s_at hkl)
      have hxr := HIN.out.get hkl
      have hlt : (Wz.enc (N : Int) ++ Wz.encs (l.take k)).length ≤ 9 + 9 * N := by
        have h1 := Wz.encs_length (l := l.take k) (fun y hy => HIN.out y (List.mem_of_mem_take hy))
        rw [List.length_append]
        have h2 : (l.take k).length ≤ N := by rw [List.length_take]; omega
        omega
      have HT := Lib.hid (Wz.encs_take hkl)
      obtain ⟨x, hxx⟩ : ∃ x, l.getD k 0 = x := ⟨_, rfl⟩
      rw [hxx] at hx hxr HT
      have hxl := Wz.enc_length x hxr.1 hxr.2
      clear hxx hc
      have hbs := hb.size
      go_wp2_with fail
      refine (int_calls x _ hxr.1 hxr.2).mono ?_
      rintro e w2 ⟨v2, rfl, hown2, hb2⟩
      obtain ⟨A2, c2, rfl, hn2, hc2, hrd2⟩ := hown2.slice
      have hown3 := hown.below hb2
      have hb3 := below_then hb hb.size hb2
      have hbs3 := hb3.size
      clear hx hxr
      go_wp2_with (at_builtin; go_must (refine wpList_app8 _ rfl (.tmp 15) (.tmp 17) rfl w.heap.size _ _ rfl hown3 A2 c2 (Wz.enc x) rfl hrd2 (by omega) hbs3 ?_); intro v' w' h1 _ h3)
      go_roundg (N - (k + 1))
      case measure => omega
      case rel => exact ⟨k + 1, by go_num, by omega, by omega, by rw [HT.out, ← List.append_assoc]; exact h1, h3 _ _ (Nat.le_refl _) hb3⟩
    · have hkk : k = N := by omega
      go_wp2
      go_ret
      exact ⟨_, rfl, by unfold Wz.encL; rw [HNL.out]; rw [List.take_of_length_le (by rw [HNL.out]; omega)] at hown; exact hown, hb⟩

set_option maxRecDepth 100000 in
set_option maxHeartbeats 400000 in
/-- the reference's Ints -/
theorem refints_calls (A : Option Addr) (N cap : Nat) (l : List Int) (w : World) (hr : Rd w A (i64s l)) (hlen : N ≤ 1000000000000) (hNl : l.length = N) (hin : Wz.In64 l) :
    Calls Try.prog 45 #[.slice A N cap] w (RetB w (Wz.encL l)) := by
  have hel := Wz.enc_length (N : Int) (by omega) (by omega)
  have HNL := Lib.hid hNl; have HIN := Lib.hid hin
  clear hNl hin
  go_enter Try.func45, Try.ntmps45
  go_wp2_with fail
  refine (refint_calls _ _ (by omega) (by omega)).mono ?_
  rintro e w1 ⟨v0, rfl, hown0, hb0⟩
  go_wp2_with fail
  go_loopg [3, 4] N (fun g v i wr => ∃ k : Nat, i = .int .i64 (k : Int) ∧ k ≤ N ∧ N - k ≤ g ∧ Own8 wr w.heap.size v (Wz.enc (N : Int) ++ Wz.encs (l.take k)) ∧ Below w.heap.size w wr)
  case atStart => exact ⟨0, rfl, by omega, by omega, by simpa [Wz.encs] using hown0, hb0⟩
  case round =>
    obtain ⟨k, rfl, hk, hg, hown, hb⟩ := hrel
    clear hown0 hb0
    by_cases hkN : k < N
    · have hkl : k < l.length := by rw [HNL.out]; exact hkN
      obtain ⟨b, o, rfl, hc⟩ := hr.below hb (by rw [i64s_length]; omega)
      have hx := hc k _ (i64s_at hkl)
      have hxr := HIN.out.get hkl
      have hlt : (Wz.enc (N : Int) ++ Wz.encs (l.take k)).length ≤ 9 + 9 * N := by
        have h1 := Wz.encs_length (l := l.take k) (fun y hy => HIN.out y (List.mem_of_mem_take hy))
        rw [List.length_append]
        have h2 : (l.take k).length ≤ N := by rw [List.length_take]; omega
        omega
      have HT := Lib.hid (Wz.encs_take hkl)
      obtain ⟨x, hxx⟩ : ∃ x, l.getD k 0 = x := ⟨_, rfl⟩
      rw [hxx] at hx hxr HT
      have hxl := Wz.enc_length x hxr.1 hxr.2
      clear hxx hc
      have hbs := hb.size
      go_wp2_with fail
      refine (refint_calls x _ hxr.1 hxr.2).mono ?_
      rintro e w2 ⟨v2, rfl, hown2, hb2⟩
      obtain ⟨A2, c2, rfl, hn2, hc2, hrd2⟩ := hown2.slice
      have hown3 := hown.below hb2
      have hb3 := below_then hb hb.size hb2
      have hbs3 := hb3.size
      clear hx hxr
      go_wp2_with (at_builtin; go_must (refine wpList_app8 _ rfl (.tmp 14) (.tmp 19) rfl w.heap.size _ _ rfl hown3 A2 c2 (Wz.enc x) rfl hrd2 (by omega) hbs3 ?_); intro v' w' h1 _ h3)
      go_roundg (N - (k + 1))
      case measure => omega
      case rel => exact ⟨k + 1, by go_num, by omega, by omega, by rw [HT.out, ← List.append_assoc]; exact h1, h3 _ _ (Nat.le_refl _) hb3⟩
    · have hkk : k = N := by omega
      go_wp2
      go_ret
      exact ⟨_, rfl, by unfold Wz.encL; rw [HNL.out]; rw [List.take_of_length_le (by rw [HNL.out]; omega)] at hown; exact hown, hb⟩

/-- what the closure of wire.reader does: one integer read at the place that it keeps -/
def RetN (w : World) (B p : Nat) (x : Int) (u er : Nat) (e : Ending) (w' : World) : Prop := e = .returned (.tuple #[.int .i64 x, .int .i64 ((p + u : Nat) : Int), .int .i64 (er : Int)]) ∧
  w'.heap[B]? = some (.cells #[.int .i64 ((p + u : Nat) : Int)] 3 (0, 0)) ∧ w.grownBy w' (some B)

theorem cell_of_block {w : World} {B : Nat} {v : Value} {t : TypeId} (h : w.heap[B]? = some (.cells #[v] t (0, 0))) : w.cell? ⟨B, 0, none⟩ = some v := by simp [World.cell?, h]
theorem free_of_block {w : World} {B : Nat} {v : Value} {t : TypeId} (h : w.heap[B]? = some (.cells #[v] t (0, 0))) : w.frozen? ⟨B, 0, none⟩ = false := by simp [World.frozen?, h]
theorem block_setCell {w : World} {B : Nat} {v : Value} {t : TypeId} (h : w.heap[B]? = some (.cells #[v] t (0, 0))) (u : Value) : (w.setCell ⟨B, 0, none⟩ u).heap[B]? = some (.cells #[u] t (0, 0)) := by
  simp [World.setCell, Array.getElem?_modify, h]
theorem grown_setCell (w : World) (B o : Nat) (u : Value) : w.grownBy (w.setCell ⟨B, o, none⟩ u) (some B) :=
  ⟨rfl, rfl, rfl, by simp [World.setCell], fun k hk hne => Below.heap_setCell w _ _ _ (by intro e; exact hne (by rw [e]))⟩
theorem grown_drewN {w w' : World} {r : Option Nat} (h : w.grownBy w' r) (n : Nat) : w.grownBy (w'.drewN n) r := ⟨h.os, h.tape, h.output, h.size, h.block⟩

set_option maxRecDepth 100000 in
set_option maxHeartbeats 400000 in
/-- the closure of wire.reader -/
theorem next_calls (A : Option Addr) (N cap : Nat) (l : List UInt8) (w : World) (hr : Rd w A (u8s l)) (hlen : N ≤ 140737488351232) (hcap : N ≤ cap) (hcm : cap ≤ maxLen) (hNl : l.length = N) (B0 B p : Nat) (hp : p ≤ N)
    (h0 : w.heap[B0]? = some (.cells #[.slice A N cap] 57 (0, 0))) (h1 : w.heap[B]? = some (.cells #[.int .i64 (p : Int)] 3 (0, 0))) {x : Int} {u er : Nat} (h : Wz.dec (l.drop p) = (x, u, er)) :
    Calls Try.prog 70 #[.pointer (some ⟨B0, 0, none⟩), .pointer (some ⟨B, 0, none⟩)] w (RetN w B p x u er) := by
  obtain ⟨i0, hi, hz0, hz1, hz2⟩ := info_parts info_u8
  have c0 := cell_of_block h0
  have c1 := cell_of_block h1
  have f1 := free_of_block h1
  have hle := Wz.dec_le (l.drop p)
  rw [h, List.length_drop, hNl] at hle
  have hpu : p + u ≤ N := by have := hle.1; simp only at this; omega
  have hl2 : (l.drop p).length = N - p := by rw [List.length_drop, hNl]
  have HH := Lib.hid h; have HNL := Lib.hid hNl; have H1 := Lib.hid h1; have HL2 := Lib.hid hl2
  have e1 : ((u8s l).drop (p * 1)).take ((N - p) * 1) = u8s (l.drop p) := by
    rw [Nat.mul_one, Nat.mul_one, List.take_of_length_le (by rw [List.length_drop, u8s_length, hNl]; omega)]
    simp [u8s, List.map_drop]
  have HE1 := Lib.hid e1
  clear h hNl h0 h1 hle hl2 e1
  go_enter Try.func70, Try.ntmps70
  go_wp2_with (first | ((with_reducible show wpList _ _ _ (⟨some 11, _, _, _, _, _⟩ :: _) _ _); go_must (refine wpList_slice w rfl (.tmp 9) (some (.tmp 10)) Option.none 57 rfl 5 i0 1 Try.underlying57 hi hz1 A N cap (u8s l) rfl hr hcap p N (.inr ⟨_, .i64, rfl, rfl⟩) (.inl ⟨rfl, rfl⟩) hp (Nat.le_refl _) ?_); intro A' hrA; rw [HE1.out] at hrA) | (go_at_call 48; refine (getint_calls A' (N - p) (cap - p) (l.drop p) _ hrA (by omega) (by omega) (by simp only [maxLen] at hcm ⊢; omega) HL2.out HH.out).mono ?_; rintro e w1 ⟨rfl, rfl⟩))
  go_quiet (fail)
  go_wp2
  go_ret3
  refine ⟨by rw [show ((p + u : Nat) : Int) = (p : Int) + (u : Int) from by omega]; rfl, ?_, grown_drewN (grown_setCell _ _ _ _) _⟩
  rw [show ((p + u : Nat) : Int) = (p : Int) + (u : Int) from by omega]
  exact block_setCell H1.out _

set_option maxHeartbeats 400000 in
/-- wire.reader -/
theorem reader_calls (A : Option Addr) (N cap p : Nat) (w : World) :
    Calls Try.prog 66 #[.slice A N cap, .int .i64 (p : Int)] w fun e w' => e = .returned (.func (.func 70) #[] #[.pointer (some ⟨w.heap.size, 0, none⟩), .pointer (some ⟨w.heap.size + 1, 0, none⟩)]) ∧ (w.alloc (.cells #[.slice A N cap] 57)).alloc (.cells #[.int .i64 (p : Int)] 3) = w' := by
  go_enter Try.func66, Try.ntmps66
  go_wp2
  go_ret
  exact ⟨rfl, rfl⟩

/-- a list of integers, a number of bytes and an error -/
def RetL (w : World) (l : List Int) (u er : Nat) (e : Ending) (w' : World) : Prop := ∃ v, e = .returned (.tuple #[v, .int .i64 (u : Int), .int .i64 (er : Int)]) ∧ Own64 w' w.heap.size v l ∧ Below w.heap.size w w'

set_option maxRecDepth 100000 in
set_option maxHeartbeats 800000 in
/-- wire.GetInts -/
theorem getints_calls (A : Option Addr) (N cap : Nat) (l : List UInt8) (w : World) (hr : Rd w A (u8s l)) (hlen : N ≤ 1000000000000) (hcap : N ≤ cap) (hcm : cap ≤ maxLen) (hNl : l.length = N) {s : List Int} {u er : Nat} (h : Wz.getL l = (s, u, er)) :
    Calls Try.prog 52 #[.slice A N cap] w (RetL w s u er) := by
  obtain ⟨q, hq⟩ : ∃ q, Wz.count 1 l = q := ⟨_, rfl⟩
  obtain ⟨D, U, R⟩ := q
  have hok := @Wz.count_ok 1 l
  unfold Wz.getL at h
  rw [hq] at h hok
  simp only at h hok
  have HQ := Lib.hid hq; have HH := Lib.hid h; have HNL := Lib.hid hNl; have HOK := Lib.hid hok
  clear hq h hNl hok
  go_enter Try.func52, Try.ntmps52
  go_wp2_with fail
  refine (count_calls _ _ _ l _ hr (by omega) hcap hcm HNL.out 1 1 rfl (by omega) (by omega) HQ.out).mono ?_
  rintro e w1 ⟨⟨n', at', rfl, hz⟩, rfl⟩
  by_cases hR : R = 0
  · have hRz : ((R : Int) != 0) = false := by subst hR; rfl
    obtain ⟨rfl, rfl⟩ := hz hR
    have hh := HH.out
    rw [if_neg (by omega)] at hh
    obtain ⟨_, _, _, hfit, _⟩ := HOK.out hR
    rw [HNL.out] at hfit
    have HM : Hid (Wz.after [] U (Wz.many D (l.drop U)) = (s, u, er)) := Lib.hid hh
    clear hR HH hh hz
    go_wp2_with (go_at_call 66; refine (reader_calls A N cap U w).mono ?_; rintro e w1 ⟨rfl, rfl⟩)
    go_loopg [6, 9, 26] D (fun g a v i wr => ∃ j p : Nat, ∃ xs : List Int, i = .int .i64 (j : Int) ∧ j ≤ D ∧ D - j ≤ g ∧ a = .int .i64 (p : Int) ∧ p ≤ N ∧ xs.length = j ∧ Own64 wr (w.heap.size + 2) v xs ∧ Below w.heap.size w wr ∧
      Hid (wr.heap[w.heap.size]? = some (.cells #[.slice A N cap] 57 (0, 0))) ∧ Hid (wr.heap[w.heap.size + 1]? = some (.cells #[.int .i64 (p : Int)] 3 (0, 0))) ∧ Hid (Wz.after xs p (Wz.many (D - j) (l.drop p)) = (s, u, er)) ∧ w.heap.size + 2 ≤ wr.heap.size)
    case atStart =>
      refine ⟨0, U, [], rfl, by omega, by omega, rfl, by omega, rfl, Own64.nil _ _, ((Below.refl _ w).alloc (Nat.le_refl _) _).alloc (by simp) _, ?_, ?_, HM, by simp⟩
      · exact Lib.hid (by rw [Below.heap_alloc _ _ _ (by simp)]; exact heap_alloc_new _ _)
      · have := heap_alloc_new (w.alloc (.cells #[.slice A N cap] 57)) (.cells #[.int .i64 (U : Int)] 3)
        rw [World.size_alloc] at this
        exact Lib.hid this
    case round =>
      obtain ⟨j, p, xs, rfl, hj, hg, rfl, hp, hxl, hown, hb, H0, H1, HA, hsz⟩ := hrel
      have HXL := Lib.hid hxl
      clear hxl HM
      by_cases hjD : j < D
      · obtain ⟨dd, hdd⟩ : ∃ dd, Wz.dec (l.drop p) = dd := ⟨_, rfl⟩
        obtain ⟨x, du, e⟩ := dd
        have hdl := Wz.dec_le (l.drop p)
        rw [hdd, List.length_drop, HNL.out] at hdl
        simp only at hdl
        have hpd : p + du ≤ N := by omega
        have hA := HA.out
        rw [show D - j = (D - j - 1) + 1 from by omega] at hA
        have HDD := Lib.hid hdd
        have hr1 := hr.below hb
        by_cases he : e = 0
        · have he0 : ((e : Int) != 0) = false := by subst he; rfl
          rw [Wz.after_step _ _ _ (by rw [hdd]; exact he), hdd, List.drop_drop] at hA
          simp only at hA
          have HA2 := Lib.hid hA
          clear hA hdd he
          go_wp2_with fail
          refine (next_calls A N cap l _ hr1 (by omega) hcap hcm HNL.out _ _ p hp H0.out H1.out HDD.out).mono ?_
          rintro e2 w2 ⟨rfl, hB, hgr⟩
          have hbw : Below w.heap.size w w2 := hb.grown hgr hb.size (fun k hk => by cases hk; omega)
          have hown2 : Own64 w2 (w.heap.size + 2) u9 xs := hown.kept hgr (by
            cases hv : u9.ownBlock with
            | none => exact .inl rfl
            | some k => exact .inr (by have := hown.base_le k hv; intro e; cases e; omega))
          have h0' : w2.heap[w.heap.size]? = some (.cells #[.slice A N cap] 57 (0, 0)) := by rw [hgr.block _ (by omega) (by simp)]; exact H0.out
          have H0' := Lib.hid h0'; have HB := Lib.hid hB
          have hsz2 : w.heap.size + 2 ≤ w2.heap.size := Nat.le_trans hsz hgr.size
          have hxlt : xs.length < 17592186044416 := by rw [HXL.out]; omega
          clear h0' hB hr1
          go_wp2_with (at_builtin; go_must (refine wpList_app64one _ rfl (.tmp 37) (.tmp 39) rfl (w.heap.size + 2) _ xs x rfl hown2 rfl hxlt hsz2 ?_); intro v' w' h1 hg1 h3)
          go_roundg (D - (j + 1))
          case measure => omega
          case rel =>
            have hs2 := hg1.size
            rw [World.size_alloc] at hs2
            have hk : Below (w.heap.size + 2) w2 w' := h3 _ _ (Nat.le_refl _) (Below.refl _ _)
            refine ⟨j + 1, p + du, xs ++ [x], by go_num, by omega, by omega, by rw [show ((p + du : Nat) : Int) = (p : Int) + (du : Int) from by omega], hpd, by simp [HXL.out], h1, hbw.trans (hk.mono (by omega)), ?_, ?_, ?_, by omega⟩
            · exact Lib.hid (by rw [hk.block _ (by omega)]; exact H0'.out)
            · exact Lib.hid (by rw [hk.block _ (by omega)]; exact HB.out)
            · exact Lib.hid (by rw [show D - (j + 1) = D - j - 1 from by omega]; exact HA2.out)
        · have he0 : ((e : Int) != 0) = true := by rw [bne_iff_ne]; omega
          rw [Wz.after_err _ _ _ (by rw [hdd]; exact he), hdd] at hA
          simp only [Prod.mk.injEq] at hA
          obtain ⟨rfl, rfl, rfl⟩ := hA
          clear hdd he
          go_wp2_with fail
          refine (next_calls A N cap l _ hr1 (by omega) hcap hcm HNL.out _ _ p hp H0.out H1.out HDD.out).mono ?_
          rintro e2 w2 ⟨rfl, hB, hgr⟩
          have hbw : Below w.heap.size w w2 := hb.grown hgr hb.size (fun k hk => by cases hk; omega)
          clear hB
          go_wp2
          go_ret3
          exact ⟨_, rfl, Own64.nil _ _, hbw⟩
      · have hjD2 : D - j = 0 := by omega
        have hA := HA.out
        rw [hjD2, Wz.after_end] at hA
        simp only [Prod.mk.injEq] at hA
        obtain ⟨rfl, rfl, rfl⟩ := hA
        go_wp2
        go_ret3
        exact ⟨_, rfl, hown.rebase (by omega), hb⟩
  · have hRz : ((R : Int) != 0) = true := by rw [bne_iff_ne]; omega
    have hh := HH.out
    rw [if_pos hR] at hh
    simp only [Prod.mk.injEq] at hh
    obtain ⟨rfl, rfl, rfl⟩ := hh
    clear hR HH
    go_wp2
    go_ret3
    exact ⟨_, rfl, Own64.nil _ _, Below.refl _ _⟩

set_option maxRecDepth 100000 in
set_option maxHeartbeats 800000 in
/-- the reference's GetInts -/
theorem refgetints_calls (A : Option Addr) (N cap : Nat) (l : List UInt8) (w : World) (hr : Rd w A (u8s l)) (hlen : N ≤ 1000000000000) (hcap : N ≤ cap) (hcm : cap ≤ maxLen) (hNl : l.length = N) {s : List Int} {u er : Nat} (h : Wz.getL l = (s, u, er)) :
    Calls Try.prog 53 #[.slice A N cap] w (RetL w s u er) := by
  obtain ⟨i0, hi, hz0, hz1, hz2⟩ := info_parts info_u8
  obtain ⟨q, hq⟩ : ∃ q, Wz.count 1 l = q := ⟨_, rfl⟩
  obtain ⟨D, U, R⟩ := q
  have hok := @Wz.count_ok 1 l
  unfold Wz.getL at h
  rw [hq] at h hok
  simp only at h hok
  have HQ := Lib.hid hq; have HH := Lib.hid h; have HNL := Lib.hid hNl; have HOK := Lib.hid hok
  clear hq h hNl hok
  go_enter Try.func53, Try.ntmps53
  go_wp2_with fail
  refine (refcount_calls _ _ _ l _ hr (by omega) hcap hcm HNL.out 1 1 rfl (by omega) (by omega) HQ.out).mono ?_
  rintro e w1 ⟨rfl, hb1⟩
  by_cases hR : R = 0
  · have hRz : ((R : Int) != 0) = false := by subst hR; rfl
    have hh := HH.out
    rw [if_neg (by omega)] at hh
    obtain ⟨_, _, _, hfit, _⟩ := HOK.out hR
    rw [HNL.out] at hfit
    have HM : Hid (Wz.after [] U (Wz.many D (l.drop U)) = (s, u, er)) := Lib.hid hh
    clear hR HH hh
    go_wp2
    go_loopg [6, 8, 9] D (fun g a v i wr => ∃ j p : Nat, ∃ xs : List Int, i = .int .i64 (j : Int) ∧ j ≤ D ∧ D - j ≤ g ∧ a = .int .i64 (p : Int) ∧ p ≤ N ∧ xs.length = j ∧ Own64 wr w.heap.size v xs ∧ Below w.heap.size w wr ∧
      Hid (Wz.after xs p (Wz.many (D - j) (l.drop p)) = (s, u, er)))
    case atStart => exact ⟨0, U, [], rfl, by omega, by omega, rfl, by omega, rfl, Own64.nil _ _, hb1, HM⟩
    case round =>
      obtain ⟨j, p, xs, rfl, hj, hg, rfl, hp, hxl, hown, hb, HA⟩ := hrel
      have HXL := Lib.hid hxl
      clear hxl HM hb1
      by_cases hjD : j < D
      · obtain ⟨dd, hdd⟩ : ∃ dd, Wz.dec (l.drop p) = dd := ⟨_, rfl⟩
        obtain ⟨x, du, e⟩ := dd
        have hdl := Wz.dec_le (l.drop p)
        rw [hdd, List.length_drop, HNL.out] at hdl
        simp only at hdl
        have hpd : p + du ≤ N := by omega
        have hA := HA.out
        rw [show D - j = (D - j - 1) + 1 from by omega] at hA
        have HDD := Lib.hid hdd
        have hr1 := hr.below hb
        have hbs := hb.size
        have hl2 : (l.drop p).length = N - p := by rw [List.length_drop, HNL.out]
        have HL2 := Lib.hid hl2
        have e1 : ((u8s l).drop (p * 1)).take ((N - p) * 1) = u8s (l.drop p) := by
          rw [Nat.mul_one, Nat.mul_one, List.take_of_length_le (by rw [List.length_drop, u8s_length, HNL.out]; omega)]
          simp [u8s, List.map_drop]
        have HE1 := Lib.hid e1
        clear hl2 e1
        by_cases he : e = 0
        · have he0 : ((e : Int) != 0) = false := by subst he; rfl
          rw [Wz.after_step _ _ _ (by rw [hdd]; exact he), hdd, List.drop_drop] at hA
          simp only at hA
          have HA2 := Lib.hid hA
          have hxlt : xs.length < 17592186044416 := by rw [HXL.out]; omega
          clear hA hdd he
          go_wp2_with (first | ((with_reducible show wpList _ _ _ (⟨some 30, _, _, _, _, _⟩ :: _) _ _); go_must (refine wpList_slice wr rfl (.tmp 28) (some (.tmp 29)) Option.none 57 rfl 5 i0 1 Try.underlying57 hi hz1 A N cap (u8s l) rfl hr1 hcap p N (.inr ⟨_, .i64, rfl, rfl⟩) (.inl ⟨rfl, rfl⟩) hp (Nat.le_refl _) ?_); intro A' hrA; rw [HE1.out] at hrA) | (go_at_call 49; refine (refgetint_calls A' (N - p) (cap - p) (l.drop p) _ hrA (by omega) (by omega) (by simp only [maxLen] at hcm ⊢; omega) HL2.out HDD.out).mono ?_; rintro e2 w2 ⟨rfl, hb2⟩; have hown2 := hown.below hb2; have hbw := below_then hb hb.size hb2; have hbs2 := hbw.size) | (at_builtin; go_must (refine wpList_app64one _ rfl (.tmp 38) (.tmp 40) rfl w.heap.size _ xs x rfl hown2 rfl hxlt hbs2 ?_); intro v' w' h1 hg1 h3))
          go_roundg (D - (j + 1))
          case measure => omega
          case rel =>
            refine ⟨j + 1, p + du, xs ++ [x], by go_num, by omega, by omega, by rw [show ((p + du : Nat) : Int) = (p : Int) + (du : Int) from by omega], hpd, by simp [HXL.out], h1, h3 _ _ (Nat.le_refl _) hbw, ?_⟩
            exact Lib.hid (by rw [show D - (j + 1) = D - j - 1 from by omega]; exact HA2.out)
        · have he0 : ((e : Int) != 0) = true := by rw [bne_iff_ne]; omega
          rw [Wz.after_err _ _ _ (by rw [hdd]; exact he), hdd] at hA
          simp only [Prod.mk.injEq] at hA
          obtain ⟨rfl, rfl, rfl⟩ := hA
          clear hdd he
          go_wp2_with (first | ((with_reducible show wpList _ _ _ (⟨some 30, _, _, _, _, _⟩ :: _) _ _); go_must (refine wpList_slice wr rfl (.tmp 28) (some (.tmp 29)) Option.none 57 rfl 5 i0 1 Try.underlying57 hi hz1 A N cap (u8s l) rfl hr1 hcap p N (.inr ⟨_, .i64, rfl, rfl⟩) (.inl ⟨rfl, rfl⟩) hp (Nat.le_refl _) ?_); intro A' hrA; rw [HE1.out] at hrA) | (go_at_call 49; refine (refgetint_calls A' (N - p) (cap - p) (l.drop p) _ hrA (by omega) (by omega) (by simp only [maxLen] at hcm ⊢; omega) HL2.out HDD.out).mono ?_; rintro e2 w2 ⟨rfl, hb2⟩; have hbw := below_then hb hb.size hb2))
          go_ret3
          exact ⟨_, rfl, Own64.nil _ _, hbw⟩
      · have hjD2 : D - j = 0 := by omega
        have hA := HA.out
        rw [hjD2, Wz.after_end] at hA
        simp only [Prod.mk.injEq] at hA
        obtain ⟨rfl, rfl, rfl⟩ := hA
        go_wp2
        go_ret3
        exact ⟨_, rfl, hown, hb⟩
  · have hRz : ((R : Int) != 0) = true := by rw [bne_iff_ne]; omega
    have hh := HH.out
    rw [if_pos hR] at hh
    simp only [Prod.mk.injEq] at hh
    obtain ⟨rfl, rfl, rfl⟩ := hh
    clear hR HH
    go_wp2
    go_ret3
    exact ⟨_, rfl, Own64.nil _ _, hb1⟩
end Go.Proofs.Ytcjeclddpkinkaa
