/- The contracts of Bytes, input, short, Of: of the program and of the reference. -/
import Derived.Test.YtcjeclddpkinkaaDoorD7
import Derived.Test.YtcjeclddpkinkaaDoorDn
set_option linter.unusedSimpArgs false
set_option linter.unusedVariables false
namespace Go.Proofs.YtcjeclddpkinkaaDoor
open Go.RowKit
open Wz (Dg)

set_option maxRecDepth 100000 in
set_option maxHeartbeats 400000 in
/-- wire.Bytes -/
theorem bytes_calls (s : ByteArray) (w : World) (hs : s.size ≤ 140737488351232) : Calls Tryd.prog 133 #[.string s] w (RetB w (Wz.encB s.data.toList)) := by
  have hl := Wz.enc_length (s.size : Int) (by omega) (by omega)
  go_enter Tryd.func133, Tryd.ntmps133
  go_wp2_with fail
  refine (int_calls _ _ (by omega) (by omega)).mono ?_
  rintro e w1 ⟨v, rfl, hown, hb⟩
  have hbs := hb.size
  go_wp2_with (at_builtin; go_must (refine wpList_app8str _ rfl (.tmp 5) (.tmp 6) rfl w.heap.size v (Wz.enc (s.size : Int)) rfl hown s rfl (by omega) hbs ?_); intro v' w' h1 _ h3)
  go_ret
  exact ⟨_, rfl, by unfold Wz.encB; rw [Array.length_toList]; exact h1, h3 _ _ (Nat.le_refl _) hb⟩

set_option maxRecDepth 100000 in
set_option maxHeartbeats 400000 in
/-- the reference's Bytes -/
theorem refbytes_calls (s : ByteArray) (w : World) (hs : s.size ≤ 140737488351232) : Calls Tryd.prog 134 #[.string s] w (RetB w (Wz.encB s.data.toList)) := by
  have hl := Wz.enc_length (s.size : Int) (by omega) (by omega)
  have hsm : s.size ≤ maxLen := by simp only [maxLen]; omega
  go_enter Tryd.func134, Tryd.ntmps134
  go_wp2_with fail
  refine (refint_calls _ _ (by omega) (by omega)).mono ?_
  rintro e w1 ⟨v, rfl, hown, hb⟩
  have hbs := hb.size
  go_wp2_with (first | ((with_reducible show wpList _ _ _ (⟨some 7, _, _, _, _, _⟩ :: _) _ _); go_must (refine wpList_bytes8 _ rfl (.tmp 6) rfl s rfl hsm ?_); intro A c w2 hrd hsc hcm hb2; have hown2 := hown.below hb2; have hb3 := below_then hb hb.size hb2; have hbs3 := hb3.size) | (at_builtin; go_must (refine wpList_app8 _ rfl (.tmp 5) (.tmp 7) rfl w.heap.size v (Wz.enc (s.size : Int)) rfl hown2 A c s.data.toList rfl hrd (by rw [Array.length_toList]; exact (by omega : (Wz.enc (s.size : Int)).length + s.size ≤ 140737488355328)) hbs3 ?_); intro v' w' h1 _ h3))
  go_ret
  exact ⟨_, rfl, by unfold Wz.encB; rw [Array.length_toList]; exact h1, h3 _ _ (Nat.le_refl _) hb3⟩

/-! ### strings in a row -/
def strs (l : List (List UInt8)) : List Value := l.map fun s => .string (str s)
theorem strs_length (l : List (List UInt8)) : (strs l).length = l.length := by simp [strs]
theorem strs_at {l : List (List UInt8)} {j : Nat} (h : j < l.length) : (strs l)[j]? = some (.string (str (l[j]))) := by simp [strs, h]
theorem str_data (l : List UInt8) : (str l).data.toList = l := by simp [str]

def inpI (tag : Int) (ps : List (List UInt8)) : List UInt8 := Mk.inp (tag % 256).toNat ps
theorem encB_len (s : List UInt8) (h : s.length ≤ 1000000) : (Wz.encB s).length ≤ 1000009 := by
  have := Wz.enc_length (s.length : Int) (by omega) (by omega)
  unfold Wz.encB
  rw [List.length_append]; omega
theorem flat_len (ps : List (List UInt8)) (h : ∀ p ∈ ps, p.length ≤ 1000000) : (ps.flatMap Wz.encB).length ≤ 1000009 * ps.length := by
  induction ps with
  | nil => simp
  | cons p ps ih =>
    have h1 := encB_len p (h p (by simp))
    have h2 := ih (fun q hq => h q (by simp [hq]))
    rw [List.flatMap_cons, List.length_append, List.length_cons]; omega
theorem flat_take {ps : List (List UInt8)} {k : Nat} (h : k < ps.length) : (ps.take (k + 1)).flatMap Wz.encB = (ps.take k).flatMap Wz.encB ++ Wz.encB ps[k] := by
  rw [List.take_add_one, List.getElem?_eq_getElem h, List.flatMap_append]
  simp only [Option.toList_some, List.flatMap_cons, List.flatMap_nil, List.append_nil]
theorem inpI_len (tag : Int) (ps : List (List UInt8)) (h : ∀ p ∈ ps, p.length ≤ 1000000) : (inpI tag ps).length ≤ 1 + 1000009 * ps.length := by
  have := flat_len ps h
  simp only [inpI, Mk.inp, List.length_cons]; omega
theorem tag_byte (tag : Int) : tag % 256 = ((UInt8.ofNat (tag % 256).toNat).toNat : Int) := by rw [UInt8.toNat_ofNat']; omega

set_option maxRecDepth 100000 in
set_option maxHeartbeats 400000 in
/-- digest.input -/
theorem input_calls (tag : Int) (A : Option Addr) (N c : Nat) (ps : List (List UInt8)) (w : World) (hr : Rd w A (strs ps)) (hN : ps.length = N) (hN2 : N ≤ 1000) (hps : ∀ p ∈ ps, p.length ≤ 1000000) :
    Calls Tryd.prog 89 #[.int .i64 tag, .slice A N c] w (RetB w (inpI tag ps)) := by
  have hb := tag_byte tag
  have HI : Hid (inpI tag ps = UInt8.ofNat (tag % 256).toNat :: ps.flatMap Wz.encB) := Lib.hid rfl
  obtain ⟨t, ht⟩ : ∃ t, UInt8.ofNat (tag % 256).toNat = t := ⟨_, rfl⟩
  rw [ht] at hb HI
  have HB := Lib.hid hb
  have HN := Lib.hid hN
  have HPS := Lib.hid hps
  have HR := Lib.hid hr
  clear ht hb hN hps hr
  go_enter Tryd.func89, Tryd.ntmps89
  go_wp2_with fail
  have hown := Own8.new w w.heap.size (Nat.le_refl _) (X := tag % 256) (c := t) HB.out
  have HO := Lib.hid hown
  clear hown
  go_loopg [5, 13] N (fun g v i wr => ∃ k : Nat, i = .int .i64 (k : Int) ∧ k ≤ N ∧ N - k ≤ g ∧ Own8 wr w.heap.size v (t :: (ps.take k).flatMap Wz.encB) ∧ Below w.heap.size w wr)
  case atStart => exact ⟨0, rfl, by omega, by omega, by simpa using HO.out, (Below.refl _ _).alloc (Nat.le_refl _) _⟩
  case round =>
    obtain ⟨k, rfl, hk, hg, ho, hb⟩ := hrel
    by_cases hkN : k < N
    · have hkl : k < ps.length := by rw [HN.out]; exact hkN
      obtain ⟨b, o, rfl, hc⟩ := HR.out.below hb (by rw [strs_length]; omega)
      have hck := hc k _ (strs_at hkl)
      have HT := Lib.hid (flat_take hkl)
      have hpk := HPS.out ps[k] (List.getElem_mem _)
      have hfl := flat_len (ps.take k) (fun p hp => HPS.out p (List.mem_of_mem_take hp))
      have htl : (ps.take k).length ≤ 1000 := by rw [List.length_take]; omega
      have hee := encB_len ps[k] hpk
      have hBC := fun w => bytes_calls (str ps[k]) w (by rw [str_size]; omega)
      rw [str_data] at hBC
      have HBC := Lib.hid hBC
      have hl1 : (t :: (ps.take k).flatMap Wz.encB).length ≤ 1000009001 := by simp only [List.length_cons]; omega
      obtain ⟨s, hs⟩ : ∃ s, ps[k] = s := ⟨_, rfl⟩
      rw [hs] at hck HT hee HBC
      obtain ⟨l, hl⟩ : ∃ l, t :: (ps.take k).flatMap Wz.encB = l := ⟨_, rfl⟩
      rw [hl] at ho hl1
      have HLL := Lib.hid hl
      obtain ⟨q, hq⟩ : ∃ q, Wz.encB s = q := ⟨_, rfl⟩
      rw [hq] at HT hee HBC
      have HO2 := Lib.hid ho
      clear hBC hc hs hl hq hpk hfl htl ho
      go_wp2_with (first
        | ((with_reducible refine (HBC.out _).mono ?_); rintro e w1 ⟨v1, rfl, ho1, hb1⟩; obtain ⟨A1, c1, rfl, hc1, hm1, hr1⟩ := ho1.slice; have ho3 := HO2.out.below hb1; have hb3 := below_then hb hb.size hb1; have hs3 := hb3.size; clear ho1)
        | ((with_reducible show wpList _ _ _ (⟨some 20, _, _, _, _, _⟩ :: _) _ _); go_must (refine wpList_app8 _ rfl (.tmp 17) (.tmp 19) rfl w.heap.size _ l rfl ho3 A1 c1 q rfl hr1 (by omega) hs3 ?_); intro v4 w4 ho4 hg4 hb4; have B4 := hb4 _ _ (Nat.le_refl _) hb3; clear hg4 hb4)
        | fail)
      go_roundg (N - (k + 1))
      case measure => omega
      case rel =>
        refine ⟨k + 1, by go_num, by omega, by omega, ?_, B4⟩
        rw [HT.out, ← List.cons_append, HLL.out]
        exact ho4
    · have hkk : k = N := by omega
      subst hkk
      go_wp2_with fail
      go_ret
      refine ⟨_, rfl, ?_, hb⟩
      rw [List.take_of_length_le (by rw [HN.out]; exact Nat.le_refl _)] at ho
      rw [HI.out]
      exact ho

set_option maxRecDepth 100000 in
set_option maxHeartbeats 400000 in
/-- the reference's Input -/
theorem refinput_calls (tag : Int) (A : Option Addr) (N c : Nat) (ps : List (List UInt8)) (w : World) (hr : Rd w A (strs ps)) (hN : ps.length = N) (hN2 : N ≤ 1000) (hps : ∀ p ∈ ps, p.length ≤ 1000000) :
    Calls Tryd.prog 90 #[.int .i64 tag, .slice A N c] w (RetB w (inpI tag ps)) := by
  have hb := tag_byte tag
  have HI : Hid (inpI tag ps = UInt8.ofNat (tag % 256).toNat :: ps.flatMap Wz.encB) := Lib.hid rfl
  obtain ⟨t, ht⟩ : ∃ t, UInt8.ofNat (tag % 256).toNat = t := ⟨_, rfl⟩
  rw [ht] at hb HI
  have HB := Lib.hid hb
  have HN := Lib.hid hN
  have HPS := Lib.hid hps
  have HR := Lib.hid hr
  clear ht hb hN hps hr
  go_enter Tryd.func90, Tryd.ntmps90
  go_wp2_with fail
  have hown := Own8.new w w.heap.size (Nat.le_refl _) (X := tag % 256) (c := t) HB.out
  have HO := Lib.hid hown
  clear hown
  go_loopg [5, 6] N (fun g v i wr => ∃ k : Nat, i = .int .i64 (k : Int) ∧ k ≤ N ∧ N - k ≤ g ∧ Own8 wr w.heap.size v (t :: (ps.take k).flatMap Wz.encB) ∧ Below w.heap.size w wr)
  case atStart => exact ⟨0, rfl, by omega, by omega, by simpa using HO.out, (Below.refl _ _).alloc (Nat.le_refl _) _⟩
  case round =>
    obtain ⟨k, rfl, hk, hg, ho, hb⟩ := hrel
    by_cases hkN : k < N
    · have hkl : k < ps.length := by rw [HN.out]; exact hkN
      obtain ⟨b, o, rfl, hc⟩ := HR.out.below hb (by rw [strs_length]; omega)
      have hck := hc k _ (strs_at hkl)
      have HT := Lib.hid (flat_take hkl)
      have hpk := HPS.out ps[k] (List.getElem_mem _)
      have hfl := flat_len (ps.take k) (fun p hp => HPS.out p (List.mem_of_mem_take hp))
      have htl : (ps.take k).length ≤ 1000 := by rw [List.length_take]; omega
      have hee := encB_len ps[k] hpk
      have hBC := fun w => refbytes_calls (str ps[k]) w (by rw [str_size]; omega)
      rw [str_data] at hBC
      have HBC := Lib.hid hBC
      have hl1 : (t :: (ps.take k).flatMap Wz.encB).length ≤ 1000009001 := by simp only [List.length_cons]; omega
      obtain ⟨s, hs⟩ : ∃ s, ps[k] = s := ⟨_, rfl⟩
      rw [hs] at hck HT hee HBC
      obtain ⟨l, hl⟩ : ∃ l, t :: (ps.take k).flatMap Wz.encB = l := ⟨_, rfl⟩
      rw [hl] at ho hl1
      have HLL := Lib.hid hl
      obtain ⟨q, hq⟩ : ∃ q, Wz.encB s = q := ⟨_, rfl⟩
      rw [hq] at HT hee HBC
      have HO2 := Lib.hid ho
      clear hBC hc hs hl hq hpk hfl htl ho
      go_wp2_with (first
        | ((with_reducible refine (HBC.out _).mono ?_); rintro e w1 ⟨v1, rfl, ho1, hb1⟩; obtain ⟨A1, c1, rfl, hc1, hm1, hr1⟩ := ho1.slice; have ho3 := HO2.out.below hb1; have hb3 := below_then hb hb.size hb1; have hs3 := hb3.size; clear ho1)
        | ((with_reducible show wpList _ _ _ (⟨some 22, _, _, _, _, _⟩ :: _) _ _); go_must (refine wpList_app8 _ rfl (.tmp 16) (.tmp 21) rfl w.heap.size _ l rfl ho3 A1 c1 q rfl hr1 (by omega) hs3 ?_); intro v4 w4 ho4 hg4 hb4; have B4 := hb4 _ _ (Nat.le_refl _) hb3; clear hg4 hb4)
        | fail)
      go_roundg (N - (k + 1))
      case measure => omega
      case rel =>
        refine ⟨k + 1, by go_num, by omega, by omega, ?_, B4⟩
        rw [HT.out, ← List.cons_append, HLL.out]
        exact ho4
    · have hkk : k = N := by omega
      subst hkk
      go_wp2_with fail
      go_ret
      refine ⟨_, rfl, ?_, hb⟩
      rw [List.take_of_length_le (by rw [HN.out]; exact Nat.le_refl _)] at ho
      rw [HI.out]
      exact ho
end Go.Proofs.YtcjeclddpkinkaaDoor
