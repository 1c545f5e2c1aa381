/- The plain law of layer 1: what the decoders answer at the encoders' output, at a prefix, and that there is one encoding alone. No program in sight. -/
import Derived.Test.YtcjeclddpkinkaaWo
set_option linter.unusedSimpArgs false
set_option linter.unusedVariables false
namespace Go.Proofs.Ytcjeclddpkinkaa
namespace Wz

/-! ### round trips -/
theorem dec_of (n : Int) (h0 : -9223372036854775808 ≤ n) (h1 : n ≤ 9223372036854775807) (t : List UInt8) : dec (enc n ++ t) = (n, (enc n).length, 0) := dec_enc n h0 h1 t

theorem count_of (s m : Nat) (hs : 0 < s) (hm : (m : Int) ≤ 9223372036854775807) (t : List UInt8) (ht : s * m ≤ t.length) : count s (enc (m : Int) ++ t) = (m, (enc (m : Int)).length, 0) := by
  have hd := dec_of (m : Int) (by omega) hm t
  unfold count
  rw [hd]
  simp only
  rw [if_neg (by simp), if_neg (by omega), if_neg]
  · simp
  · rw [List.length_append, Nat.add_sub_cancel_left, Int.toNat_natCast]
    have : m ≤ t.length / s := by rw [Nat.le_div_iff_mul_le hs, Nat.mul_comm]; exact ht
    omega

theorem getB_of (l : List UInt8) (hl : (l.length : Int) ≤ 9223372036854775807) (t : List UInt8) : getB (encB l ++ t) = (l, (encB l).length, 0) := by
  have hc := count_of 1 l.length (by omega) hl (l ++ t) (by rw [List.length_append]; omega)
  unfold getB encB
  rw [List.append_assoc, hc]
  simp

theorem many_of (l : List Int) (h : In64 l) : ∀ t : List UInt8, many l.length (encs l ++ t) = (l, (encs l).length, 0) := by
  induction l with
  | nil => intro t; simp [many, encs]
  | cons x l ih =>
    intro t
    have hx := h x (by simp)
    have hl := ih (fun y hy => h y (by simp [hy])) t
    have e : encs (x :: l) = enc x ++ encs l := rfl
    have hd := dec_of x hx.1 hx.2 (encs l ++ t)
    rw [e, List.append_assoc, List.length_cons]
    unfold many
    rw [hd]
    simp only
    rw [List.drop_left, hl]
    simp

theorem encs_ge (l : List Int) (h : In64 l) : l.length ≤ (encs l).length := by
  induction l with
  | nil => simp
  | cons x l ih =>
    have h1 := enc_length x (h x (by simp)).1 (h x (by simp)).2
    have h2 := ih (fun y hy => h y (by simp [hy]))
    have e : encs (x :: l) = enc x ++ encs l := rfl
    rw [e, List.length_append, List.length_cons]
    omega

theorem getL_of (l : List Int) (h : In64 l) (hl : (l.length : Int) ≤ 9223372036854775807) (t : List UInt8) : getL (encL l ++ t) = (l, (encL l).length, 0) := by
  have hg := encs_ge l h
  have hc := count_of 1 l.length (by omega) hl (encs l ++ t) (by rw [List.length_append]; omega)
  have hm := many_of l h t
  unfold getL encL
  rw [List.append_assoc, hc]
  simp only
  rw [List.drop_left, hm]
  simp

theorem cutD_of (d : Dg) (t : List UInt8) : cutD (d.1 ++ t) = d := by
  have h : (d.1 ++ t).take 16 = d.1 := by rw [List.take_append_of_le_length (by rw [d.2]; omega), List.take_of_length_le (by rw [d.2]; omega)]
  unfold cutD
  rw [dif_pos (by rw [h]; exact d.2)]
  exact Subtype.ext h
theorem chunks_of (d : List Dg) (t : List UInt8) : chunks d.length (flat d ++ t) = d := by
  induction d with
  | nil => rfl
  | cons x d ih =>
    have e : flat (x :: d) = x.1 ++ flat d := rfl
    rw [e, List.append_assoc, List.length_cons]
    unfold chunks
    rw [cutD_of, show (x.1 ++ (flat d ++ t)).drop 16 = flat d ++ t from by rw [List.drop_append_of_le_length (by rw [x.2]; omega), List.drop_of_length_le (by rw [x.2]; omega)]; rfl, ih]
theorem getD_of (d : List Dg) (hl : (d.length : Int) ≤ 9223372036854775807) (t : List UInt8) : getD (encD d ++ t) = (d, (encD d).length, 0) := by
  have hc := count_of 16 d.length (by omega) hl (flat d ++ t) (by rw [List.length_append, flat_length]; omega)
  unfold getD encD
  rw [List.append_assoc, hc]
  simp only
  rw [List.drop_left, chunks_of, List.length_append, flat_length]
  simp

/-! ### one encoding alone -/
theorem take_add_of {l : List UInt8} {u k : Nat} : l.take (u + k) = l.take u ++ (l.drop u).take k := List.take_add ..
theorem getB_ok {l s : List UInt8} {u : Nat} (h : getB l = (s, u, 0)) : u ≤ l.length ∧ l.take u = encB s ∧ s.length ≤ l.length := by
  unfold getB at h
  by_cases h0 : (count 1 l).2.2 = 0
  · have hc := count_ok h0
    have hd := dec_ok hc.1
    rw [if_neg (by omega)] at h
    simp only [Prod.mk.injEq, and_true] at h
    obtain ⟨rfl, rfl⟩ := h
    have hlen : ((l.drop (count 1 l).2.1).take (count 1 l).1).length = (count 1 l).1 := by rw [List.length_take, List.length_drop]; omega
    refine ⟨by omega, ?_, by rw [hlen]; omega⟩
    rw [take_add_of, encB, hlen, ← hc.2.1, ← hd.2.2.2.1, hc.2.2.1]
  · rw [if_pos h0] at h
    simp only [Prod.mk.injEq] at h
    omega
theorem many_ok (n : Nat) : ∀ b : List UInt8, (many n b).2.2 = 0 → (many n b).1.length = n ∧ (many n b).2.1 ≤ b.length ∧ b.take (many n b).2.1 = encs (many n b).1 ∧ In64 (many n b).1 := by
  induction n with
  | zero => intro b _; exact ⟨rfl, Nat.zero_le _, by simp [many, encs], by intro x hx; simp [many] at hx⟩
  | succ n ih =>
    intro b h
    unfold many at h ⊢
    by_cases h0 : (dec b).2.2 = 0
    · have hd := dec_ok h0
      rw [if_neg (by omega)] at h ⊢
      by_cases h1 : (many n (b.drop (dec b).2.1)).2.2 = 0
      · have hi := ih _ h1
        rw [if_neg (by omega)]
        simp only
        refine ⟨by rw [List.length_cons, hi.1], by have := hi.2.1; rw [List.length_drop] at this; omega, ?_, ?_⟩
        · rw [take_add_of, hi.2.2.1, hd.2.2.2.1]
          rfl
        · intro x hx
          rcases List.mem_cons.1 hx with rfl | hx
          · exact ⟨hd.1, hd.2.1⟩
          · exact hi.2.2.2 x hx
      · rw [if_pos h1] at h
        exact absurd h h1
    · rw [if_pos h0] at h
      exact absurd h h0
theorem getL_ok {l : List UInt8} {s : List Int} {u : Nat} (h : getL l = (s, u, 0)) : u ≤ l.length ∧ l.take u = encL s ∧ s.length ≤ l.length ∧ In64 s := by
  unfold getL at h
  by_cases h0 : (count 1 l).2.2 = 0
  · have hc := count_ok h0
    have hd := dec_ok hc.1
    rw [if_neg (by omega)] at h
    by_cases h1 : (many (count 1 l).1 (l.drop (count 1 l).2.1)).2.2 = 0
    · have hm := many_ok _ _ h1
      rw [if_neg (by omega)] at h
      simp only [Prod.mk.injEq, and_true] at h
      obtain ⟨rfl, rfl⟩ := h
      have h2 := hm.2.1
      rw [List.length_drop] at h2
      refine ⟨by omega, ?_, by rw [hm.1]; omega, hm.2.2.2⟩
      rw [take_add_of, hm.2.2.1, encL, hm.1, ← hc.2.1, ← hd.2.2.2.1, hc.2.2.1]
    · rw [if_pos h1] at h
      simp only [Prod.mk.injEq] at h
      omega
  · rw [if_pos h0] at h
    simp only [Prod.mk.injEq] at h
    omega
theorem flat_chunks (n : Nat) : ∀ b : List UInt8, 16 * n ≤ b.length → flat (chunks n b) = b.take (16 * n) ∧ (chunks n b).length = n := by
  induction n with
  | zero => intro b _; exact ⟨by simp [chunks, flat], rfl⟩
  | succ n ih =>
    intro b h
    have hi := ih (b.drop 16) (by rw [List.length_drop]; omega)
    unfold chunks
    have e : flat (cutD b :: chunks n (b.drop 16)) = (cutD b).1 ++ flat (chunks n (b.drop 16)) := rfl
    rw [e, hi.1, cutD_val (by omega), List.length_cons, hi.2, show 16 * (n + 1) = 16 + 16 * n from by omega, take_add_of]
    exact ⟨rfl, rfl⟩
theorem getD_ok {l : List UInt8} {s : List Dg} {u : Nat} (h : getD l = (s, u, 0)) : u ≤ l.length ∧ l.take u = encD s ∧ s.length ≤ l.length := by
  unfold getD at h
  by_cases h0 : (count 16 l).2.2 = 0
  · have hc := count_ok h0
    have hd := dec_ok hc.1
    rw [if_neg (by omega)] at h
    have hf := flat_chunks (count 16 l).1 (l.drop (count 16 l).2.1) (by rw [List.length_drop]; omega)
    simp only [Prod.mk.injEq, and_true] at h
    obtain ⟨rfl, rfl⟩ := h
    refine ⟨by omega, ?_, by rw [hf.2]; omega⟩
    rw [take_add_of, ← hf.1, encD, hf.2, ← hc.2.1, ← hd.2.2.2.1, hc.2.2.1]
  · rw [if_pos h0] at h
    simp only [Prod.mk.injEq] at h
    omega

/-! ### where a decoder fails it answers nothing -/
theorem getL_bad {l : List UInt8} {s : List Int} {u e : Nat} (h : getL l = (s, u, e)) (he : e ≠ 0) : s = [] := by
  unfold getL at h
  split at h
  · simp only [Prod.mk.injEq] at h; exact h.1.symm
  · split at h
    · simp only [Prod.mk.injEq] at h; exact h.1.symm
    · simp only [Prod.mk.injEq] at h; omega
theorem getD_bad {l : List UInt8} {s : List Dg} {u e : Nat} (h : getD l = (s, u, e)) (he : e ≠ 0) : s = [] := by
  unfold getD at h
  split at h
  · simp only [Prod.mk.injEq] at h; exact h.1.symm
  · simp only [Prod.mk.injEq] at h; omega
theorem getL_len {l : List UInt8} {s : List Int} {u e : Nat} (h : getL l = (s, u, e)) : s.length ≤ l.length := by
  by_cases he : e = 0
  · subst he; exact (getL_ok h).2.2.1
  · rw [getL_bad h he]; exact Nat.zero_le _
theorem getD_len {l : List UInt8} {s : List Dg} {u e : Nat} (h : getD l = (s, u, e)) : s.length ≤ l.length := by
  by_cases he : e = 0
  · subst he; exact (getD_ok h).2.2
  · rw [getD_bad h he]; exact Nat.zero_le _

/-! ### a prefix -/
theorem dec_part (n : Int) (h0 : -9223372036854775808 ≤ n) (h1 : n ≤ 9223372036854775807) (i : Nat) (hi : i < (enc n).length) (t : List UInt8) : dec ((enc n ++ t).take i) = (0, 0, 5) := by
  rw [List.take_append_of_le_length (by omega)]
  exact dec_cut n h0 h1 i hi
theorem count_part (s m : Nat) (hs : 0 < s) (hm : (m : Int) ≤ 9223372036854775807) (t : List UInt8) (ht : t.length = s * m) (i : Nat) (hi : i < (enc (m : Int) ++ t).length) : count s ((enc (m : Int) ++ t).take i) = (0, 0, 5) := by
  by_cases h : i < (enc (m : Int)).length
  · have hd := dec_part (m : Int) (by omega) hm i h t
    unfold count
    rw [hd]
    simp
  · obtain ⟨k, rfl⟩ : ∃ k, i = (enc (m : Int)).length + k := ⟨i - (enc (m : Int)).length, by omega⟩
    rw [List.length_append] at hi
    have e : (enc (m : Int) ++ t).take ((enc (m : Int)).length + k) = enc (m : Int) ++ t.take k := by rw [List.take_length_add_append]
    have hd := dec_of (m : Int) (by omega) hm (t.take k)
    unfold count
    rw [e, hd]
    simp only
    rw [if_neg (by simp), if_neg (by omega), if_pos]
    rw [List.length_append, Nat.add_sub_cancel_left, Int.toNat_natCast, Nat.div_lt_iff_lt_mul hs, List.length_take, Nat.mul_comm]
    omega
theorem getB_part (l : List UInt8) (hl : (l.length : Int) ≤ 9223372036854775807) (i : Nat) (hi : i < (encB l).length) : getB ((encB l).take i) = ([], 0, 5) := by
  have hc := count_part 1 l.length (by omega) hl l (by omega) i hi
  unfold getB
  unfold encB
  rw [hc]
  simp
theorem getD_part (d : List Dg) (hl : (d.length : Int) ≤ 9223372036854775807) (i : Nat) (hi : i < (encD d).length) : getD ((encD d).take i) = ([], 0, 5) := by
  have hc := count_part 16 d.length (by omega) hl (flat d) (flat_length d) i hi
  unfold getD
  unfold encD
  rw [hc]
  simp
theorem many_part (l : List Int) (h : In64 l) : ∀ i, i < (encs l).length → many l.length ((encs l).take i) = ([], 0, 5) := by
  induction l with
  | nil => intro i hi; simp [encs] at hi
  | cons x l ih =>
    intro i hi
    have hx := h x (by simp)
    have e : encs (x :: l) = enc x ++ encs l := rfl
    rw [e] at hi ⊢
    rw [List.length_append] at hi
    rw [List.length_cons]
    unfold many
    by_cases hix : i < (enc x).length
    · rw [dec_part x hx.1 hx.2 i hix]
      simp
    · obtain ⟨k, rfl⟩ : ∃ k, i = (enc x).length + k := ⟨i - (enc x).length, by omega⟩
      have e2 : (enc x ++ encs l).take ((enc x).length + k) = enc x ++ (encs l).take k := by rw [List.take_length_add_append]
      rw [e2, dec_of x hx.1 hx.2]
      simp only
      rw [List.drop_left, ih (fun y hy => h y (by simp [hy])) k (by omega)]
      simp
/-- a prefix of the encoding of a list of numbers is short: the count may still fit -/
theorem getL_part (l : List Int) (h : In64 l) (hl : (l.length : Int) ≤ 9223372036854775807) (i : Nat) (hi : i < (encL l).length) : getL ((encL l).take i) = ([], 0, 5) := by
  unfold encL at hi ⊢
  by_cases hix : i < (enc (l.length : Int)).length
  · have hd := dec_part (l.length : Int) (by omega) hl i hix (encs l)
    unfold getL count
    rw [hd]
    simp
  · obtain ⟨k, rfl⟩ : ∃ k, i = (enc (l.length : Int)).length + k := ⟨i - (enc (l.length : Int)).length, by omega⟩
    rw [List.length_append] at hi
    have e : (enc (l.length : Int) ++ encs l).take ((enc (l.length : Int)).length + k) = enc (l.length : Int) ++ (encs l).take k := by rw [List.take_length_add_append]
    rw [e]
    by_cases hk : l.length ≤ k
    · have hc := count_of 1 l.length (by omega) hl ((encs l).take k) (by rw [List.length_take]; omega)
      unfold getL
      rw [hc]
      simp only
      rw [List.drop_left, many_part l h k (by omega)]
      simp
    · have hd := dec_of (l.length : Int) (by omega) hl ((encs l).take k)
      have hc : count 1 (enc (l.length : Int) ++ (encs l).take k) = (0, 0, 5) := by
        unfold count
        rw [hd]
        simp only
        rw [if_neg (by simp), if_neg (by omega), if_pos]
        rw [List.length_append, Nat.add_sub_cancel_left, Int.toNat_natCast, Nat.div_one, List.length_take]
        omega
      unfold getL
      rw [hc]
      simp

end Wz
end Go.Proofs.Ytcjeclddpkinkaa
