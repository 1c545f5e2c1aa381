/- Plain mathematics of layer 1: decoding an integer; it inverts the encoding and accepts nothing else. -/
import Derived.Test.YtcjeclddpkinkaaDoorWp
namespace Go.Proofs.YtcjeclddpkinkaaDoor
namespace Wz

/-- the number of a list of digits, most significant first -/
def num (ds : List UInt8) : Nat := ds.foldl (fun m d => m * 256 + d.toNat) 0
/-- the number of bytes behind a first byte -/
def cnt (c : UInt8) : Nat := if 128 ≤ c.toNat then c.toNat - 128 else 127 - c.toNat
/-- a digit behind a first byte -/
def dig (c d : UInt8) : UInt8 := if 128 ≤ c.toNat then d else 255 - d
def digs (c : UInt8) (r : List UInt8) : List UInt8 := (r.take (cnt c)).map (dig c)
/-- the number that is decoded -/
def res (c : UInt8) (m : Nat) : Int := if 128 ≤ c.toNat then (m : Int) else -1 - (m : Int)
/-- no canonical digits -/
def bad (c : UInt8) (r : List UInt8) : Bool := ((0 < cnt c) && (digs c r).getD 0 0 == 0) || (9223372036854775807 < (num (digs c r) : Int))
def dec : List UInt8 → Int × Nat × Nat
  | [] => (0, 0, 5)
  | c :: r => if 8 < cnt c then (0, 0, 6) else if r.length < cnt c then (0, 0, 5) else if bad c r then (0, 0, 6) else (res c (num (digs c r)), cnt c + 1, 0)

theorem snoc_ind {α : Type} {P : List α → Prop} (h0 : P []) (h1 : ∀ l a, P l → P (l ++ [a])) (l : List α) : P l := by
  have h : ∀ r : List α, P r.reverse := by
    intro r
    induction r with
    | nil => simpa using h0
    | cons a r ih => rw [List.reverse_cons]; exact h1 _ _ ih
  have := h l.reverse
  rwa [List.reverse_reverse] at this

theorem num_snoc (ds : List UInt8) (d : UInt8) : num (ds ++ [d]) = num ds * 256 + d.toNat := by simp [num]
theorem num_nil : num [] = 0 := rfl

theorem num_append (ds es : List UInt8) : num (ds ++ es) = num ds * 256 ^ es.length + num es := by
  refine snoc_ind (P := fun es => num (ds ++ es) = num ds * 256 ^ es.length + num es) ?_ ?_ es
  · simp [num_nil]
  · intro es e ih
    rw [← List.append_assoc, num_snoc, num_snoc, ih, List.length_append, List.length_singleton, Nat.pow_succ, Nat.add_mul, Nat.mul_assoc, Nat.add_assoc]

theorem num_lt (ds : List UInt8) : num ds < 256 ^ ds.length := by
  refine snoc_ind (P := fun ds => num ds < 256 ^ ds.length) ?_ ?_ ds
  · simp [num_nil]
  · intro ds d ih
    rw [num_snoc, List.length_append, List.length_singleton, Nat.pow_succ]
    have := d.toNat_lt
    omega

theorem num_be (k m : Nat) : num (be k m) = m % 256 ^ k := by
  induction k generalizing m with
  | zero => simp [be, num_nil, Nat.mod_one]
  | succ k ih =>
    have : be (k + 1) m = [UInt8.ofNat (m / 256 ^ k)] ++ be k m := rfl
    rw [this, num_append, ih, be_length]
    have h1 : num [UInt8.ofNat (m / 256 ^ k)] = m / 256 ^ k % 256 := by
      show 0 * 256 + (UInt8.ofNat (m / 256 ^ k)).toNat = _
      rw [UInt8.toNat_ofNat']; omega
    rw [h1, Nat.pow_succ, Nat.mod_mul]
    rw [Nat.mul_comm]
    omega

theorem be_num (ds : List UInt8) : ∀ q, be ds.length (q * 256 ^ ds.length + num ds) = ds := by
  induction ds with
  | nil => intro q; rfl
  | cons d ds ih =>
    intro q
    have hn : num (d :: ds) = d.toNat * 256 ^ ds.length + num ds := by
      have : d :: ds = [d] ++ ds := rfl
      rw [this, num_append]
      show (0 * 256 + d.toNat) * _ + _ = _
      rw [Nat.zero_mul, Nat.zero_add]
    have hlt := num_lt ds
    have e : q * 256 ^ (ds.length + 1) + num (d :: ds) = (q * 256 + d.toNat) * 256 ^ ds.length + num ds := by
      rw [hn, Nat.pow_succ, Nat.add_mul, Nat.mul_assoc, Nat.mul_comm 256, Nat.add_assoc]
    simp only [List.length_cons, be]
    rw [e, ih]
    congr 1
    rw [Nat.mul_comm (q * 256 + d.toNat), Nat.mul_add_div (Nat.pow_pos (by decide)), Nat.div_eq_of_lt hlt, Nat.add_zero]
    apply UInt8.toNat_inj.1
    rw [UInt8.toNat_ofNat']
    have := d.toNat_lt
    omega

theorem be_num0 (ds : List UInt8) : be ds.length (num ds) = ds := by
  have := be_num ds 0
  simpa using this

/-- digits with a first one that is not 0 are the digits of their number -/
theorem klen_num {d : UInt8} {ds : List UInt8} (h : d ≠ 0) : klen (num (d :: ds)) = (d :: ds).length := by
  refine klen_eq (num_lt _) (.inr ?_)
  have hn : num (d :: ds) = d.toNat * 256 ^ ds.length + num ds := by
    have : d :: ds = [d] ++ ds := rfl
    rw [this, num_append]
    show (0 * 256 + d.toNat) * _ + _ = _
    rw [Nat.zero_mul, Nat.zero_add]
  rw [hn]
  have hd : 1 ≤ d.toNat := by
    rcases Nat.eq_zero_or_pos d.toNat with h0 | h0
    · exact absurd (UInt8.toNat_inj.1 h0) h
    · exact h0
  have : 1 * 256 ^ ds.length ≤ d.toNat * 256 ^ ds.length := Nat.mul_le_mul_right _ hd
  simp only [List.length_cons, Nat.add_sub_cancel]
  omega

theorem dig_dig (c d : UInt8) : dig c (dig c d) = d := by
  unfold dig
  split
  · rfl
  · apply UInt8.toNat_inj.1
    have h255 : (255 : UInt8).toNat = 255 := rfl
    have := d.toNat_lt
    rw [UInt8.toNat_sub_of_le, UInt8.toNat_sub_of_le] <;> (try rw [UInt8.le_iff_toNat_le]) <;> (try rw [UInt8.toNat_sub_of_le]) <;> (try rw [UInt8.le_iff_toNat_le]) <;> omega

/-- what is decoded is what was encoded -/
theorem dec_enc (n : Int) (h0 : -9223372036854775808 ≤ n) (h1 : n ≤ 9223372036854775807) (t : List UInt8) : dec (enc n ++ t) = (n, (enc n).length, 0) := by
  have hM : mag n < 2 ^ 63 := by unfold mag; split <;> omega
  obtain ⟨m, hm⟩ : ∃ m, mag n = m := ⟨_, rfl⟩
  have hk : klen m ≤ 8 := klen_le_of_lt 8 _ (by rw [← hm]; unfold mag; split <;> omega)
  have hc : cnt (sgn n (UInt8.ofNat (128 + klen m))) = klen m ∧ (128 ≤ (sgn n (UInt8.ofNat (128 + klen m))).toNat ↔ 0 ≤ n) := by
    unfold cnt sgn
    have h255 : (255 : UInt8).toNat = 255 := rfl
    have e : (UInt8.ofNat (128 + klen m)).toNat = 128 + klen m := by rw [UInt8.toNat_ofNat']; omega
    by_cases hn : 0 ≤ n
    · rw [if_pos hn, if_pos (by omega)]; omega
    · have e2 : (255 - UInt8.ofNat (128 + klen m)).toNat = 127 - klen m := by
        rw [UInt8.toNat_sub_of_le]
        · omega
        · rw [UInt8.le_iff_toNat_le]; omega
      rw [if_neg hn, if_neg (by omega)]; omega
  obtain ⟨c, hcc⟩ : ∃ c, sgn n (UInt8.ofNat (128 + klen m)) = c := ⟨_, rfl⟩
  have hsd : ∀ d, sgn n d = dig c d := by
    intro d; unfold sgn dig
    by_cases hn : 0 ≤ n
    · rw [if_pos hn, if_pos (by rw [← hcc]; exact hc.2.2 hn)]
    · rw [if_neg hn, if_neg (by rw [← hcc]; exact fun h => hn (hc.2.1 h))]
  rw [enc_eq n h0 h1, hm, hcc]
  rw [hcc] at hc
  have hds : digs c ((be (klen m) m).map (sgn n) ++ t) = be (klen m) m := by
    unfold digs
    rw [hc.1, List.take_append_of_le_length (by simp [be_length]), List.take_of_length_le (by simp [be_length]), List.map_map]
    conv => rhs; rw [← List.map_id (be (klen m) m)]
    apply List.map_congr_left
    intro d _
    simp [hsd, dig_dig]
  have hnum : num (be (klen m) m) = m := by rw [num_be, Nat.mod_eq_of_lt (lt_klen m)]
  have hb : bad c ((be (klen m) m).map (sgn n) ++ t) = false := by
    unfold bad
    rw [hds, hnum, hc.1]
    simp only [Bool.or_eq_false_iff, Bool.and_eq_false_iff, decide_eq_false_iff_not]
    refine ⟨?_, by omega⟩
    by_cases h : klen m = 0
    · left; omega
    · right
      have h2 := le_of_klen h
      have h3 : (be (klen m) m)[0]? = some (UInt8.ofNat (m / 256 ^ (klen m - 1))) := by
        have := be_get (klen m) m 0 (by omega)
        simpa using this
      have h4 : (be (klen m) m).getD 0 0 = UInt8.ofNat (m / 256 ^ (klen m - 1)) := by simp [List.getD, h3]
      rw [h4]
      have h5 : 0 < m / 256 ^ (klen m - 1) := Nat.div_pos h2 (Nat.pow_pos (by decide))
      have h6 : m / 256 ^ (klen m - 1) < 256 := by
        rw [Nat.div_lt_iff_lt_mul (Nat.pow_pos (by decide))]
        have := lt_klen m
        rw [show klen m = klen m - 1 + 1 from by omega, Nat.pow_succ, Nat.mul_comm] at this
        exact this
      rw [beq_eq_false_iff_ne]
      intro h7
      have := congrArg UInt8.toNat h7
      rw [UInt8.toNat_ofNat', Nat.mod_eq_of_lt h6] at this
      have h0' : (0 : UInt8).toNat = 0 := rfl
      omega
  simp only [List.cons_append, dec]
  rw [if_neg (by rw [hc.1]; omega), if_neg (by rw [hc.1]; simp [be_length]), hb]
  simp only [Bool.false_eq_true, if_false]
  rw [hds, hnum, hc.1]
  refine Prod.ext ?_ (Prod.ext (by simp [be_length]) rfl)
  show res c m = n
  unfold res
  by_cases hn : 0 ≤ n
  · rw [if_pos (hc.2.2 hn), ← hm]; unfold mag; rw [if_pos hn]; omega
  · rw [if_neg (fun h => hn (hc.2.1 h)), ← hm]; unfold mag; rw [if_neg hn]; omega

/-- what is decoded has this encoding -/
theorem enc_dec {l : List UInt8} {n : Int} {u : Nat} (h : dec l = (n, u, 0)) : -9223372036854775808 ≤ n ∧ n ≤ 9223372036854775807 ∧ u ≤ l.length ∧ l.take u = enc n ∧ 1 ≤ u ∧ u ≤ 9 := by
  cases l with
  | nil => simp [dec] at h
  | cons c r =>
    simp only [dec] at h
    by_cases h1 : 8 < cnt c
    · rw [if_pos h1] at h; simp at h
    by_cases h2 : r.length < cnt c
    · rw [if_neg h1, if_pos h2] at h; simp at h
    by_cases h3 : bad c r = true
    · rw [if_neg h1, if_neg h2, if_pos h3] at h; simp at h
    rw [if_neg h1, if_neg h2, if_neg h3] at h
    simp only [Prod.mk.injEq, and_true] at h
    obtain ⟨hn, hu⟩ := h
    have hlen : (digs c r).length = cnt c := by simp [digs]; omega
    unfold bad at h3
    simp only [Bool.or_eq_true, Bool.and_eq_true, decide_eq_true_eq, not_or, not_and] at h3
    obtain ⟨h4, h5⟩ := h3
    have hkl : klen (num (digs c r)) = cnt c := by
      cases hd : digs c r with
      | nil => rw [hd] at hlen; simp at hlen; rw [num_nil, klen_zero]; exact hlen
      | cons d ds =>
        rw [hd] at h4 hlen
        rw [klen_num, hlen]
        intro h0
        exact h4 (by simp at hlen; omega) (by simp [h0])
    obtain ⟨m, hm⟩ : ∃ m, num (digs c r) = m := ⟨_, rfl⟩
    have hr : -9223372036854775808 ≤ n ∧ n ≤ 9223372036854775807 := by
      rw [← hn, hm]; rw [hm] at h5; unfold res; split <;> omega
    refine ⟨hr.1, hr.2, by rw [← hu]; simp; omega, ?_, by omega, by omega⟩
    have hmag : mag n = m ∧ (0 ≤ n ↔ 128 ≤ c.toNat) := by
      rw [← hn, hm]; unfold mag res; split <;> (split <;> omega)
    rw [enc_eq n hr.1 hr.2, hmag.1, ← hm, hkl, ← hu, List.take_succ_cons]
    have hsd : ∀ d, sgn n d = dig c d := by
      intro d; unfold sgn dig
      by_cases hc : 128 ≤ c.toNat
      · rw [if_pos (hmag.2.2 hc), if_pos hc]
      · rw [if_neg (fun h => hc (hmag.2.1 h)), if_neg hc]
    congr 1
    · apply UInt8.toNat_inj.1
      rw [hsd]
      unfold dig cnt
      unfold cnt at h1
      have h255 : (255 : UInt8).toNat = 255 := rfl
      have hlt := c.toNat_lt
      by_cases hc : 128 ≤ c.toNat
      · rw [if_pos hc] at h1
        rw [if_pos hc, if_pos hc, UInt8.toNat_ofNat']; omega
      · rw [if_neg hc] at h1
        have e : (UInt8.ofNat (128 + (127 - c.toNat))).toNat = 255 - c.toNat := by rw [UInt8.toNat_ofNat']; omega
        rw [if_neg hc, if_neg hc, UInt8.toNat_sub_of_le]
        · omega
        · rw [UInt8.le_iff_toNat_le]; omega
    · have := be_num0 (digs c r)
      rw [hlen] at this
      rw [this]
      unfold digs
      rw [List.map_map]
      conv => lhs; rw [← List.map_id (r.take (cnt c))]
      apply List.map_congr_left
      intro d _
      simp [hsd, dig_dig]

theorem enc_length (n : Int) (h0 : -9223372036854775808 ≤ n) (h1 : n ≤ 9223372036854775807) : 1 ≤ (enc n).length ∧ (enc n).length ≤ 9 := by
  have h := enc_dec (dec_enc n h0 h1 [])
  exact ⟨h.2.2.2.2.1, h.2.2.2.2.2⟩

/-- a proper part from the beginning is cut short -/
theorem dec_cut (n : Int) (h0 : -9223372036854775808 ≤ n) (h1 : n ≤ 9223372036854775807) (i : Nat) (hi : i < (enc n).length) : dec ((enc n).take i) = (0, 0, 5) := by
  have h := dec_enc n h0 h1 []
  rw [List.append_nil] at h
  cases i with
  | zero => rfl
  | succ i =>
    cases he : enc n with
    | nil => rw [he] at hi; simp at hi
    | cons c r =>
      rw [he] at h hi
      rw [List.take_succ_cons]
      simp only [dec] at h ⊢
      by_cases h1 : 8 < cnt c
      · rw [if_pos h1] at h; simp at h
      by_cases h2 : r.length < cnt c
      · rw [if_neg h1, if_pos h2] at h; simp at h
      by_cases h3 : bad c r = true
      · rw [if_neg h1, if_neg h2, if_pos h3] at h; simp at h
      rw [if_neg h1, if_neg h2, if_neg h3] at h
      simp only [Prod.mk.injEq, List.length_cons] at h hi
      rw [if_neg h1, if_pos (by rw [List.length_take]; omega)]

theorem dec_err {l : List UInt8} {n : Int} {u e : Nat} (h : dec l = (n, u, e)) (he : e ≠ 0) : n = 0 ∧ u = 0 := by
  cases l with
  | nil => simp [dec] at h; omega
  | cons c r =>
    simp only [dec] at h
    repeat' split at h
    all_goals simp only [Prod.mk.injEq] at h
    all_goals omega

end Wz
end Go.Proofs.YtcjeclddpkinkaaDoor
