/- The order of the encodings of numbers, as strings: no program in sight. -/
import Derived.Test.YtcjeclddpkinkaaWz
set_option linter.unusedSimpArgs false
set_option linter.unusedVariables false
namespace Go.Proofs.Ytcjeclddpkinkaa
namespace Wz
open Go.Op

theorem less_num : ∀ (ds es : List UInt8), ds.length = es.length → bytesLess ds es = decide (num ds < num es)
  | [], [], _ => rfl
  | [], _ :: _, h => by simp at h
  | _ :: _, [], h => by simp at h
  | d :: ds, e :: es, h => by
    have hl : ds.length = es.length := by simpa using h
    have ih := less_num ds es hl
    have h1 : num (d :: ds) = d.toNat * 256 ^ ds.length + num ds := by
      have := num_append [d] ds
      simpa [num] using this
    have h2 : num (e :: es) = e.toNat * 256 ^ es.length + num es := by
      have := num_append [e] es
      simpa [num] using this
    have b1 := num_lt ds
    have b2 := num_lt es
    rw [← hl] at h2 b2
    unfold bytesLess
    rw [ih, h1, h2, Bool.eq_iff_iff]
    simp only [Bool.or_eq_true, Bool.and_eq_true, decide_eq_true_eq, beq_iff_eq]
    obtain ⟨P, hP⟩ : ∃ P, 256 ^ ds.length = P := ⟨_, rfl⟩
    rw [hP] at b1 b2 ⊢
    constructor
    · rintro (h | ⟨rfl, h⟩)
      · have h' : d.toNat + 1 ≤ e.toNat := UInt8.lt_iff_toNat_lt.1 h
        have := Nat.mul_le_mul_right P h'
        rw [Nat.add_mul, Nat.one_mul] at this
        omega
      · omega
    · intro h
      by_cases hd : d.toNat < e.toNat
      · exact .inl (UInt8.lt_iff_toNat_lt.2 hd)
      · by_cases he : e.toNat < d.toNat
        · have h' : e.toNat + 1 ≤ d.toNat := he
          have := Nat.mul_le_mul_right P h'
          rw [Nat.add_mul, Nat.one_mul] at this
          omega
        · have : d = e := UInt8.toNat_inj.1 (by omega)
          subst this
          exact .inr ⟨rfl, by omega⟩
theorem flip_lt (a b : UInt8) : (255 - a < 255 - b) ↔ b < a := by
  rw [UInt8.lt_iff_toNat_lt, UInt8.lt_iff_toNat_lt, UInt8.toNat_sub_of_le _ _ (by rw [UInt8.le_iff_toNat_le]; have := a.toNat_lt; have : (255 : UInt8).toNat = 255 := rfl; omega), UInt8.toNat_sub_of_le _ _ (by rw [UInt8.le_iff_toNat_le]; have := b.toNat_lt; have : (255 : UInt8).toNat = 255 := rfl; omega)]
  have := a.toNat_lt
  have := b.toNat_lt
  have : (255 : UInt8).toNat = 255 := rfl
  omega
theorem flip_eq (a b : UInt8) : (255 - a = 255 - b) ↔ b = a := by
  constructor
  · intro h
    have h1 : ¬ (255 - a < 255 - b) := by rw [h]; exact UInt8.lt_irrefl _
    have h2 : ¬ (255 - b < 255 - a) := by rw [h]; exact UInt8.lt_irrefl _
    rw [flip_lt] at h1 h2
    rw [UInt8.lt_iff_toNat_lt] at h1 h2
    exact UInt8.toNat_inj.1 (by omega)
  · rintro rfl; rfl
theorem less_flip : ∀ (ds es : List UInt8), ds.length = es.length → bytesLess (flip ds) (flip es) = bytesLess es ds
  | [], [], _ => rfl
  | [], _ :: _, h => by simp at h
  | _ :: _, [], h => by simp at h
  | d :: ds, e :: es, h => by
    have ih := less_flip ds es (by simpa using h)
    have e1 : flip (d :: ds) = (255 - d) :: flip ds := rfl
    have e2 : flip (e :: es) = (255 - e) :: flip es := rfl
    rw [e1, e2]
    unfold bytesLess
    rw [ih, Bool.eq_iff_iff]
    simp only [Bool.or_eq_true, Bool.and_eq_true, decide_eq_true_eq, beq_iff_eq, flip_lt, flip_eq]
theorem less_be (m m' : Nat) (h : klen m = klen m') : bytesLess (be (klen m) m) (be (klen m') m') = decide (m < m') := by
  rw [less_num _ _ (by rw [be_length, be_length, h]), num_be, num_be, Nat.mod_eq_of_lt (lt_klen m), Nat.mod_eq_of_lt (lt_klen m')]
theorem klen_lt {m m' : Nat} (h : klen m < klen m') : m < m' := by
  have h1 := lt_klen m
  by_cases h2 : m' < 256 ^ klen m
  · have := klen_le_of_lt _ _ h2; omega
  · omega
theorem less_cons (a b : UInt8) (x y : List UInt8) : bytesLess (a :: x) (b :: y) = (decide (a < b) || (a == b && bytesLess x y)) := rfl
theorem ofNat_lt {a b : Nat} (ha : a < 256) (hb : b < 256) : (UInt8.ofNat a < UInt8.ofNat b) ↔ a < b := by
  rw [UInt8.lt_iff_toNat_lt, UInt8.toNat_ofNat', UInt8.toNat_ofNat', Nat.mod_eq_of_lt ha, Nat.mod_eq_of_lt hb]
theorem ofNat_eq {a b : Nat} (ha : a < 256) (hb : b < 256) : (UInt8.ofNat a = UInt8.ofNat b) ↔ a = b := by
  rw [← UInt8.toNat_inj, UInt8.toNat_ofNat', UInt8.toNat_ofNat', Nat.mod_eq_of_lt ha, Nat.mod_eq_of_lt hb]

theorem less_enc (x y : Int) (hx0 : -9223372036854775808 ≤ x) (hx1 : x ≤ 9223372036854775807) (hy0 : -9223372036854775808 ≤ y) (hy1 : y ≤ 9223372036854775807) : bytesLess (enc x) (enc y) = decide (x < y) := by
  have p8 : (256 : Nat) ^ 8 = 18446744073709551616 := by decide
  have k8 : ∀ m : Nat, (m : Int) ≤ 9223372036854775807 → klen m ≤ 8 := fun m hm => klen_le_of_lt 8 m (by rw [p8]; omega)
  unfold enc
  by_cases hx : 0 ≤ x <;> by_cases hy : 0 ≤ y
  · rw [if_pos hx, if_pos hy, less_cons]
    have a1 := k8 x.toNat (by omega)
    have a2 := k8 y.toNat (by omega)
    rw [Bool.eq_iff_iff]
    simp only [Bool.or_eq_true, Bool.and_eq_true, decide_eq_true_eq, beq_iff_eq]
    rw [ofNat_lt (by omega) (by omega), ofNat_eq (by omega) (by omega)]
    constructor
    · rintro (h | ⟨h, h2⟩)
      · have := klen_lt (m := x.toNat) (m' := y.toNat) (by omega); omega
      · rw [less_be _ _ (by omega), decide_eq_true_iff] at h2; omega
    · intro h
      by_cases e : klen x.toNat = klen y.toNat
      · exact .inr ⟨by omega, by rw [less_be _ _ e, decide_eq_true_iff]; omega⟩
      · left
        by_cases e2 : klen y.toNat < klen x.toNat
        · have := klen_lt e2; omega
        · omega
  · rw [if_pos hx, if_neg hy, less_cons]
    have a1 := k8 x.toNat (by omega)
    have a2 := k8 (-1 - y).toNat (by omega)
    rw [Bool.eq_iff_iff]
    simp only [Bool.or_eq_true, Bool.and_eq_true, decide_eq_true_eq, beq_iff_eq]
    rw [ofNat_lt (by omega) (by omega), ofNat_eq (by omega) (by omega)]
    omega
  · rw [if_neg hx, if_pos hy, less_cons]
    have a1 := k8 (-1 - x).toNat (by omega)
    have a2 := k8 y.toNat (by omega)
    rw [Bool.eq_iff_iff]
    simp only [Bool.or_eq_true, Bool.and_eq_true, decide_eq_true_eq, beq_iff_eq]
    rw [ofNat_lt (by omega) (by omega), ofNat_eq (by omega) (by omega)]
    omega
  · rw [if_neg hx, if_neg hy, less_cons]
    have a1 := k8 (-1 - x).toNat (by omega)
    have a2 := k8 (-1 - y).toNat (by omega)
    rw [Bool.eq_iff_iff]
    simp only [Bool.or_eq_true, Bool.and_eq_true, decide_eq_true_eq, beq_iff_eq]
    rw [ofNat_lt (by omega) (by omega), ofNat_eq (by omega) (by omega)]
    constructor
    · rintro (h | ⟨h, h2⟩)
      · have := klen_lt (m := (-1 - y).toNat) (m' := (-1 - x).toNat) (by omega); omega
      · rw [less_flip _ _ (by rw [be_length, be_length]; omega), less_be _ _ (by omega), decide_eq_true_iff] at h2; omega
    · intro h
      by_cases e : klen (-1 - x).toNat = klen (-1 - y).toNat
      · exact .inr ⟨by omega, by rw [less_flip _ _ (by rw [be_length, be_length]; omega), less_be _ _ (by omega), decide_eq_true_iff]; omega⟩
      · left
        by_cases e2 : klen (-1 - x).toNat < klen (-1 - y).toNat
        · have := klen_lt e2; omega
        · omega

theorem enc_inj {x y : Int} (hx0 : -9223372036854775808 ≤ x) (hx1 : x ≤ 9223372036854775807) (hy0 : -9223372036854775808 ≤ y) (hy1 : y ≤ 9223372036854775807) (h : enc x = enc y) : x = y := by
  have h1 := dec_enc x hx0 hx1 []
  have h2 := dec_enc y hy0 hy1 []
  rw [h, h2] at h1
  simp only [Prod.mk.injEq] at h1
  exact h1.1.symm
/-- no encoding is the beginning of another -/
theorem enc_free_le {x y : Int} (hx0 : -9223372036854775808 ≤ x) (hx1 : x ≤ 9223372036854775807) (hy0 : -9223372036854775808 ≤ y) (hy1 : y ≤ 9223372036854775807) (hl : (enc x).length ≤ (enc y).length) (h : enc x = (enc y).take (enc x).length) : x = y := by
  by_cases e : (enc x).length = (enc y).length
  · rw [e, List.take_length] at h
    exact enc_inj hx0 hx1 hy0 hy1 h
  · have h1 := dec_enc x hx0 hx1 []
    have h2 := dec_cut y hy0 hy1 (enc x).length (by omega)
    rw [List.append_nil, h, h2] at h1
    simp only [Prod.mk.injEq] at h1
    omega
theorem enc_free (x y : Int) (hx0 : -9223372036854775808 ≤ x) (hx1 : x ≤ 9223372036854775807) (hy0 : -9223372036854775808 ≤ y) (hy1 : y ≤ 9223372036854775807) (k : Nat) (hk : k = min (enc x).length (enc y).length) : (enc x).take k = (enc y).take k ↔ x = y := by
  subst hk
  constructor
  · intro h
    by_cases hl : (enc x).length ≤ (enc y).length
    · rw [Nat.min_eq_left hl, List.take_length] at h
      exact enc_free_le hx0 hx1 hy0 hy1 hl h
    · rw [Nat.min_eq_right (by omega), List.take_length] at h
      exact (enc_free_le hy0 hy1 hx0 hx1 (by omega) h.symm).symm
  · rintro rfl; rfl

end Wz
end Go.Proofs.Ytcjeclddpkinkaa
