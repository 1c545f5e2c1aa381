/- Plain mathematics of layer 1 (wire): the encodings as functions on lists of bytes. No program in sight. -/
namespace Go.Proofs.YtcjeclddpkinkaaDoor
namespace Wz

/-- k bytes, most significant first -/
def be : Nat → Nat → List UInt8
  | 0, _ => []
  | k + 1, m => UInt8.ofNat (m / 256 ^ k) :: be k m

/-- the least number of bytes -/
def klen (m : Nat) : Nat := if h : m = 0 then 0 else klen (m / 256) + 1
termination_by m
decreasing_by omega

def flip (l : List UInt8) : List UInt8 := l.map fun c => 255 - c

/-- the encoding of an integer -/
def enc (n : Int) : List UInt8 :=
  if 0 ≤ n then UInt8.ofNat (128 + klen n.toNat) :: be (klen n.toNat) n.toNat
  else UInt8.ofNat (127 - klen (-1 - n).toNat) :: flip (be (klen (-1 - n).toNat) (-1 - n).toNat)

theorem klen_zero : klen 0 = 0 := by unfold klen; simp
theorem klen_pos {m : Nat} (h : m ≠ 0) : klen m = klen (m / 256) + 1 := by
  conv => lhs; unfold klen
  rw [dif_neg h]

theorem lt_klen (m : Nat) : m < 256 ^ klen m := by
  induction m using Nat.strongRecOn with
  | ind m ih =>
    by_cases h : m = 0
    · subst h; rw [klen_zero]; simp
    · rw [klen_pos h, Nat.pow_succ]
      have := ih (m / 256) (by omega)
      omega

theorem klen_le_of_lt (k : Nat) : ∀ m, m < 256 ^ k → klen m ≤ k := by
  induction k with
  | zero => intro m h; have : m = 0 := by simp at h; exact h
            subst this; rw [klen_zero]; exact Nat.le_refl _
  | succ k ih =>
    intro m h
    by_cases h0 : m = 0
    · subst h0; rw [klen_zero]; omega
    · rw [klen_pos h0]
      have := ih (m / 256) (by rw [Nat.pow_succ] at h; omega)
      omega

/-- it is the least one -/
theorem klen_eq {m k : Nat} (h : m < 256 ^ k) (h' : k = 0 ∨ 256 ^ (k - 1) ≤ m) : klen m = k := by
  have h1 := klen_le_of_lt k m h
  rcases h' with h' | h'
  · omega
  · by_cases hk : klen m = k
    · exact hk
    · have h2 : klen m ≤ k - 1 := by omega
      have h3 := lt_klen m
      have h4 : 256 ^ klen m ≤ 256 ^ (k - 1) := Nat.pow_le_pow_right (by omega) h2
      omega

theorem le_of_klen {m : Nat} (h : klen m ≠ 0) : 256 ^ (klen m - 1) ≤ m := by
  by_cases hm : 256 ^ (klen m - 1) ≤ m
  · exact hm
  · have := klen_le_of_lt (klen m - 1) m (by omega)
    omega

theorem be_length (k m : Nat) : (be k m).length = k := by
  induction k with
  | zero => rfl
  | succ k ih => simp [be, ih]

theorem be_get (k m j : Nat) (h : j < k) : (be k m)[j]? = some (UInt8.ofNat (m / 256 ^ (k - 1 - j))) := by
  induction k generalizing j with
  | zero => omega
  | succ k ih =>
    cases j with
    | zero => simp [be]
    | succ j =>
      simp only [be, List.getElem?_cons_succ]
      rw [ih j (by omega)]
      congr 4
      omega

/-- one more byte from the front -/
theorem be_take (k m c : Nat) (h : c < k) : (be k m).take (k - (c + 1)) ++ [UInt8.ofNat (m / 256 ^ c)] = (be k m).take (k - c) := by
  have e : k - c = (k - (c + 1)) + 1 := by omega
  rw [e, List.take_add_one, be_get k m _ (by omega)]
  have : k - 1 - (k - (c + 1)) = c := by omega
  rw [this]
  rfl

theorem flip_length (l : List UInt8) : (flip l).length = l.length := by simp [flip]

/-- the sign's byte and the digits, with the sign in one place -/
def mag (n : Int) : Nat := if 0 ≤ n then n.toNat else (-1 - n).toNat
def sgn (n : Int) (c : UInt8) : UInt8 := if 0 ≤ n then c else 255 - c
theorem enc_eq (n : Int) (h0 : -9223372036854775808 ≤ n) (h1 : n ≤ 9223372036854775807) : enc n = sgn n (UInt8.ofNat (128 + klen (mag n))) :: (be (klen (mag n)) (mag n)).map (sgn n) := by
  have hk : klen (mag n) ≤ 8 := klen_le_of_lt 8 _ (by unfold mag; split <;> omega)
  unfold enc sgn
  by_cases h : 0 ≤ n
  · simp [h, mag]
  · simp only [if_neg h, flip, mag] at hk ⊢
    congr 1
    apply UInt8.toNat_inj.1
    rw [UInt8.toNat_ofNat', UInt8.toNat_sub_of_le, UInt8.toNat_ofNat']
    · have : (255 : UInt8).toNat = 255 := rfl
      omega
    · rw [UInt8.le_iff_toNat_le, UInt8.toNat_ofNat']
      have : (255 : UInt8).toNat = 255 := rfl
      omega

end Wz
end Go.Proofs.YtcjeclddpkinkaaDoor
