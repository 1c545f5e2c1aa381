/- Plain mathematics of layer 1: byte strings, lists of integers and lists of digests. -/
import Derived.Test.YtcjeclddpkinkaaDoorWq
namespace Go.Proofs.YtcjeclddpkinkaaDoor
namespace Wz

/-- the length of a list whose elements have at least s bytes; its place; an error -/
def count (s : Nat) (l : List UInt8) : Nat × Nat × Nat :=
  if (dec l).2.2 ≠ 0 then (0, 0, (dec l).2.2) else if (dec l).1 < 0 then (0, 0, 6) else if (l.length - (dec l).2.1) / s < (dec l).1.toNat then (0, 0, 5) else ((dec l).1.toNat, (dec l).2.1, 0)

def encB (s : List UInt8) : List UInt8 := enc s.length ++ s
def getB (l : List UInt8) : List UInt8 × Nat × Nat :=
  if (count 1 l).2.2 ≠ 0 then ([], 0, (count 1 l).2.2) else ((l.drop (count 1 l).2.1).take (count 1 l).1, (count 1 l).2.1 + (count 1 l).1, 0)

def encs (l : List Int) : List UInt8 := l.flatMap enc
def encL (l : List Int) : List UInt8 := enc l.length ++ encs l
/-- n integers one after the other -/
def many : Nat → List UInt8 → List Int × Nat × Nat
  | 0, _ => ([], 0, 0)
  | k + 1, b => if (dec b).2.2 ≠ 0 then ([], 0, (dec b).2.2) else
      if (many k (b.drop (dec b).2.1)).2.2 ≠ 0 then ([], 0, (many k (b.drop (dec b).2.1)).2.2) else
      ((dec b).1 :: (many k (b.drop (dec b).2.1)).1, (dec b).2.1 + (many k (b.drop (dec b).2.1)).2.1, 0)
def getL (l : List UInt8) : List Int × Nat × Nat :=
  if (count 1 l).2.2 ≠ 0 then ([], 0, (count 1 l).2.2) else
  if (many (count 1 l).1 (l.drop (count 1 l).2.1)).2.2 ≠ 0 then ([], 0, (many (count 1 l).1 (l.drop (count 1 l).2.1)).2.2) else
  ((many (count 1 l).1 (l.drop (count 1 l).2.1)).1, (count 1 l).2.1 + (many (count 1 l).1 (l.drop (count 1 l).2.1)).2.1, 0)

/-- a digest: 16 bytes -/
abbrev Dg := { l : List UInt8 // l.length = 16 }
def flat (d : List Dg) : List UInt8 := d.flatMap (·.1)
def encD (d : List Dg) : List UInt8 := enc d.length ++ flat d
def cutD (l : List UInt8) : Dg := if h : (l.take 16).length = 16 then ⟨l.take 16, h⟩ else ⟨List.replicate 16 0, by simp⟩
def chunks : Nat → List UInt8 → List Dg
  | 0, _ => []
  | k + 1, l => cutD l :: chunks k (l.drop 16)
def getD (l : List UInt8) : List Dg × Nat × Nat :=
  if (count 16 l).2.2 ≠ 0 then ([], 0, (count 16 l).2.2) else
  (chunks (count 16 l).1 (l.drop (count 16 l).2.1), (count 16 l).2.1 + 16 * (count 16 l).1, 0)

theorem flat_length (d : List Dg) : (flat d).length = 16 * d.length := by
  induction d with
  | nil => rfl
  | cons x d ih =>
    have : flat (x :: d) = x.1 ++ flat d := rfl
    rw [this, List.length_append, ih, x.2, List.length_cons]; omega
theorem flat_append (d e : List Dg) : flat (d ++ e) = flat d ++ flat e := by simp [flat]
theorem encs_append (l m : List Int) : encs (l ++ m) = encs l ++ encs m := by simp [encs]

/-- what is decoded begins a sequence -/
theorem dec_ok {l : List UInt8} (h : (dec l).2.2 = 0) : -9223372036854775808 ≤ (dec l).1 ∧ (dec l).1 ≤ 9223372036854775807 ∧ (dec l).2.1 ≤ l.length ∧ l.take (dec l).2.1 = enc (dec l).1 ∧ 1 ≤ (dec l).2.1 ∧ (dec l).2.1 ≤ 9 :=
  enc_dec (l := l) (n := (dec l).1) (u := (dec l).2.1) (by rw [← h])
theorem dec_bad {l : List UInt8} (h : (dec l).2.2 ≠ 0) : (dec l).1 = 0 ∧ (dec l).2.1 = 0 := dec_err (l := l) (n := (dec l).1) (u := (dec l).2.1) rfl h
theorem dec_le (l : List UInt8) : (dec l).2.1 ≤ l.length ∧ -9223372036854775808 ≤ (dec l).1 ∧ (dec l).1 ≤ 9223372036854775807 := by
  by_cases h : (dec l).2.2 = 0
  · have := dec_ok h; exact ⟨this.2.2.1, this.1, this.2.1⟩
  · have := dec_bad h; omega
theorem dec_er (l : List UInt8) : (dec l).2.2 ≤ 6 := by
  cases l with
  | nil => simp [dec]
  | cons c r =>
    simp only [dec]
    repeat' split
    all_goals simp

theorem count_ok {s : Nat} {l : List UInt8} (h : (count s l).2.2 = 0) : (dec l).2.2 = 0 ∧ (dec l).1 = ((count s l).1 : Int) ∧ (dec l).2.1 = (count s l).2.1 ∧ (count s l).2.1 + s * (count s l).1 ≤ l.length ∧ 1 ≤ (count s l).2.1 := by
  unfold count at h ⊢
  by_cases h1 : (dec l).2.2 = 0
  · have hd := dec_ok h1
    rw [if_neg (by omega)] at h ⊢
    by_cases h2 : (dec l).1 < 0
    · rw [if_pos h2] at h; simp at h
    rw [if_neg h2] at h ⊢
    by_cases h3 : (l.length - (dec l).2.1) / s < (dec l).1.toNat
    · rw [if_pos h3] at h; simp at h
    rw [if_neg h3]
    refine ⟨h1, by simp; omega, rfl, ?_, hd.2.2.2.2.1⟩
    have h4 : (dec l).1.toNat * s ≤ l.length - (dec l).2.1 := by
      have := Nat.div_mul_le_self (l.length - (dec l).2.1) s
      have h5 := Nat.mul_le_mul_right s (Nat.le_of_not_lt h3)
      omega
    simp only
    rw [Nat.mul_comm]
    omega
  · rw [if_pos h1] at h
    exact absurd h h1

/-- what n integers come to when some are read already -/
def after (xs : List Int) (q : Nat) (m : List Int × Nat × Nat) : List Int × Nat × Nat := if m.2.2 ≠ 0 then ([], 0, m.2.2) else (xs ++ m.1, q + m.2.1, 0)
theorem after_start (m : List Int × Nat × Nat) (h : m.2.2 ≠ 0 → m.1 = [] ∧ m.2.1 = 0) : after [] 0 m = m := by
  unfold after
  obtain ⟨a, b, c⟩ := m
  by_cases hc : c = 0
  · subst hc; simp
  · have := h hc
    simp only at this
    rw [if_pos hc, this.1, this.2]
theorem after_end (xs : List Int) (q : Nat) (b : List UInt8) : after xs q (many 0 b) = (xs, q, 0) := by simp [after, many]
theorem after_err (xs : List Int) (q k : Nat) {b : List UInt8} (h : (dec b).2.2 ≠ 0) : after xs q (many (k + 1) b) = ([], 0, (dec b).2.2) := by
  have e : many (k + 1) b = ([], 0, (dec b).2.2) := by rw [many, if_pos h]
  rw [e]
  unfold after
  rw [if_pos h]
theorem after_step (xs : List Int) (q k : Nat) {b : List UInt8} (h : (dec b).2.2 = 0) : after xs q (many (k + 1) b) = after (xs ++ [(dec b).1]) (q + (dec b).2.1) (many k (b.drop (dec b).2.1)) := by
  rw [many, if_neg (by omega)]
  generalize many k (b.drop (dec b).2.1) = m
  generalize (dec b).1 = x
  generalize (dec b).2.1 = u
  obtain ⟨ys, v, e⟩ := m
  unfold after
  by_cases he : e = 0
  · subst he; simp [Nat.add_assoc]
  · simp [he]
theorem many_err (n : Nat) : ∀ b : List UInt8, (many n b).2.2 ≠ 0 → (many n b).1 = [] ∧ (many n b).2.1 = 0 := by
  cases n with
  | zero => intro b h; simp [many] at h
  | succ n =>
    intro b h
    unfold many at h ⊢
    repeat' split at h
    · rename_i h1; rw [if_pos h1]; exact ⟨rfl, rfl⟩
    · rename_i h1 h2; rw [if_neg h1, if_pos h2]; exact ⟨rfl, rfl⟩
    · exact absurd rfl h

end Wz
end Go.Proofs.YtcjeclddpkinkaaDoor
