/- The plain law of the index's encoding: what a reader of numbers does, what Decode does, and that it is the inverse of Encode. No program in sight. -/
import Derived.Test.YtcjeclddpkinkaaK7
set_option linter.unusedSimpArgs false
set_option linter.unusedVariables false
namespace Go.Proofs.Ytcjeclddpkinkaa
namespace Ix

/-- what is left to read, and the error -/
abbrev Rs := List UInt8 × Nat
def numR (lo hi : Int) (s : Rs) : Int × Rs :=
  if s.2 ≠ 0 then (0, s)
  else if (Wz.dec s.1).2.2 ≠ 0 then (0, (s.1, (Wz.dec s.1).2.2))
  else if (Wz.dec s.1).1 < lo ∨ hi < (Wz.dec s.1).1 then (0, (s.1, 6))
  else ((Wz.dec s.1).1, (s.1.drop (Wz.dec s.1).2.1, 0))
theorem numR_len (lo hi : Int) (s : Rs) : (numR lo hi s).2.1.length ≤ s.1.length := by
  unfold numR
  split
  · exact Nat.le_refl _
  · split
    · exact Nat.le_refl _
    · split
      · exact Nat.le_refl _
      · show (s.1.drop _).length ≤ _
        rw [List.length_drop]; omega
theorem numR_val (lo hi : Int) (s : Rs) : (numR lo hi s).1 = 0 ∨ (lo ≤ (numR lo hi s).1 ∧ (numR lo hi s).1 ≤ hi) := by
  unfold numR
  split
  · exact .inl rfl
  · split
    · exact .inl rfl
    · split
      · exact .inl rfl
      · refine .inr ⟨?_, ?_⟩ <;> simp only <;> omega
theorem numR_er (lo hi : Int) (s : Rs) (h : s.2 ≤ 6) : (numR lo hi s).2.2 ≤ 6 := by
  unfold numR
  split
  · exact h
  · split
    · exact Wz.dec_er _
    · split
      · exact Nat.le_refl _
      · exact Nat.zero_le _
/-- it went well -/
theorem numR_ok {lo hi : Int} {s s' : Rs} {n : Int} (h : numR lo hi s = (n, s')) (he : s'.2 = 0) : s.2 = 0 ∧ lo ≤ n ∧ n ≤ hi ∧ s.1 = Wz.enc n ++ s'.1 := by
  unfold numR at h
  split at h
  · rename_i h1
    simp only [Prod.mk.injEq] at h
    rw [← h.2] at he
    exact absurd he h1
  · rename_i h1
    split at h
    · rename_i h2
      simp only [Prod.mk.injEq] at h
      rw [← h.2] at he
      exact absurd he h2
    · rename_i h2
      have h2' : (Wz.dec s.1).2.2 = 0 := by simpa using h2
      have hd := Wz.dec_ok h2'
      split at h
      · simp only [Prod.mk.injEq] at h
        rw [← h.2] at he
        cases he
      · rename_i h3
        simp only [Prod.mk.injEq] at h
        obtain ⟨rfl, rfl⟩ := h
        refine ⟨by simpa using h1, by omega, by omega, ?_⟩
        rw [← hd.2.2.2.1, List.take_append_drop]
theorem numR_enc {lo hi n : Int} (h1 : lo ≤ n) (h2 : n ≤ hi) (h3 : -9223372036854775808 ≤ n) (h4 : n ≤ 9223372036854775807) (t : List UInt8) : numR lo hi (Wz.enc n ++ t, 0) = (n, (t, 0)) := by
  unfold numR
  have e : Wz.dec (Wz.enc n ++ t) = (n, (Wz.enc n).length, 0) := Wz.dec_enc n h3 h4 t
  simp only [e]
  rw [if_neg (by simp), if_neg (by simp), if_neg (by omega), List.drop_left]
theorem numR_bad {lo hi : Int} {s : Rs} (h : s.2 ≠ 0) : numR lo hi s = (0, s) := if_pos h

/-- a round of Decode's loop -/
def hasC (L : List En) (c : Int) : Bool := L.any fun x => x.2 == c
def dupE (L : List En) (c : Int) (s : Rs) : Rs := if s.2 = 0 ∧ hasC L c = true then (s.1, 6) else s
def rnd (s : Rs) (L : List En) : Rs × List En :=
  (dupE L (numR 1 65536 (numR 0 4294967295 s).2).1 (numR 1 65536 (numR 0 4294967295 s).2).2, L ++ [((numR 0 4294967295 s).1, (numR 1 65536 (numR 0 4294967295 s).2).1)])
def decLoop : Nat → Rs → List En → Rs × List En
  | 0, s, L => (s, L)
  | k + 1, s, L => if s.2 ≠ 0 then (s, L) else decLoop k (rnd s L).1 (rnd s L).2
def tailE (s : Rs) : Nat := if s.2 = 0 ∧ 0 < s.1.length then 6 else s.2
/-- the error, the capacity, the entries -/
def decIx (b : List UInt8) : Nat × Int × List En :=
  (tailE (decLoop (numR 0 (numR 1 4096 (b, 0)).1 (numR 1 4096 (b, 0)).2).1.toNat (numR 0 (numR 1 4096 (b, 0)).1 (numR 1 4096 (b, 0)).2).2 []).1, (numR 1 4096 (b, 0)).1, (decLoop (numR 0 (numR 1 4096 (b, 0)).1 (numR 1 4096 (b, 0)).2).1.toNat (numR 0 (numR 1 4096 (b, 0)).1 (numR 1 4096 (b, 0)).2).2 []).2)
theorem decLoop_bad {k : Nat} {s : Rs} (h : s.2 ≠ 0) (L : List En) : decLoop k s L = (s, L) := by
  cases k with
  | zero => rfl
  | succ k => exact if_pos h
theorem decLoop_step {k : Nat} {s : Rs} (h : s.2 = 0) (L : List En) : decLoop (k + 1) s L = decLoop k (rnd s L).1 (rnd s L).2 := if_neg (by simpa using h)
theorem hasC_iff {L : List En} {c : Int} : hasC L c = true ↔ ∃ x ∈ L, x.2 = c := by simp [hasC]
theorem dupE_ok {L : List En} {c : Int} {s s' : Rs} (h : dupE L c s = s') (he : s'.2 = 0) : s = s' ∧ ∀ x ∈ L, x.2 ≠ c := by
  unfold dupE at h
  split at h
  · subst h; cases he
  · rename_i h1
    subst h
    refine ⟨rfl, fun x hx e => h1 ⟨he, hasC_iff.2 ⟨x, hx, e⟩⟩⟩

theorem decLoop_ok : ∀ (k : Nat) (s : Rs) (L : List En) (s' : Rs) (L' : List En), decLoop k s L = (s', L') → s'.2 = 0 → Wf L →
    s.2 = 0 ∧ ∃ M, L' = L ++ M ∧ M.length = k ∧ s.1 = encEs M ++ s'.1 ∧ Wf L' := by
  intro k
  induction k with
  | zero =>
    intro s L s' L' h he hw
    simp only [decLoop, Prod.mk.injEq] at h
    obtain ⟨rfl, rfl⟩ := h
    exact ⟨he, [], by simp, rfl, by simp [encEs], hw⟩
  | succ k ih =>
    intro s L s' L' h he hw
    by_cases hs : s.2 = 0
    · rw [decLoop_step hs] at h
      obtain ⟨p, s1, h1⟩ : ∃ p s1, numR 0 4294967295 s = (p, s1) := ⟨_, _, rfl⟩
      obtain ⟨c, s2, h2⟩ : ∃ c s2, numR 1 65536 s1 = (c, s2) := ⟨_, _, rfl⟩
      obtain ⟨s3, h3⟩ : ∃ s3, dupE L c s2 = s3 := ⟨_, rfl⟩
      have hr : rnd s L = (s3, L ++ [(p, c)]) := by unfold rnd; rw [h1]; simp only; rw [h2]; simp only; rw [h3]
      rw [hr] at h
      have h0 : s3.2 = 0 := by
        by_cases hz : s3.2 = 0
        · exact hz
        · simp only at h
          rw [decLoop_bad hz] at h
          simp only [Prod.mk.injEq] at h
          rw [h.1] at hz
          exact absurd he hz
      obtain ⟨rfl, hno⟩ := dupE_ok h3 h0
      obtain ⟨he1, hc1, hc2, hcs⟩ := numR_ok h2 h0
      obtain ⟨_, hp1, hp2, hps⟩ := numR_ok h1 he1
      have hw' : Wf (L ++ [(p, c)]) := by
        refine ⟨fun x hx => ?_, ?_⟩
        · rcases List.mem_append.1 hx with hx | hx
          · exact hw.ok x hx
          · rw [List.mem_singleton.1 hx]; exact ⟨hp1, hp2, hc1, hc2⟩
        · rw [List.pairwise_append]
          refine ⟨hw.apart, List.pairwise_singleton _ _, fun x hx y hy => ?_⟩
          rw [List.mem_singleton.1 hy]
          exact hno x hx
      obtain ⟨_, M, hM, hl, hsM, hwM⟩ := ih s2 (L ++ [(p, c)]) s' L' h he hw'
      refine ⟨hs, (p, c) :: M, by rw [hM]; simp, by simp [hl], ?_, hwM⟩
      rw [hps, hcs, hsM]
      show _ = (Wz.enc p ++ Wz.enc c) ++ encEs M ++ s'.1
      simp only [List.append_assoc]
    · rw [decLoop_bad hs] at h
      simp only [Prod.mk.injEq] at h
      rw [h.1] at hs
      exact absurd he hs

/-- what is decoded has exactly this encoding -/
theorem decIx_ok {b : List UInt8} {cap : Int} {L : List En} (h : decIx b = (0, cap, L)) : ∃ m : Nat, cap = (m : Int) ∧ 1 ≤ m ∧ m ≤ 4096 ∧ L.length ≤ m ∧ Wf L ∧ encIx m L = b := by
  unfold decIx at h
  obtain ⟨q, s1, h1⟩ : ∃ q s1, numR 1 4096 (b, 0) = (q, s1) := ⟨_, _, rfl⟩
  rw [h1] at h
  simp only at h
  obtain ⟨n, s2, h2⟩ : ∃ n s2, numR 0 q s1 = (n, s2) := ⟨_, _, rfl⟩
  rw [h2] at h
  simp only at h
  obtain ⟨s3, L3, h3⟩ : ∃ s3 L3, decLoop n.toNat s2 [] = (s3, L3) := ⟨_, _, rfl⟩
  rw [h3] at h
  simp only [Prod.mk.injEq] at h
  obtain ⟨ht, rfl, rfl⟩ := h
  have hs3 : s3.2 = 0 ∧ s3.1 = [] := by
    unfold tailE at ht
    split at ht
    · cases ht
    · rename_i hh
      refine ⟨ht, List.eq_nil_of_length_eq_zero ?_⟩
      by_cases h0 : 0 < s3.1.length
      · exact absurd ⟨ht, h0⟩ hh
      · omega
  obtain ⟨e2, M, rfl, hl, hsM, hw⟩ := decLoop_ok _ _ _ _ _ h3 hs3.1 Wf.nil
  obtain ⟨e1, n1, n2, hs1⟩ := numR_ok h2 e2
  obtain ⟨_, q1, q2, hb⟩ := numR_ok h1 e1
  refine ⟨q.toNat, by omega, by omega, by omega, by first | omega | (simp only [List.nil_append]; omega), hw, ?_⟩
  try simp only [List.nil_append] at *
  try simp only at hb
  rw [hb, hs1, hsM, hs3.2, List.append_nil]
  unfold encIx
  rw [show ((q.toNat : Nat) : Int) = q by omega, show ((L3.length : Nat) : Int) = n by omega, List.append_assoc]

theorem decLoop_enc : ∀ (M : List En) (L : List En) (t : List UInt8), Wf (L ++ M) → decLoop M.length (encEs M ++ t, 0) L = ((t, 0), L ++ M) := by
  intro M
  induction M with
  | nil => intro L t _; simp [decLoop, encEs]
  | cons x M ih =>
    intro L t hw
    obtain ⟨p, c⟩ := x
    have hx := hw.ok (p, c) (by simp)
    have e1 : numR 0 4294967295 (encEs ((p, c) :: M) ++ t, 0) = (p, (Wz.enc c ++ (encEs M ++ t), 0)) := by
      have := numR_enc (lo := 0) (hi := 4294967295) (n := p) hx.1 hx.2.1 (by have := hx.1; simp only at this; omega) (by have := hx.2.1; simp only at this; omega) (Wz.enc c ++ (encEs M ++ t))
      rw [← this]
      congr 2
      show (Wz.enc p ++ Wz.enc c) ++ encEs M ++ t = _
      simp only [List.append_assoc]
    have e2 : numR 1 65536 (Wz.enc c ++ (encEs M ++ t), 0) = (c, (encEs M ++ t, 0)) := numR_enc hx.2.2.1 hx.2.2.2 (by have := hx.2.2.1; simp only at this; omega) (by have := hx.2.2.2; simp only at this; omega) _
    have hno : hasC L c = false := by
      cases h : hasC L c with
      | false => rfl
      | true =>
        obtain ⟨y, hy, e⟩ := hasC_iff.1 h
        exact absurd e ((List.pairwise_append.1 hw.apart).2.2 y hy (p, c) (by simp))
    rw [List.length_cons, decLoop_step rfl]
    have hr : rnd (encEs ((p, c) :: M) ++ t, 0) L = ((encEs M ++ t, 0), L ++ [(p, c)]) := by
      unfold rnd
      rw [e1]
      simp only
      rw [e2]
      simp only
      unfold dupE
      rw [if_neg (by rw [hno]; simp)]
    rw [hr]
    simp only
    rw [ih (L ++ [(p, c)]) t (by rw [List.append_assoc]; exact hw), List.append_assoc]
    rfl
theorem decIx_enc {cap : Nat} {L : List En} (h1 : 1 ≤ cap) (h2 : cap ≤ 4096) (hl : L.length ≤ cap) (hw : Wf L) : decIx (encIx cap L) = (0, (cap : Int), L) := by
  have e1 : numR 1 4096 (encIx cap L, 0) = ((cap : Int), (Wz.enc (L.length : Int) ++ encEs L, 0)) := by
    unfold encIx
    rw [List.append_assoc]
    exact numR_enc (by omega) (by omega) (by omega) (by omega) _
  have e2 : numR 0 (cap : Int) (Wz.enc (L.length : Int) ++ encEs L, 0) = ((L.length : Int), (encEs L, 0)) := numR_enc (by omega) (by omega) (by omega) (by omega) _
  have e3 : decLoop L.length (encEs L, 0) [] = (([], 0), L) := by
    have := decLoop_enc L [] [] (by simpa using hw)
    rw [List.append_nil, List.nil_append] at this
    exact this
  unfold decIx
  rw [e1]
  simp only
  rw [e2]
  simp only [Int.toNat_natCast]
  rw [e3]
  rfl
end Ix
end Go.Proofs.Ytcjeclddpkinkaa
