/- Merkle trees, plain: roots, proofs, prefix proofs, their checks. No program in sight. -/
import Derived.Test.YtcjeclddpkinkaaDoorWr
set_option linter.unusedVariables false
set_option linter.unusedSimpArgs false
namespace Go.Proofs.YtcjeclddpkinkaaDoor
namespace Mk
open Wz (Dg)

/-- the size of the first part of a list of n elements -/
def sp (n : Nat) : Nat := 2 ^ Nat.log2 (n - 1)
theorem sp_pos (n : Nat) : 1 ≤ sp n := Nat.one_le_two_pow
theorem sp_lt {n : Nat} (h : 2 ≤ n) : sp n < n := by
  have := Nat.log2_self_le (n := n - 1) (by omega)
  unfold sp; omega
theorem sp_le {n : Nat} (h : 2 ≤ n) : n ≤ 2 * sp n := by
  have := Nat.lt_log2_self (n := n - 1)
  unfold sp
  rw [Nat.pow_succ] at this; omega
theorem sp_eq {n j : Nat} (h1 : 2 ^ j < n) (h2 : n ≤ 2 * 2 ^ j) : sp n = 2 ^ j := by
  unfold sp
  have h0 := Nat.one_le_two_pow (n := j)
  have : (n - 1).log2 = j := (Nat.log2_eq_iff (by omega)).2 ⟨by omega, by rw [Nat.pow_succ]; omega⟩
  rw [this]
theorem sp_sp {n m : Nat} (h1 : sp n < m) (h2 : m ≤ n) : sp m = sp n := by
  have hn : 2 ≤ n := by have := sp_pos n; omega
  have := sp_le hn
  exact sp_eq h1 (by unfold sp at this; omega)
theorem sp_sub {n : Nat} (h : 2 ≤ n) : n - sp n ≤ sp n := by have := sp_le h; omega

def dg0 : Dg := ⟨List.replicate 16 0, by simp⟩
def inp (tag : Nat) (parts : List (List UInt8)) : List UInt8 := UInt8.ofNat tag :: parts.flatMap Wz.encB
def leafIn (d : Dg) : List UInt8 := inp 1 [d.1]
def nodeIn (a b : Dg) : List UInt8 := inp 2 [a.1, b.1]

section
variable (H : List UInt8 → Dg)
def nd (a b : Dg) : Dg := H (nodeIn a b)

/-- the root of a list -/
def rootF (l : List Dg) : Dg :=
  if l.length = 0 then H (inp 1 [])
  else if h1 : l.length = 1 then H (leafIn (l.getD 0 dg0))
  else H (nodeIn (rootF (l.take (sp l.length))) (rootF (l.drop (sp l.length))))
termination_by l.length
decreasing_by
  · rw [List.length_take]; have := sp_lt (n := l.length) (by omega); omega
  · rw [List.length_drop]; have := sp_pos l.length; omega
theorem root_zero : rootF H [] = H (inp 1 []) := by unfold rootF; simp
theorem root_one (d : Dg) : rootF H [d] = H (leafIn d) := by unfold rootF; simp
theorem root_two {l : List Dg} (h : 2 ≤ l.length) : rootF H l = nd H (rootF H (l.take (sp l.length))) (rootF H (l.drop (sp l.length))) := by
  conv => lhs; unfold rootF
  rw [if_neg (by omega), dif_neg (by omega)]
  rfl

/-- the proof of an element -/
def proveF (l : List Dg) (i : Nat) : List Dg :=
  if h : l.length < 2 then []
  else if i < sp l.length then proveF (l.take (sp l.length)) i ++ [rootF H (l.drop (sp l.length))]
  else proveF (l.drop (sp l.length)) (i - sp l.length) ++ [rootF H (l.take (sp l.length))]
termination_by l.length
decreasing_by
  · rw [List.length_take]; have := sp_lt (n := l.length) (by omega); omega
  · rw [List.length_drop]; have := sp_pos l.length; omega
theorem prove_one {l : List Dg} (h : l.length < 2) (i : Nat) : proveF H l i = [] := by unfold proveF; rw [dif_pos h]
theorem prove_left {l : List Dg} (h : 2 ≤ l.length) {i : Nat} (hi : i < sp l.length) : proveF H l i = proveF H (l.take (sp l.length)) i ++ [rootF H (l.drop (sp l.length))] := by
  conv => lhs; unfold proveF
  rw [dif_neg (by omega), if_pos hi]
theorem prove_right {l : List Dg} (h : 2 ≤ l.length) {i : Nat} (hi : sp l.length ≤ i) : proveF H l i = proveF H (l.drop (sp l.length)) (i - sp l.length) ++ [rootF H (l.take (sp l.length))] := by
  conv => lhs; unfold proveF
  rw [dif_neg (by omega), if_neg (by omega)]

theorem prove_len : ∀ (l : List Dg) (i : Nat), (proveF H l i).length ≤ l.length := by
  intro l
  induction hn : l.length using Nat.strongRecOn generalizing l with
  | ind n ih =>
    intro i
    subst hn
    by_cases h2 : l.length < 2
    · rw [prove_one H h2]; simp
    · have hlt := sp_lt (n := l.length) (by omega)
      have hps := sp_pos l.length
      have h1 : (l.take (sp l.length)).length = sp l.length := by rw [List.length_take]; omega
      have h3 : (l.drop (sp l.length)).length = l.length - sp l.length := by rw [List.length_drop]
      by_cases hi : i < sp l.length
      · rw [prove_left H (by omega) hi, List.length_append]
        have := ih (l.take (sp l.length)).length (by omega) (l.take (sp l.length)) rfl i
        simp only [List.length_singleton]; omega
      · rw [prove_right H (by omega) (by omega), List.length_append]
        have := ih (l.drop (sp l.length)).length (by omega) (l.drop (sp l.length)) rfl (i - sp l.length)
        simp only [List.length_singleton]; omega

/-- the sides of the siblings, from the leaf upwards: true, if the sibling comes first -/
def dirs (n i : Nat) : List Bool :=
  if h : n < 2 then []
  else if i < sp n then dirs (sp n) i ++ [false] else dirs (n - sp n) (i - sp n) ++ [true]
termination_by n
decreasing_by
  · exact sp_lt (by omega)
  · have := sp_pos n; omega
theorem dirs_one {n : Nat} (h : n < 2) (i : Nat) : dirs n i = [] := by unfold dirs; rw [dif_pos h]
theorem dirs_left {n i : Nat} (h : 2 ≤ n) (hi : i < sp n) : dirs n i = dirs (sp n) i ++ [false] := by
  conv => lhs; unfold dirs
  rw [dif_neg (by omega), if_pos hi]
theorem dirs_right {n i : Nat} (h : 2 ≤ n) (hi : sp n ≤ i) : dirs n i = dirs (n - sp n) (i - sp n) ++ [true] := by
  conv => lhs; unfold dirs
  rw [dif_neg (by omega), if_neg (by omega)]
theorem dirs_len : ∀ (j n i : Nat), n ≤ 2 ^ j → (dirs n i).length ≤ j
  | 0, n, i, h => by rw [dirs_one (by simp at h; omega)]; simp
  | j + 1, n, i, h => by
    by_cases hn : n < 2
    · rw [dirs_one hn]; simp
    · have hk : sp n ≤ 2 ^ j := by
        rcases Nat.lt_or_ge (sp n) (2 ^ j + 1) with h1 | h1
        · omega
        · exfalso
          have h2 := sp_lt (n := n) (by omega)
          unfold sp at h1 h2
          have h3 : 2 ^ Nat.log2 (n - 1) < 2 ^ (j + 1) := by omega
          have h4 := (Nat.pow_lt_pow_iff_right (by decide : 1 < 2)).1 h3
          have h5 : 2 ^ Nat.log2 (n - 1) ≤ 2 ^ j := Nat.pow_le_pow_right (by decide) (by omega)
          omega
      by_cases hi : i < sp n
      · rw [dirs_left (by omega) hi, List.length_append]
        have := dirs_len j (sp n) i hk
        simp; omega
      · rw [dirs_right (by omega) (by omega), List.length_append]
        have := dirs_len j (n - sp n) (i - sp n) (by have := sp_sub (n := n) (by omega); omega)
        simp; omega

/-- the inputs of the hashes of a proof -/
def stepIn (o : List (List UInt8)) (x : Bool × Dg) : List (List UInt8) := o ++ [if x.1 then nodeIn x.2 (H (o.getLastD [])) else nodeIn (H (o.getLastD [])) x.2]
def insF (d : Dg) (l : List (Bool × Dg)) : List (List UInt8) := l.foldl (stepIn H) [leafIn d]
theorem ins_snoc (d : Dg) (l : List (Bool × Dg)) (x : Bool × Dg) : insF H d (l ++ [x]) = stepIn H (insF H d l) x := by simp [insF]
theorem ins_len (d : Dg) (l : List (Bool × Dg)) : (insF H d l).length = l.length + 1 := by
  refine Wz.snoc_ind (P := fun l => (insF H d l).length = l.length + 1) rfl ?_ l
  intro l a ih
  rw [ins_snoc, stepIn, List.length_append, ih, List.length_append]; rfl
def inputsF (n i : Nat) (d : Dg) (proof : List Dg) : Option (List (List UInt8)) :=
  if n ≤ i then none else if (dirs n i).length = proof.length then some (insF H d ((dirs n i).zip proof)) else none
theorem zip_snoc {α β : Type} (l : List α) (m : List β) (h : l.length = m.length) (a : α) (b : β) : (l ++ [a]).zip (m ++ [b]) = l.zip m ++ [(a, b)] := by
  rw [List.zip_append h]; rfl
theorem inputs_out {n i : Nat} (h : n ≤ i) (d : Dg) (proof : List Dg) : inputsF H n i d proof = none := if_pos h
theorem inputs_one (i : Nat) (h : i < 1) (d : Dg) (proof : List Dg) : inputsF H 1 i d proof = if proof.length = 0 then some [leafIn d] else none := by
  unfold inputsF
  rw [if_neg (by omega), dirs_one (by omega)]
  by_cases hp : proof.length = 0
  · rw [if_pos hp, if_pos (by simp [hp])]; simp [insF]
  · rw [if_neg hp, if_neg (by simp; omega)]
theorem inputs_nil {n i : Nat} (h : 2 ≤ n) (d : Dg) : inputsF H n i d [] = none := by
  unfold inputsF
  split
  · rfl
  · rw [if_neg]
    by_cases hi : i < sp n
    · rw [dirs_left h hi]; simp
    · rw [dirs_right h (by omega)]; simp
theorem inputs_left {n i : Nat} (h : 2 ≤ n) (hi : i < sp n) (d : Dg) (proof : List Dg) (x : Dg) :
    inputsF H n i d (proof ++ [x]) = (inputsF H (sp n) i d proof).map fun o => o ++ [nodeIn (H (o.getLastD [])) x] := by
  unfold inputsF
  have := sp_lt h
  rw [if_neg (show ¬ n ≤ i by omega), if_neg (show ¬ sp n ≤ i by omega), dirs_left h hi, List.length_append, List.length_append]
  by_cases hl : (dirs (sp n) i).length = proof.length
  · rw [if_pos hl, if_pos (by simp [hl]), zip_snoc _ _ hl, ins_snoc]; simp [stepIn]
  · rw [if_neg hl, if_neg (by simp; exact hl)]; rfl
theorem inputs_right {n i : Nat} (h : 2 ≤ n) (hi : sp n ≤ i) (hn : i < n) (d : Dg) (proof : List Dg) (x : Dg) :
    inputsF H n i d (proof ++ [x]) = (inputsF H (n - sp n) (i - sp n) d proof).map fun o => o ++ [nodeIn x (H (o.getLastD []))] := by
  unfold inputsF
  have := sp_lt h
  rw [if_neg (show ¬ n ≤ i by omega), if_neg (show ¬ n - sp n ≤ i - sp n by omega), dirs_right h hi, List.length_append, List.length_append]
  by_cases hl : (dirs (n - sp n) (i - sp n)).length = proof.length
  · rw [if_pos hl, if_pos (by simp [hl]), zip_snoc _ _ hl, ins_snoc]; simp [stepIn]
  · rw [if_neg hl, if_neg (by simp; exact hl)]; rfl
theorem inputs_len {n i : Nat} {d : Dg} {proof : List Dg} {o : List (List UInt8)} (h : inputsF H n i d proof = some o) : o.length = proof.length + 1 := by
  unfold inputsF at h
  split at h
  · cases h
  · split at h
    · rename_i hl
      cases h
      rw [ins_len, List.length_zip, hl, Nat.min_self]
    · cases h
def verifyF (root : Dg) (n i : Nat) (d : Dg) (proof : List Dg) : Bool := match inputsF H n i d proof with
  | none => false
  | some o => decide (H (o.getLastD []) = root)

theorem last_snoc (o : List (List UInt8)) (x : List UInt8) : (o ++ [x]).getLastD [] = x := by simp [List.getLastD_eq_getLast?]
/-- the proof of an element is accepted -/
theorem prove_accepted : ∀ (m : Nat) (l : List Dg), l.length = m → ∀ i, i < l.length → ∃ o, inputsF H l.length i (l.getD i dg0) (proveF H l i) = some o ∧ H (o.getLastD []) = rootF H l := by
  intro m
  induction m using Nat.strongRecOn with
  | ind m ih =>
    intro l hl i hi
    by_cases h2 : l.length < 2
    · obtain ⟨d, rfl⟩ : ∃ d, l = [d] := List.length_eq_one_iff.1 (by omega)
      simp only [List.length_singleton] at hi ⊢
      obtain rfl : i = 0 := by omega
      refine ⟨[leafIn d], ?_, by rw [root_one]; rfl⟩
      rw [prove_one H (by simp), inputs_one H 0 (by omega)]; rfl
    · have h2 : 2 ≤ l.length := by omega
      have hlt := sp_lt h2
      have hpos := sp_pos l.length
      by_cases hk : i < sp l.length
      · have ht : (l.take (sp l.length)).length = sp l.length := by rw [List.length_take]; omega
        obtain ⟨o, h3, h4⟩ := ih (sp l.length) (by omega) (l.take (sp l.length)) ht i (by omega)
        rw [ht] at h3
        have hg : (l.take (sp l.length)).getD i dg0 = l.getD i dg0 := by simp [List.getD, List.getElem?_take, hk]
        rw [hg] at h3
        refine ⟨o ++ [nodeIn (H (o.getLastD [])) (rootF H (l.drop (sp l.length)))], ?_, ?_⟩
        · rw [prove_left H h2 hk, inputs_left H h2 hk, h3]; rfl
        · rw [last_snoc, h4, root_two H h2]; rfl
      · have ht : (l.drop (sp l.length)).length = l.length - sp l.length := by rw [List.length_drop]
        obtain ⟨o, h3, h4⟩ := ih (l.length - sp l.length) (by omega) (l.drop (sp l.length)) ht (i - sp l.length) (by omega)
        rw [ht] at h3
        have hg : (l.drop (sp l.length)).getD (i - sp l.length) dg0 = l.getD i dg0 := by
          simp only [List.getD, List.getElem?_drop]
          rw [show sp l.length + (i - sp l.length) = i from by omega]
        rw [hg] at h3
        refine ⟨o ++ [nodeIn (rootF H (l.take (sp l.length))) (H (o.getLastD []))], ?_, ?_⟩
        · rw [prove_right H h2 (by omega), inputs_right H h2 (by omega) hi, h3]; rfl
        · rw [last_snoc, h4, root_two H h2]; rfl
theorem prove_verified (l : List Dg) (i : Nat) (hi : i < l.length) : verifyF H (rootF H l) l.length i (l.getD i dg0) (proveF H l i) = true := by
  obtain ⟨o, h1, h2⟩ := prove_accepted H l.length l rfl i hi
  unfold verifyF
  rw [h1]
  exact decide_eq_true h2

/-- the prefix proof -/
def subF (l : List Dg) (m : Nat) (whole : Bool) : List Dg :=
  if h : l.length ≤ m ∨ l.length < 2 then (if whole then [] else [rootF H l])
  else if m ≤ sp l.length then subF (l.take (sp l.length)) m whole ++ [rootF H (l.drop (sp l.length))]
  else subF (l.drop (sp l.length)) (m - sp l.length) false ++ [rootF H (l.take (sp l.length))]
termination_by l.length
decreasing_by
  · rw [List.length_take]; have := sp_lt (n := l.length) (by omega); omega
  · rw [List.length_drop]; have := sp_pos l.length; omega
theorem sub_end {l : List Dg} {m : Nat} (h : l.length ≤ m) (whole : Bool) : subF H l m whole = if whole then [] else [rootF H l] := by
  conv => lhs; unfold subF
  rw [dif_pos (.inl h)]
theorem sub_left {l : List Dg} {m : Nat} (h : m < l.length) (h1 : 1 ≤ m) (hk : m ≤ sp l.length) (whole : Bool) : subF H l m whole = subF H (l.take (sp l.length)) m whole ++ [rootF H (l.drop (sp l.length))] := by
  conv => lhs; unfold subF
  rw [dif_neg (by omega), if_pos hk]
theorem sub_right {l : List Dg} {m : Nat} (h : m < l.length) (hk : sp l.length < m) (whole : Bool) : subF H l m whole = subF H (l.drop (sp l.length)) (m - sp l.length) false ++ [rootF H (l.take (sp l.length))] := by
  have := sp_pos l.length
  conv => lhs; unfold subF
  rw [dif_neg (by omega), if_neg (by omega)]

/-- the sides of a prefix proof, from below, and whether the part below is the old list itself -/
def pdirs (n m : Nat) (whole : Bool) : List Bool × Bool :=
  if h : n ≤ m ∨ n < 2 then ([], whole)
  else if m ≤ sp n then ((pdirs (sp n) m whole).1 ++ [false], (pdirs (sp n) m whole).2)
  else ((pdirs (n - sp n) (m - sp n) false).1 ++ [true], (pdirs (n - sp n) (m - sp n) false).2)
termination_by n
decreasing_by
  all_goals first | (have := sp_pos n; omega) | exact sp_lt (by omega)
theorem pdirs_end {n m : Nat} (h : n ≤ m) (whole : Bool) : pdirs n m whole = ([], whole) := by unfold pdirs; rw [dif_pos (.inl h)]
theorem pdirs_left {n m : Nat} (h : m < n) (h1 : 1 ≤ m) (hk : m ≤ sp n) (whole : Bool) : pdirs n m whole = ((pdirs (sp n) m whole).1 ++ [false], (pdirs (sp n) m whole).2) := by
  conv => lhs; unfold pdirs
  rw [dif_neg (by omega), if_pos hk]
theorem pdirs_right {n m : Nat} (h : m < n) (hk : sp n < m) (whole : Bool) : pdirs n m whole = ((pdirs (n - sp n) (m - sp n) false).1 ++ [true], (pdirs (n - sp n) (m - sp n) false).2) := by
  have := sp_pos n
  conv => lhs; unfold pdirs
  rw [dif_neg (by omega), if_neg (by omega)]
theorem sp_le_two {n j : Nat} (h : n ≤ 2 ^ (j + 1)) (h2 : 2 ≤ n) : sp n ≤ 2 ^ j := by
  rcases Nat.lt_or_ge (sp n) (2 ^ j + 1) with h1 | h1
  · omega
  · exfalso
    have h2 := sp_lt (n := n) (by omega)
    unfold sp at h1 h2
    have h3 : 2 ^ Nat.log2 (n - 1) < 2 ^ (j + 1) := by omega
    have h4 := (Nat.pow_lt_pow_iff_right (by decide : 1 < 2)).1 h3
    have h5 : 2 ^ Nat.log2 (n - 1) ≤ 2 ^ j := Nat.pow_le_pow_right (by decide) (by omega)
    omega
theorem pdirs_len : ∀ (j n m : Nat) (whole : Bool), n ≤ 2 ^ j → 1 ≤ m → ((pdirs n m whole).1).length ≤ j
  | 0, n, m, whole, h, h1 => by rw [pdirs_end (by simp at h; omega)]; simp
  | j + 1, n, m, whole, h, h1 => by
    by_cases hn : n ≤ m
    · rw [pdirs_end hn]; simp
    · have hk : sp n ≤ 2 ^ j := sp_le_two h (by omega)
      by_cases hi : m ≤ sp n
      · rw [pdirs_left (by omega) h1 hi]
        have := pdirs_len j (sp n) m whole hk h1
        simp; omega
      · rw [pdirs_right (by omega) (by omega)]
        have := pdirs_len j (n - sp n) (m - sp n) false (by have := sp_sub (n := n) (by omega); omega) (by omega)
        simp; omega
def stepP (s : Dg × Dg) (x : Bool × Dg) : Dg × Dg := if x.1 then (nd H x.2 s.1, nd H x.2 s.2) else (s.1, nd H s.2 x.2)
def foldP (x : Dg) (l : List (Bool × Dg)) : Dg × Dg := l.foldl (stepP H) (x, x)
theorem foldP_snoc (x : Dg) (l : List (Bool × Dg)) (a : Bool × Dg) : foldP H x (l ++ [a]) = stepP H (foldP H x l) a := by simp [foldP]
/-- what the check of a prefix proof computes -/
def vpF (old root : Dg) (m n : Nat) (proof : List Dg) : Bool :=
  if m < 1 ∨ n < m then false
  else if (pdirs n m true).2 then (if proof.length = (pdirs n m true).1.length then decide (foldP H old ((pdirs n m true).1.zip proof) = (old, root)) else false)
  else match proof with
    | [] => false
    | p :: ps => if ps.length = (pdirs n m true).1.length then decide (foldP H p ((pdirs n m true).1.zip ps) = (old, root)) else false

/-- the reference's pair -/
def pairF (old : Dg) (n m : Nat) (whole : Bool) (proof : List Dg) : Dg × Dg × Bool :=
  if h : n ≤ m ∨ n < 2 then
    if whole then (old, old, decide (proof.length = 0))
    else if proof.length = 0 then (dg0, dg0, false) else (proof.getLastD dg0, proof.getLastD dg0, decide (proof.length = 1))
  else if proof.length = 0 then (dg0, dg0, false)
  else if m ≤ sp n then ((pairF old (sp n) m whole proof.dropLast).1, nd H (pairF old (sp n) m whole proof.dropLast).2.1 (proof.getLastD dg0), (pairF old (sp n) m whole proof.dropLast).2.2)
  else (nd H (proof.getLastD dg0) (pairF old (n - sp n) (m - sp n) false proof.dropLast).1, nd H (proof.getLastD dg0) (pairF old (n - sp n) (m - sp n) false proof.dropLast).2.1, (pairF old (n - sp n) (m - sp n) false proof.dropLast).2.2)
termination_by n
decreasing_by
  all_goals first | (have := sp_pos n; omega) | exact sp_lt (by omega)
theorem pair_whole {n m : Nat} (h : n ≤ m) (old : Dg) (proof : List Dg) : pairF H old n m true proof = (old, old, decide (proof.length = 0)) := by
  unfold pairF; rw [dif_pos (.inl h), if_pos rfl]
theorem pair_part {n m : Nat} (h : n ≤ m) (old : Dg) (proof : List Dg) : pairF H old n m false proof = if proof.length = 0 then (dg0, dg0, false) else (proof.getLastD dg0, proof.getLastD dg0, decide (proof.length = 1)) := by
  unfold pairF; rw [dif_pos (.inl h), if_neg (by simp)]
theorem pair_nil {n m : Nat} (h : m < n) (h1 : 1 ≤ m) (old : Dg) (whole : Bool) : pairF H old n m whole [] = (dg0, dg0, false) := by
  unfold pairF; rw [dif_neg (by omega), if_pos List.length_nil]
theorem pair_left {n m : Nat} (h : m < n) (h1 : 1 ≤ m) (hk : m ≤ sp n) (old : Dg) (whole : Bool) (ps : List Dg) (p : Dg) :
    pairF H old n m whole (ps ++ [p]) = ((pairF H old (sp n) m whole ps).1, nd H (pairF H old (sp n) m whole ps).2.1 p, (pairF H old (sp n) m whole ps).2.2) := by
  conv => lhs; unfold pairF
  rw [dif_neg (by omega), if_neg (by simp), if_pos hk]
  simp [List.getLastD_eq_getLast?]
theorem pair_right {n m : Nat} (h : m < n) (hk : sp n < m) (old : Dg) (whole : Bool) (ps : List Dg) (p : Dg) :
    pairF H old n m whole (ps ++ [p]) = (nd H p (pairF H old (n - sp n) (m - sp n) false ps).1, nd H p (pairF H old (n - sp n) (m - sp n) false ps).2.1, (pairF H old (n - sp n) (m - sp n) false ps).2.2) := by
  have := sp_pos n
  conv => lhs; unfold pairF
  rw [dif_neg (by omega), if_neg (by simp), if_neg (by omega)]
  simp [List.getLastD_eq_getLast?]
/-- what is at the bottom: the old root itself, or the first element -/
def PairOk (old : Dg) (r : List Bool × Bool) (proof : List Dg) (q : Dg × Dg × Bool) : Prop :=
  if r.2 then (q.2.2 = decide (proof.length = r.1.length)) ∧ (proof.length = r.1.length → (q.1, q.2.1) = foldP H old (r.1.zip proof))
  else match proof with
    | [] => q.2.2 = false
    | p :: ps => q.2.2 = decide (ps.length = r.1.length) ∧ (ps.length = r.1.length → (q.1, q.2.1) = foldP H p (r.1.zip ps))
theorem pair_ok (old : Dg) : ∀ (n m : Nat) (whole : Bool) (proof : List Dg), 1 ≤ m → PairOk H old (pdirs n m whole) proof (pairF H old n m whole proof) := by
  intro n
  induction n using Nat.strongRecOn with
  | ind n ih =>
    intro m whole proof h1
    by_cases hn : n ≤ m
    · rw [pdirs_end hn]
      cases whole with
      | true =>
        rw [pair_whole H hn]
        unfold PairOk
        rw [if_pos rfl]
        refine ⟨rfl, fun h => ?_⟩
        simp [foldP]
      | false =>
        rw [pair_part H hn]
        unfold PairOk
        rw [if_neg (by simp)]
        cases proof with
        | nil => rfl
        | cons p ps =>
          rw [if_neg (by simp)]
          refine ⟨by simp, fun h => ?_⟩
          have : ps = [] := List.eq_nil_of_length_eq_zero (by simpa using h)
          subst this
          simp [foldP]
    · by_cases hp : proof = []
      · subst hp
        rw [pair_nil H (by omega) h1]
        unfold PairOk
        split
        · refine ⟨?_, fun h => ?_⟩
          · by_cases hk : m ≤ sp n
            · rw [pdirs_left (by omega) h1 hk]; simp
            · rw [pdirs_right (by omega) (by omega)]; simp
          · exfalso
            by_cases hk : m ≤ sp n
            · rw [pdirs_left (by omega) h1 hk] at h; simp at h
            · rw [pdirs_right (by omega) (by omega)] at h; simp at h
        · rfl
      · obtain ⟨qs, q, rfl⟩ : ∃ qs q, proof = qs ++ [q] := ⟨proof.dropLast, proof.getLast hp, (List.dropLast_concat_getLast hp).symm⟩
        have hspp := sp_pos n
        have hlt := sp_lt (n := n) (by omega)
        by_cases hk : m ≤ sp n
        · rw [pair_left H (by omega) h1 hk, pdirs_left (by omega) h1 hk]
          have h := ih (sp n) hlt m whole qs h1
          obtain ⟨r, hr⟩ : ∃ r, pdirs (sp n) m whole = r := ⟨_, rfl⟩
          obtain ⟨z, hz⟩ : ∃ z, pairF H old (sp n) m whole qs = z := ⟨_, rfl⟩
          rw [hr, hz] at h
          rw [hr, hz]
          obtain ⟨r1, r2⟩ := r
          obtain ⟨z1, z2, z3⟩ := z
          cases r2 with
          | true =>
            unfold PairOk at h ⊢
            simp only [if_true] at h ⊢
            refine ⟨by rw [h.1]; simp, fun hl => ?_⟩
            have hl' : qs.length = r1.length := by simpa using hl
            have h2 := h.2 hl'
            rw [zip_snoc _ _ hl'.symm, foldP_snoc, ← h2]
            simp [stepP]
          | false =>
            unfold PairOk at h ⊢
            simp only [Bool.false_eq_true, if_false] at h ⊢
            cases qs with
            | nil =>
              simp only [List.nil_append] at h ⊢
              refine ⟨by rw [h]; simp, fun hl => ?_⟩
              simp at hl
            | cons p ps =>
              simp only [List.cons_append] at h ⊢
              refine ⟨by rw [h.1]; simp, fun hl => ?_⟩
              have hl' : ps.length = r1.length := by simpa using hl
              have h2 := h.2 hl'
              rw [zip_snoc _ _ hl'.symm, foldP_snoc, ← h2]
              simp [stepP]
        · rw [pair_right H (by omega) (by omega), pdirs_right (by omega) (by omega)]
          have h := ih (n - sp n) (by omega) (m - sp n) false qs (by omega)
          obtain ⟨r, hr⟩ : ∃ r, pdirs (n - sp n) (m - sp n) false = r := ⟨_, rfl⟩
          obtain ⟨z, hz⟩ : ∃ z, pairF H old (n - sp n) (m - sp n) false qs = z := ⟨_, rfl⟩
          rw [hr, hz] at h
          rw [hr, hz]
          obtain ⟨r1, r2⟩ := r
          obtain ⟨z1, z2, z3⟩ := z
          cases r2 with
          | true =>
            unfold PairOk at h ⊢
            simp only [if_true] at h ⊢
            refine ⟨by rw [h.1]; simp, fun hl => ?_⟩
            have hl' : qs.length = r1.length := by simpa using hl
            have h2 := h.2 hl'
            rw [zip_snoc _ _ hl'.symm, foldP_snoc, ← h2]
            simp [stepP]
          | false =>
            unfold PairOk at h ⊢
            simp only [Bool.false_eq_true, if_false] at h ⊢
            cases qs with
            | nil =>
              simp only [List.nil_append] at h ⊢
              refine ⟨by rw [h]; simp, fun hl => ?_⟩
              simp at hl
            | cons p ps =>
              simp only [List.cons_append] at h ⊢
              refine ⟨by rw [h.1]; simp, fun hl => ?_⟩
              have hl' : ps.length = r1.length := by simpa using hl
              have h2 := h.2 hl'
              rw [zip_snoc _ _ hl'.symm, foldP_snoc, ← h2]
              simp [stepP]
/-- the reference's answer -/
def rvpF (old root : Dg) (m n : Nat) (proof : List Dg) : Bool :=
  if m < 1 ∨ n < m then false else (pairF H old n m true proof).2.2 && decide ((pairF H old n m true proof).1 = old) && decide ((pairF H old n m true proof).2.1 = root)
theorem rvp_eq (old root : Dg) (m n : Nat) (proof : List Dg) : rvpF H old root m n proof = vpF H old root m n proof := by
  unfold rvpF vpF
  by_cases h : m < 1 ∨ n < m
  · rw [if_pos h, if_pos h]
  · rw [if_neg h, if_neg h]
    have hp := pair_ok H old n m true proof (by omega)
    obtain ⟨⟨r1, r2⟩, hr⟩ : ∃ r, pdirs n m true = r := ⟨_, rfl⟩
    obtain ⟨⟨z1, z2, z3⟩, hz⟩ : ∃ z, pairF H old n m true proof = z := ⟨_, rfl⟩
    rw [hr, hz] at hp
    rw [hr, hz]
    cases r2 with
    | true =>
      unfold PairOk at hp
      simp only [if_true] at hp ⊢
      obtain ⟨rfl, h2⟩ := hp
      by_cases hl : proof.length = r1.length
      · rw [if_pos hl, ← h2 hl, Bool.eq_iff_iff]; simp [hl]
      · rw [if_neg hl]; simp [hl]
    | false =>
      unfold PairOk at hp
      simp only [Bool.false_eq_true, if_false] at hp ⊢
      cases proof with
      | nil => simp only at hp ⊢; rw [hp]; simp
      | cons p ps =>
        simp only at hp ⊢
        obtain ⟨rfl, h2⟩ := hp
        by_cases hl : ps.length = r1.length
        · rw [if_pos hl, ← h2 hl, Bool.eq_iff_iff]; simp [hl]
        · rw [if_neg hl]; simp [hl]

/-- the prefix proof is accepted -/
theorem sub_pair : ∀ (n : Nat) (l : List Dg) (m : Nat) (whole : Bool) (old : Dg), l.length = n → 1 ≤ m → m ≤ l.length → (whole = true → old = rootF H (l.take m)) →
    pairF H old l.length m whole (subF H l m whole) = (rootF H (l.take m), rootF H l, true) := by
  intro n
  induction n using Nat.strongRecOn with
  | ind n ih =>
    intro l m whole old hl h1 hm hold
    by_cases he : l.length ≤ m
    · have ht : l.take m = l := List.take_of_length_le he
      rw [sub_end H he, ht]
      rw [ht] at hold
      cases whole with
      | true =>
        rw [hold rfl, if_pos rfl, pair_whole H he]; rfl
      | false =>
        rw [if_neg (by simp), pair_part H he]; rfl
    · have h2 : 2 ≤ l.length := by omega
      have hlt := sp_lt h2
      have hpos := sp_pos l.length
      by_cases hk : m ≤ sp l.length
      · have ht : (l.take (sp l.length)).length = sp l.length := by rw [List.length_take]; omega
        have hm2 : (l.take (sp l.length)).take m = l.take m := by rw [List.take_take, Nat.min_eq_left hk]
        have h := ih (sp l.length) (by omega) (l.take (sp l.length)) m whole old ht h1 (by omega) (by rw [hm2]; exact hold)
        rw [ht, hm2] at h
        rw [sub_left H (by omega) h1 hk, pair_left H (by omega) h1 hk, h]
        simp only
        rw [← root_two H h2]
      · have ht : (l.drop (sp l.length)).length = l.length - sp l.length := by rw [List.length_drop]
        have h := ih (l.length - sp l.length) (by omega) (l.drop (sp l.length)) (m - sp l.length) false old ht (by omega) (by omega) (by simp)
        rw [ht] at h
        rw [sub_right H (by omega) (by omega), pair_right H (by omega) (by omega), h]
        simp only
        rw [← root_two H h2]
        congr 1
        have hlm : (l.take m).length = m := by rw [List.length_take]; omega
        have hsp : sp (l.take m).length = sp l.length := by rw [hlm]; exact sp_sp (by omega) hm
        rw [root_two H (l := l.take m) (by omega), hsp, List.take_take, Nat.min_eq_left (by omega), List.drop_take]
theorem sub_verified (l : List Dg) (m : Nat) (h1 : 1 ≤ m) (hm : m ≤ l.length) : vpF H (rootF H (l.take m)) (rootF H l) m l.length (subF H l m true) = true := by
  rw [← rvp_eq]
  unfold rvpF
  rw [if_neg (by omega), sub_pair H l.length l m true _ rfl h1 hm (fun _ => rfl)]
  simp

/-! ### a clash -/
/-- the highest place at which two lists part -/
def lastDiff (x y : List (List UInt8)) : Option (List UInt8 × List UInt8) := (x.zip y).reverse.find? fun p => decide (p.1 ≠ p.2)
def clashF (n i : Nat) (a b : Dg) (p q : List Dg) : Option (List UInt8 × List UInt8) := match inputsF H n i a p, inputsF H n i b q with
  | some x, some y => if H (x.getLastD []) = H (y.getLastD []) then lastDiff x y else none
  | _, _ => none
end

end Mk
end Go.Proofs.YtcjeclddpkinkaaDoor
