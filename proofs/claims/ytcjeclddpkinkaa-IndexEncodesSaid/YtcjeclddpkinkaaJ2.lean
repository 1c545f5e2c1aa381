/- The plain law of IndexIncludes: the smaller list is the beginning of the larger one. No program in sight. -/
import Derived.Test.YtcjeclddpkinkaaJ1
set_option linter.unusedSimpArgs false
set_option linter.unusedVariables false
namespace Go.Proofs.Ytcjeclddpkinkaa
namespace Ix

theorem putL_len {cap : Nat} {p c : Int} {L : List En} (h1 : 1 ≤ cap) (h : L.length ≤ cap) : (putL cap p c L).1.length ≤ cap := by
  have := dropL_len c L
  unfold putL
  by_cases hc : (dropL c L).length = L.length ∧ L.length = cap
  · rw [if_pos hc]; simp only [List.length_cons, List.length_dropLast]; omega
  · rw [if_neg hc]
    simp only [List.length_cons]
    by_cases h2 : (dropL c L).length = L.length
    · have : L.length ≠ cap := fun e => hc ⟨h2, e⟩
      omega
    · omega
theorem stepL_cap {cap : Nat} {L : List En} (o : Op3) (h1 : 1 ≤ cap) (h : L.length ≤ cap) : (stepL cap L o).length ≤ cap := by
  unfold stepL
  split
  · exact Nat.le_trans (dropL_len _ _) h
  · split
    · exact putL_len h1 h
    · exact h
theorem dropLast_pre {L M : List En} (h : L <+: M) : L.dropLast <+: M.dropLast := by
  obtain ⟨t, rfl⟩ := h
  cases t with
  | nil => rw [List.append_nil]; exact List.prefix_rfl
  | cons x t =>
    rw [List.dropLast_append_of_ne_nil (by simp)]
    exact (List.dropLast_prefix L).trans (List.prefix_append _ _)
theorem pre_dropLast {L M : List En} (h : L <+: M) (hl : L.length < M.length) : L <+: M.dropLast := by
  obtain ⟨t, rfl⟩ := h
  cases t with
  | nil => simp at hl
  | cons x t =>
    rw [List.dropLast_append_of_ne_nil (by simp)]
    exact List.prefix_append _ _
theorem put_pre {c1 c2 : Nat} {L M : List En} {p c : Int} (h : L <+: M) (hc : c1 ≤ c2) (hL : L.length ≤ c1) (hM : M.length ≤ c2) : (putL c1 p c L).1 <+: (putL c2 p c M).1 := by
  have hD : dropL c L <+: dropL c M := h.filter _
  have h1 := dropL_len c L
  have h2 := dropL_len c M
  have hlen := h.length_le
  have full : ∀ {A : List En}, (dropL c A).length = A.length → dropL c A = A := fun e => (List.filter_sublist).eq_of_length e
  unfold putL
  by_cases e1 : (dropL c L).length = L.length ∧ L.length = c1
  · rw [if_pos e1]
    by_cases e2 : (dropL c M).length = M.length ∧ M.length = c2
    · rw [if_pos e2]; exact (List.prefix_cons_inj _).2 (dropLast_pre h)
    · rw [if_neg e2]
      refine (List.prefix_cons_inj _).2 ?_
      rw [full e1.1] at hD
      exact (List.dropLast_prefix L).trans hD
  · rw [if_neg e1]
    by_cases e2 : (dropL c M).length = M.length ∧ M.length = c2
    · rw [if_pos e2]
      refine (List.prefix_cons_inj _).2 ?_
      have hM2 := full e2.1
      rw [hM2] at hD
      refine pre_dropLast hD ?_
      by_cases e3 : (dropL c L).length = L.length
      · have : L.length ≠ c1 := fun e => e1 ⟨e3, e⟩
        omega
      · omega
    · rw [if_neg e2]; exact (List.prefix_cons_inj _).2 hD
theorem step_pre {c1 c2 : Nat} {L M : List En} (o : Op3) (h : L <+: M) (hc : c1 ≤ c2) (hL : L.length ≤ c1) (hM : M.length ≤ c2) : stepL c1 L o <+: stepL c2 M o := by
  unfold stepL
  split
  · exact h.filter _
  · split
    · exact put_pre h hc hL hM
    · exact h
theorem play_pre {c1 c2 : Nat} (h1 : 1 ≤ c1) (hc : c1 ≤ c2) (l : List Op3) : playL c1 l <+: playL c2 l ∧ (playL c1 l).length ≤ c1 ∧ (playL c2 l).length ≤ c2 := by
  refine Wz.snoc_ind (P := fun l => playL c1 l <+: playL c2 l ∧ (playL c1 l).length ≤ c1 ∧ (playL c2 l).length ≤ c2) ⟨List.prefix_rfl, Nat.zero_le _, Nat.zero_le _⟩ ?_ l
  rintro l a ⟨h, i, j⟩
  rw [playL_snoc, playL_snoc]
  exact ⟨step_pre a h hc i j, stepL_cap a h1 i, stepL_cap a (by omega) j⟩
theorem play_cap {c : Nat} (h1 : 1 ≤ c) (l : List Op3) : (playL c l).length ≤ c := (play_pre h1 (Nat.le_refl c) l).2.1
theorem find_pre {L M : List En} (q : Int) (h : L <+: M) : findL q L <+: findL q M := by
  unfold findL
  exact (h.filter _).map _
theorem playL_wf (cap : Nat) {l : List Op3} (h : ∀ o ∈ l, OkO o) : Wf (playL cap l) := by
  refine Wz.snoc_ind (P := fun l => (∀ o ∈ l, OkO o) → Wf (playL cap l)) (fun _ => Wf.nil) ?_ l h
  intro l a ih h
  rw [playL_snoc]
  exact stepL_wf (ih fun o ho => h o (by simp [ho])) (h a (by simp))

end Ix
end Go.Proofs.Ytcjeclddpkinkaa
