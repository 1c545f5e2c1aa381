/- The plain law of IndexKeepsTheLatest: what the backward loop collects is what an index without bound holds. No program in sight. -/
import Derived.Test.YtcjeclddpkinkaaJ2
set_option linter.unusedSimpArgs false
set_option linter.unusedVariables false
namespace Go.Proofs.Ytcjeclddpkinkaa
namespace Ix

/-- what the backward loop has collected: the wanted entries, the chunks seen, whether there was a drop -/
structure St where
  want : List En
  seen : List Int
  drops : Bool
def stB (s : St) (o : Op3) : St :=
  if s.seen.contains o.chunk || !okC o.chunk then { s with drops := s.drops || o.drop }
  else { want := if o.drop then s.want else s.want ++ [(o.print, o.chunk)], seen := s.seen ++ [o.chunk], drops := s.drops || o.drop }
def stL (l : List Op3) : St := l.foldr (fun o s => stB s o) ⟨[], [], false⟩
theorem stL_cons (o : Op3) (l : List Op3) : stL (o :: l) = stB (stL l) o := rfl

theorem bigger {M : Nat} {p c : Int} {L : List En} (h : L.length < M) : (putL M p c L).1 = (p, c) :: dropL c L := by
  unfold putL
  rw [if_neg (by omega)]
theorem stepL_bigger {M : Nat} {L : List En} (o : Op3) (h : L.length < M) : stepL M L o = if o.drop then dropL o.chunk L else if okC o.chunk then (o.print, o.chunk) :: dropL o.chunk L else L := by
  unfold stepL
  rw [bigger h]
theorem dropL_bad {L : List En} (h : Wf L) {c : Int} (hc : okC c = false) : dropL c L = L := dropL_none fun x hx e => by
  have := (h.ok x hx).2.2
  rw [e] at this
  rw [okC_iff.2 this] at hc
  cases hc
theorem filter_drop (L : List En) (c : Int) (S : List Int) (h : S.contains c = true) : (dropL c L).filter (fun x => !S.contains x.2) = L.filter (fun x => !S.contains x.2) := by
  unfold dropL
  rw [List.filter_filter]
  congr 1
  funext x
  by_cases hx : x.2 = c
  · rw [hx, h]; rfl
  · rw [(bne_iff_ne (a := x.2) (b := c)).2 hx, Bool.and_true]
theorem filter_seen (L : List En) (c : Int) (S : List Int) : (dropL c L).filter (fun x => !S.contains x.2) = L.filter (fun x => !(S ++ [c]).contains x.2) := by
  unfold dropL
  rw [List.filter_filter]
  congr 1
  funext x
  simp only [List.contains_eq_mem, List.mem_append, List.mem_singleton]
  by_cases hx : x.2 = c
  · simp [hx]
  · simp [hx]

theorem play_want (M : Nat) : ∀ (l : List Op3) (L : List En), Wf L → (∀ o ∈ l, OkO o) → L.length + l.length < M →
    l.foldl (stepL M) L = (stL l).want ++ L.filter (fun x => !(stL l).seen.contains x.2) := by
  intro l
  induction l with
  | nil =>
    intro L _ _ _
    show L = [] ++ L.filter _
    rw [List.nil_append, List.filter_eq_self.2]
    intro x _; rfl
  | cons o l ih =>
    intro L hw ho hM
    simp only [List.length_cons] at hM
    have hlen := stepL_len M L o
    rw [List.foldl_cons, ih (stepL M L o) (stepL_wf hw (ho o (by simp))) (fun x hx => ho x (by simp [hx])) (by omega), stL_cons, stepL_bigger o (by omega)]
    obtain ⟨W, S, D⟩ := stL l
    unfold stB
    simp only
    cases hc : okC o.chunk with
    | false =>
      simp only [Bool.not_false, Bool.or_true, if_true, if_false, Bool.false_eq_true]
      rw [dropL_bad hw hc, ite_self]
    | true =>
      cases hs : S.contains o.chunk with
      | true =>
        simp only [Bool.true_or, if_true]
        congr 1
        split
        · exact filter_drop L _ S hs
        · rw [List.filter_cons, hs, if_neg (by simp)]
          exact filter_drop L _ S hs
      | false =>
        simp only [Bool.not_true, Bool.or_false, Bool.false_eq_true, if_false, if_true]
        split
        · rw [filter_seen]
        · rw [List.filter_cons, hs, if_pos (by simp), filter_seen, List.append_assoc]
          rfl
theorem play_is_want (M : Nat) (l : List Op3) (ho : ∀ o ∈ l, OkO o) (hM : l.length < M) : playL M l = (stL l).want := by
  unfold playL
  rw [play_want M l [] Wf.nil ho (by simpa using hM)]
  simp
theorem stL_drops (l : List Op3) : (stL l).drops = l.any (·.drop) := by
  induction l with
  | nil => rfl
  | cons o l ih =>
    rw [stL_cons, List.any_cons, ← ih]
    unfold stB
    split <;> simp [Bool.or_comm]

theorem dropL_mem {L : List En} (h : Wf L) {c : Int} (hc : ∃ x ∈ L, x.2 = c) : (dropL c L).length + 1 = L.length := by
  obtain ⟨A, x, B, rfl, rfl⟩ := mem_split hc
  rw [dropL_at A x B h]
  simp only [List.length_append, List.length_cons]; omega
theorem dropL_one {L : List En} (h : Wf L) (c : Int) : L.length ≤ (dropL c L).length + 1 := by
  by_cases hc : ∃ x ∈ L, x.2 = c
  · rw [dropL_mem h hc]; exact Nat.le_refl _
  · rw [dropL_none (fun x hx e => hc ⟨x, hx, e⟩)]; omega
theorem put_nodrop {c1 M : Nat} {L K : List En} {p c : Int} (h1 : 1 ≤ c1) (hw : Wf K) (h : L <+: K) (hl : L.length = min K.length c1) (hM : K.length < M) :
    (putL c1 p c L).1.length = min (putL M p c K).1.length c1 := by
  rw [bigger hM]
  have hwL : Wf L := hw.sub h.sublist
  have hk := dropL_one hw c
  have hk2 := dropL_len c K
  unfold putL
  by_cases e1 : (dropL c L).length = L.length ∧ L.length = c1
  · rw [if_pos e1]
    simp only [List.length_cons, List.length_dropLast]
    omega
  · rw [if_neg e1]
    simp only [List.length_cons]
    by_cases e2 : (dropL c L).length = L.length
    · have e3 : L.length ≠ c1 := fun e => e1 ⟨e2, e⟩
      have e4 : L = K := h.eq_of_length (by omega)
      subst e4
      omega
    · have hm : ∃ x ∈ L, x.2 = c := by
        by_cases hc : ∃ x ∈ L, x.2 = c
        · exact hc
        · exact absurd (by rw [dropL_none (fun x hx e => hc ⟨x, hx, e⟩)]) e2
      have a := dropL_mem hwL hm
      have b := dropL_mem hw (by obtain ⟨x, hx, e⟩ := hm; exact ⟨x, h.subset hx, e⟩)
      omega
theorem play_nodrop {c1 M : Nat} (h1 : 1 ≤ c1) (hc : c1 ≤ M) (l : List Op3) (ho : ∀ o ∈ l, OkO o) (hM : l.length < M) (hd : l.any (·.drop) = false) :
    (playL c1 l).length = min (playL M l).length c1 := by
  refine Wz.snoc_ind (P := fun l => (∀ o ∈ l, OkO o) → l.length < M → l.any (·.drop) = false → (playL c1 l).length = min (playL M l).length c1) (fun _ _ _ => by simp [playL]) ?_ l ho hM hd
  intro l a ih ho hM hd
  rw [List.length_append, List.length_singleton] at hM
  rw [List.any_append, Bool.or_eq_false_iff] at hd
  have hda : a.drop = false := by simpa using hd.2
  have ho' : ∀ o ∈ l, OkO o := fun o h => ho o (by simp [h])
  have i := ih ho' (by omega) hd.1
  rw [playL_snoc, playL_snoc]
  unfold stepL
  simp only [hda, Bool.false_eq_true, if_false]
  have hkl := playL_len M l
  cases hok : okC a.chunk with
  | false => simp only [Bool.false_eq_true, if_false]; exact i
  | true =>
    simp only [if_true]
    exact put_nodrop h1 (playL_wf M ho') (play_pre h1 hc l).1 i (by omega)

/-- the law: what is compared at the end -/
theorem latest_law {cap : Nat} (h1 : 1 ≤ cap) (l : List Op3) (ho : ∀ o ∈ l, OkO o) :
    playL cap l <+: (stL l).want ∧ (playL cap l).length ≤ min (stL l).want.length cap ∧ ((stL l).drops = false → (playL cap l).length = min (stL l).want.length cap) := by
  have hM : l.length < cap + l.length + 1 := by omega
  have hp := play_pre h1 (show cap ≤ cap + l.length + 1 by omega) l
  have hw := play_is_want _ l ho hM
  rw [hw] at hp
  refine ⟨hp.1, ?_, fun hd => ?_⟩
  · have := hp.1.length_le
    have := hp.2.1
    omega
  · rw [stL_drops] at hd
    have := play_nodrop h1 (show cap ≤ cap + l.length + 1 by omega) l ho hM hd
    rw [hw] at this
    exact this
theorem stL_len (l : List Op3) : (stL l).want.length ≤ l.length ∧ (stL l).seen.length ≤ l.length := by
  induction l with
  | nil => exact ⟨Nat.le_refl _, Nat.le_refl _⟩
  | cons o l ih =>
    rw [stL_cons]
    unfold stB
    split
    · simp only [List.length_cons]; omega
    · simp only [List.length_cons, List.length_append, List.length_nil]
      split
      · omega
      · simp only [List.length_append, List.length_cons, List.length_nil]; omega

end Ix
end Go.Proofs.Ytcjeclddpkinkaa
