/- The plain law of the index: a list of entries and the links that stand for it. No program in sight. -/
import Derived.Test.YtcjeclddpkinkaaI3
set_option linter.unusedSimpArgs false
set_option linter.unusedVariables false
namespace Go.Proofs.Ytcjeclddpkinkaa
namespace Ix

/-- an entry: its fingerprint, its chunk -/
abbrev En := Int × Int
def fstOf : List En → Int
  | [] => 0
  | x :: _ => x.2
def lstOf (q : Int) : List En → Int
  | [] => q
  | x :: t => lstOf x.2 t
def lk (q : Int) : List En → Int → Option Lk
  | [], _ => none
  | x :: t, c => if c = x.2 then some (x.1, q, fstOf t) else lk x.2 t c
theorem lk_cons (q : Int) (x : En) (t : List En) (c : Int) : lk q (x :: t) c = if c = x.2 then some (x.1, q, fstOf t) else lk x.2 t c := rfl
theorem fstOf_cons (x : En) (t : List En) : fstOf (x :: t) = x.2 := rfl
theorem lstOf_cons (q : Int) (x : En) (t : List En) : lstOf q (x :: t) = lstOf x.2 t := rfl
def OkE (x : En) : Prop := 0 ≤ x.1 ∧ x.1 ≤ 4294967295 ∧ 1 ≤ x.2 ∧ x.2 ≤ 65536
structure Wf (L : List En) : Prop where
  ok : ∀ x ∈ L, OkE x
  apart : L.Pairwise fun x y => x.2 ≠ y.2

theorem Wf.nil : Wf [] := ⟨by intro x hx; simp at hx, List.Pairwise.nil⟩
theorem Wf.sub {L M : List En} (h : Wf L) (k : M.Sublist L) : Wf M := ⟨fun x hx => h.ok x (k.subset hx), h.apart.sublist k⟩
theorem Wf.cons {x : En} {L : List En} (h : Wf L) (hx : OkE x) (hn : ∀ y ∈ L, y.2 ≠ x.2) : Wf (x :: L) := ⟨fun y hy => by
  rcases List.mem_cons.1 hy with rfl | hy
  · exact hx
  · exact h.ok y hy, List.Pairwise.cons (fun y hy => (hn y hy).symm) h.apart⟩

theorem joinF_eq (f : Int → Option Lk) (b a : Int) : joinF f b a = fun c => (f c).map fun l => (l.1, if c = a then b else l.2.1, if c = b then a else l.2.2) := by
  funext c
  unfold joinF joinB
  have hA : ∀ c, joinA f b a c = (f c).map fun l => (l.1, l.2.1, if c = b then a else l.2.2) := by
    intro c
    unfold joinA
    cases hf : f b with
    | none =>
      simp only
      by_cases hc : c = b
      · subst hc; rw [hf]; rfl
      · cases f c with
        | none => rfl
        | some l => simp [hc]
    | some l =>
      simp only
      by_cases hc : c = b
      · subst hc; rw [updF_same, hf]; simp
      · rw [updF_other _ _ hc]
        cases f c with
        | none => rfl
        | some l => simp [hc]
  cases ha : joinA f b a a with
  | none =>
    simp only
    rw [hA]
    by_cases hc : c = a
    · subst hc
      rw [hA] at ha
      cases hf : f c with
      | none => rfl
      | some l => rw [hf] at ha; cases ha
    · cases f c with
      | none => rfl
      | some l => simp [hc]
  | some l =>
    simp only
    by_cases hc : c = a
    · subst hc
      rw [updF_same]
      rw [hA] at ha
      cases hf : f c with
      | none => rw [hf] at ha; cases ha
      | some m =>
        rw [hf] at ha
        simp only [Option.map_some, Option.some.injEq] at ha
        subst ha
        simp
    · rw [updF_other _ _ hc, hA]
      cases f c with
      | none => rfl
      | some l => simp [hc]
theorem joinA_some (f : Int → Option Lk) (b a c : Int) : (joinA f b a c).isSome = (f c).isSome := by
  unfold joinA
  cases hf : f b with
  | none => rfl
  | some l =>
    simp only
    by_cases hc : c = b
    · subst hc; rw [updF_same, hf]; rfl
    · rw [updF_other _ _ hc]

theorem lk_none {L : List En} {c : Int} (h : ∀ x ∈ L, x.2 ≠ c) : ∀ q, lk q L c = none := by
  induction L with
  | nil => intro q; rfl
  | cons x t ih =>
    intro q
    unfold lk
    rw [if_neg (fun e => h x (by simp) e.symm)]
    exact ih (fun y hy => h y (by simp [hy])) _
theorem lk_some {L : List En} {c : Int} {l : Lk} : ∀ {q : Int}, lk q L c = some l → ∃ x ∈ L, x.2 = c := by
  induction L with
  | nil => intro q h; cases h
  | cons x t ih =>
    intro q h
    unfold lk at h
    by_cases hc : c = x.2
    · exact ⟨x, by simp, hc.symm⟩
    · rw [if_neg hc] at h
      obtain ⟨y, hy, e⟩ := ih h
      exact ⟨y, by simp [hy], e⟩
theorem lk_at (A : List En) (x : En) (B : List En) (h : ∀ y ∈ A, y.2 ≠ x.2) : ∀ q, lk q (A ++ x :: B) x.2 = some (x.1, lstOf q A, fstOf B) := by
  induction A with
  | nil => intro q; simp [lk, lstOf]
  | cons y A ih =>
    intro q
    rw [List.cons_append]
    unfold lk
    rw [if_neg (fun e => h y (by simp) e.symm), ih (fun z hz => h z (by simp [hz]))]
    rfl
theorem lk_isSome {L : List En} {c : Int} (q : Int) : (lk q L c).isSome = true ↔ ∃ x ∈ L, x.2 = c := by
  constructor
  · intro h
    obtain ⟨l, hl⟩ := Option.isSome_iff_exists.1 h
    exact lk_some hl
  · rintro ⟨x, hx, rfl⟩
    cases hl : lk q L x.2 with
    | some _ => rfl
    | none =>
      exfalso
      induction L generalizing q with
      | nil => simp at hx
      | cons y t ih =>
        unfold lk at hl
        by_cases hc : x.2 = y.2
        · rw [if_pos hc] at hl; cases hl
        · rw [if_neg hc] at hl
          rcases List.mem_cons.1 hx with rfl | hx
          · exact hc rfl
          · exact ih y.2 hx hl
theorem lstOf_mem (q : Int) (L : List En) : lstOf q L = q ∨ ∃ x ∈ L, x.2 = lstOf q L := by
  induction L generalizing q with
  | nil => exact .inl rfl
  | cons x t ih =>
    unfold lstOf
    rcases ih x.2 with h | ⟨y, hy, e⟩
    · exact .inr ⟨x, by simp, h.symm⟩
    · exact .inr ⟨y, by simp [hy], e⟩
theorem fstOf_mem (L : List En) : fstOf L = 0 ∨ ∃ x ∈ L, x.2 = fstOf L := by
  cases L with
  | nil => exact .inl rfl
  | cons x t => exact .inr ⟨x, by simp, rfl⟩
theorem lstOf_append (q : Int) (A B : List En) : lstOf q (A ++ B) = lstOf (lstOf q A) B := by
  induction A generalizing q with
  | nil => rfl
  | cons x A ih => exact ih x.2
theorem fstOf_append {A : List En} (B : List En) (h : A ≠ []) : fstOf (A ++ B) = fstOf A := by
  cases A with
  | nil => exact absurd rfl h
  | cons x A => rfl

/-- an entry taken out -/
theorem lk_drop (A : List En) (x : En) (B : List En) : ∀ q : Int, Wf (A ++ x :: B) → (∀ y ∈ A ++ x :: B, y.2 ≠ q) →
    updF (joinF (lk q (A ++ x :: B)) (lstOf q A) (fstOf B)) x.2 none = lk q (A ++ B) := by
  induction A with
  | nil =>
    intro q hw hq
    funext c
    by_cases hc : c = x.2
    · subst hc
      rw [updF_same]
      refine (lk_none (fun y hy => ?_) q).symm
      have := (List.pairwise_cons.1 hw.apart).1 y hy
      exact fun e => this e.symm
    · rw [updF_other _ _ hc, joinF_eq]
      simp only [List.nil_append, lstOf]
      rw [lk_cons, if_neg hc]
      cases B with
      | nil => rfl
      | cons y B =>
        have hyq := hq y (by simp)
        rw [lk_cons, lk_cons, fstOf_cons]
        by_cases hy : c = y.2
        · subst hy
          rw [if_pos rfl, if_pos rfl]
          simp [hyq]
        · rw [if_neg hy, if_neg hy]
          cases hl : lk y.2 B c with
          | none => rfl
          | some l =>
            obtain ⟨z, hz, rfl⟩ := lk_some hl
            have := hq z (by simp [hz])
            simp [hy, this]
  | cons z A ih =>
    intro q hw hq
    have hw' : Wf (A ++ x :: B) := hw.sub (List.sublist_cons_self _ _)
    have hz : ∀ y ∈ A ++ x :: B, y.2 ≠ z.2 := fun y hy e => (List.pairwise_cons.1 hw.apart).1 y hy e.symm
    have hi := ih z.2 hw' hz
    funext c
    have hic := congrFun hi c
    have hzx : z.2 ≠ x.2 := fun e => hz x (by simp) e.symm
    have hz0 := (hw.ok z (by simp))
    rw [List.cons_append, List.cons_append]
    by_cases hc : c = x.2
    · subst hc
      rw [updF_same] at hic ⊢
      unfold lk
      rw [if_neg (fun e => hzx e.symm)]
      exact hic
    · rw [updF_other _ _ hc, joinF_eq] at hic ⊢
      simp only at hic ⊢
      unfold lstOf lk
      by_cases hcz : c = z.2
      · subst hcz
        rw [if_pos rfl, if_pos rfl]
        have ha : z.2 ≠ fstOf B := by
          rcases fstOf_mem B with e | ⟨y, hy, e⟩
          · rw [e]; have := hz0.2.2.1; omega
          · rw [← e]; exact fun e => hz y (by simp [hy]) e.symm
        simp only [Option.map_some, Option.some.injEq, Prod.mk.injEq, true_and]
        rw [if_neg ha]
        refine ⟨rfl, ?_⟩
        cases A with
        | nil => simp [lstOf, fstOf]
        | cons y A =>
          have hne : z.2 ≠ lstOf z.2 (y :: A) := by
            unfold lstOf
            rcases lstOf_mem y.2 A with e | ⟨u, hu, e⟩
            · rw [e]; exact fun e => hz y (by simp) e.symm
            · rw [← e]; exact fun e => hz u (by simp [hu]) e.symm
          rw [if_neg hne]
          rfl
      · rw [if_neg hcz, if_neg hcz]
        exact hic

/-- an entry put ahead of all -/
theorem lk_put (p c : Int) (L : List En) (hw : Wf L) (hc : ∀ y ∈ L, y.2 ≠ c) (h1 : 1 ≤ c) : joinF (joinF (updF (lk 0 L) c (some (p, 0, 0))) c (fstOf L)) 0 c = lk 0 ((p, c) :: L) := by
  rw [joinF_eq, joinF_eq]
  funext c'
  simp only [Option.map_map]
  by_cases hcc : c' = c
  · subst hcc
    rw [updF_same]
    have h2 : c' ≠ fstOf L := by
      rcases fstOf_mem L with e | ⟨y, hy, e⟩
      · rw [e]; omega
      · rw [← e]; exact fun e => hc y hy e.symm
    have h3 : c' ≠ 0 := by omega
    simp [lk, h2, h3]
  · rw [updF_other _ _ hcc]
    show _ = (if c' = c then _ else lk c L c')
    rw [if_neg hcc]
    cases L with
    | nil => rfl
    | cons y t =>
      rw [lk_cons, lk_cons, fstOf_cons]
      by_cases hy : c' = y.2
      · subst hy
        have := (hw.ok y (by simp)).2.2.1
        have h0 : y.2 ≠ 0 := by omega
        rw [if_pos rfl, if_pos rfl]
        simp [hcc, h0]
      · rw [if_neg hy, if_neg hy]
        cases hl : lk y.2 t c' with
        | none => rfl
        | some l =>
          obtain ⟨z, hz, rfl⟩ := lk_some hl
          have := (hw.ok z (by simp [hz])).2.2.1
          have h0 : z.2 ≠ 0 := by omega
          simp [hcc, hy, h0]

/-! ### what Put and Drop do -/
def dropL (c : Int) (L : List En) : List En := L.filter fun x => x.2 != c
def okC (c : Int) : Bool := decide (1 ≤ c) && decide (c ≤ 65536)
/-- the list behind a Put at a good chunk, and the chunk that went -/
def putL (cap : Nat) (p c : Int) (L : List En) : List En × Int :=
  if (dropL c L).length = L.length ∧ L.length = cap then ((p, c) :: L.dropLast, lstOf 0 L) else ((p, c) :: dropL c L, 0)
theorem dropL_at (A : List En) (x : En) (B : List En) (hw : Wf (A ++ x :: B)) : dropL x.2 (A ++ x :: B) = A ++ B := by
  have h1 := List.pairwise_append.1 hw.apart
  have hA : ∀ y ∈ A, (y.2 != x.2) = true := fun y hy => by rw [bne_iff_ne]; exact h1.2.2 y hy x (by simp)
  have hB : ∀ y ∈ B, (y.2 != x.2) = true := fun y hy => by rw [bne_iff_ne]; exact fun e => (List.pairwise_cons.1 h1.2.1).1 y hy e.symm
  unfold dropL
  rw [List.filter_append, List.filter_cons, if_neg (by simp), List.filter_eq_self.2 hA, List.filter_eq_self.2 hB]
theorem dropL_none {L : List En} {c : Int} (h : ∀ x ∈ L, x.2 ≠ c) : dropL c L = L := List.filter_eq_self.2 fun x hx => by rw [bne_iff_ne]; exact h x hx
theorem dropL_wf {L : List En} (h : Wf L) (c : Int) : Wf (dropL c L) := h.sub List.filter_sublist
theorem dropL_no (L : List En) (c : Int) : ∀ y ∈ dropL c L, y.2 ≠ c := fun y hy => by have := (List.mem_filter.1 hy).2; rwa [bne_iff_ne] at this
theorem mem_split {L : List En} {c : Int} (h : ∃ x ∈ L, x.2 = c) : ∃ A x B, L = A ++ x :: B ∧ x.2 = c := by
  obtain ⟨x, hx, hc⟩ := h
  obtain ⟨A, B, e⟩ := List.append_of_mem hx
  exact ⟨A, x, B, e, hc⟩

end Ix
end Go.Proofs.Ytcjeclddpkinkaa
