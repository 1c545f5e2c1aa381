/- Merkle trees, plain: a clash binds. -/
import Derived.Test.YtcjeclddpkinkaaDoorDm
set_option linter.unusedVariables false
set_option linter.unusedSimpArgs false
namespace Go.Proofs.YtcjeclddpkinkaaDoor
namespace Mk
open Wz (Dg)
theorem encB_inj {a b : Dg} {s t : List UInt8} (h : Wz.encB a.1 ++ s = Wz.encB b.1 ++ t) : a = b ∧ s = t := by
  unfold Wz.encB at h
  rw [a.2, b.2, List.append_assoc, List.append_assoc] at h
  have h1 := List.append_cancel_left h
  have h2 := List.append_inj h1 (by rw [a.2, b.2])
  exact ⟨Subtype.ext h2.1, h2.2⟩
theorem leafIn_inj {a b : Dg} (h : leafIn a = leafIn b) : a = b := by
  simp only [leafIn, inp, List.flatMap_cons, List.flatMap_nil, List.cons.injEq, true_and] at h
  exact (encB_inj h).1
theorem nodeIn_inj {a b c d : Dg} (h : nodeIn a b = nodeIn c d) : a = c ∧ b = d := by
  simp only [nodeIn, inp, List.flatMap_cons, List.flatMap_nil, List.cons.injEq, true_and] at h
  have h1 := encB_inj h
  exact ⟨h1.1, (encB_inj h1.2).1⟩
theorem lastDiff_snoc {x y : List (List UInt8)} (h : x.length = y.length) (u v : List UInt8) : lastDiff (x ++ [u]) (y ++ [v]) = if u = v then lastDiff x y else some (u, v) := by
  unfold lastDiff
  rw [zip_snoc _ _ h, List.reverse_append]
  simp only [List.reverse_cons, List.reverse_nil, List.nil_append, List.cons_append, List.find?_cons]
  by_cases e : u = v
  · subst e; simp
  · simp [e]
theorem lastDiff_same (x : List (List UInt8)) : lastDiff x x = none := by
  refine Wz.snoc_ind (P := fun x => lastDiff x x = none) rfl ?_ x
  intro l a ih
  rw [lastDiff_snoc rfl, if_pos rfl, ih]

section
variable (H : List UInt8 → Dg)
/-- two chains of inputs along the same sides -/
theorem ins_two : ∀ (ds : List Bool) (p q : List Dg) (a b : Dg), p.length = ds.length → q.length = ds.length →
    (insF H a (ds.zip p) = insF H b (ds.zip q) → a = b ∧ p = q) ∧
    (H ((insF H a (ds.zip p)).getLastD []) = H ((insF H b (ds.zip q)).getLastD []) → insF H a (ds.zip p) ≠ insF H b (ds.zip q) → ∃ u v, lastDiff (insF H a (ds.zip p)) (insF H b (ds.zip q)) = some (u, v) ∧ u ≠ v ∧ H u = H v) := by
  intro ds
  refine Wz.snoc_ind (P := fun ds => ∀ (p q : List Dg) (a b : Dg), p.length = ds.length → q.length = ds.length →
    (insF H a (ds.zip p) = insF H b (ds.zip q) → a = b ∧ p = q) ∧
    (H ((insF H a (ds.zip p)).getLastD []) = H ((insF H b (ds.zip q)).getLastD []) → insF H a (ds.zip p) ≠ insF H b (ds.zip q) → ∃ u v, lastDiff (insF H a (ds.zip p)) (insF H b (ds.zip q)) = some (u, v) ∧ u ≠ v ∧ H u = H v)) ?_ ?_ ds
  · intro p q a b hp hq
    have hp0 : p = [] := List.eq_nil_of_length_eq_zero hp
    have hq0 : q = [] := List.eq_nil_of_length_eq_zero hq
    subst hp0 hq0
    simp only [insF, List.zip_nil_left, List.foldl_nil]
    refine ⟨fun h => ⟨leafIn_inj (List.cons.inj h).1, trivial⟩, fun h1 h2 => ⟨leafIn a, leafIn b, ?_, by simpa using h2, h1⟩⟩
    have := lastDiff_snoc (x := []) (y := []) rfl (leafIn a) (leafIn b)
    rw [List.nil_append, List.nil_append] at this
    rw [this, if_neg (by simpa using h2)]
  · intro ds s ih p q a b hp hq
    rw [List.length_append, List.length_singleton] at hp hq
    obtain ⟨p', pz, rfl⟩ : ∃ p' pz, p = p' ++ [pz] := ⟨p.dropLast, p.getLast (by intro e; subst e; simp at hp), (List.dropLast_concat_getLast _).symm⟩
    obtain ⟨q', qz, rfl⟩ : ∃ p' pz, q = p' ++ [pz] := ⟨q.dropLast, q.getLast (by intro e; subst e; simp at hq), (List.dropLast_concat_getLast _).symm⟩
    simp only [List.length_append, List.length_singleton, Nat.add_right_cancel_iff] at hp hq
    rw [zip_snoc _ _ hp.symm, zip_snoc _ _ hq.symm, ins_snoc, ins_snoc]
    obtain ⟨i1, i2⟩ := ih p' q' a b hp hq
    have hlen : (insF H a (ds.zip p')).length = (insF H b (ds.zip q')).length := by rw [ins_len, ins_len, List.length_zip, List.length_zip, hp, hq]
    obtain ⟨x, hx⟩ : ∃ x, insF H a (ds.zip p') = x := ⟨_, rfl⟩
    obtain ⟨y, hy⟩ : ∃ x, insF H b (ds.zip q') = x := ⟨_, rfl⟩
    rw [hx, hy] at i1 i2 hlen
    rw [hx, hy]
    unfold stepIn
    have hin : ∀ {g h : Dg}, (if s = true then nodeIn pz g else nodeIn g pz) = (if s = true then nodeIn qz h else nodeIn h qz) → pz = qz ∧ g = h := by
      intro g h e
      cases s with
      | true => simp only [if_true] at e; exact nodeIn_inj e
      | false => simp only [Bool.false_eq_true, if_false] at e; have := nodeIn_inj e; exact ⟨this.2, this.1⟩
    refine ⟨fun h => ?_, fun h1 h2 => ?_⟩
    · have h3 := List.append_inj h hlen
      have h4 := hin (List.cons.inj h3.2).1
      obtain ⟨rfl, rfl⟩ := i1 h3.1
      exact ⟨rfl, by rw [h4.1]⟩
    · rw [last_snoc, last_snoc] at h1
      rw [lastDiff_snoc hlen]
      by_cases e : (if s = true then nodeIn pz (H (x.getLastD [])) else nodeIn (H (x.getLastD [])) pz) = (if s = true then nodeIn qz (H (y.getLastD [])) else nodeIn (H (y.getLastD [])) qz)
      · rw [if_pos e]
        refine i2 (hin e).2 fun hxy => h2 ?_
        simp only
        rw [e, hxy]
      · rw [if_neg e]
        exact ⟨_, _, rfl, e, h1⟩

theorem inputs_dirs {n i : Nat} {d : Dg} {proof : List Dg} {o : List (List UInt8)} (h : inputsF H n i d proof = some o) : (dirs n i).length = proof.length ∧ o = insF H d ((dirs n i).zip proof) := by
  unfold inputsF at h
  split at h
  · cases h
  · split at h
    · rename_i hl
      cases h
      exact ⟨hl, rfl⟩
    · cases h
/-- the law of a clash -/
theorem clash_none {n i : Nat} {a b : Dg} {p q : List Dg} (h : inputsF H n i a p = none) : clashF H n i a b p q = none := by
  unfold clashF; rw [h]
theorem clash_some {n i : Nat} {a b : Dg} {p q : List Dg} {x : List (List UInt8)} (h : inputsF H n i a p = some x) :
    (clashF H n i a b p q).isSome = (verifyF H (H (x.getLastD [])) n i a p && verifyF H (H (x.getLastD [])) n i b q && !(decide (a = b) && decide (p = q))) ∧
    ∀ u v, clashF H n i a b p q = some (u, v) → u ≠ v ∧ H u = H v := by
  have hxv : verifyF H (H (x.getLastD [])) n i a p = true := by unfold verifyF; rw [h]; simp
  rw [hxv, Bool.true_and]
  obtain ⟨hp, hx⟩ := inputs_dirs H h
  unfold clashF verifyF
  rw [h]
  cases hy : inputsF H n i b q with
  | none => simp
  | some y =>
    obtain ⟨hq, hye⟩ := inputs_dirs H hy
    obtain ⟨h1, h2⟩ := ins_two H (dirs n i) p q a b hp.symm hq.symm
    rw [← hx, ← hye] at h1 h2
    simp only
    by_cases e : H (x.getLastD []) = H (y.getLastD [])
    · rw [if_pos e]
      by_cases exy : x = y
      · obtain ⟨rfl, rfl⟩ := h1 exy
        subst exy
        rw [lastDiff_same]
        simp
      · obtain ⟨u, v, h3, h4, h5⟩ := h2 e exy
        rw [h3]
        refine ⟨?_, fun u' v' huv => by cases huv; exact ⟨h4, h5⟩⟩
        have hne : ¬ (a = b ∧ p = q) := by
          rintro ⟨rfl, rfl⟩
          exact exy (hx.trans hye.symm)
        simp only [Option.isSome_some, e.symm, decide_true, Bool.true_and]
        symm
        rw [Bool.not_eq_true', Bool.and_eq_false_iff, decide_eq_false_iff_not, decide_eq_false_iff_not]
        exact Decidable.not_and_iff_or_not.1 hne
    · rw [if_neg e]
      refine ⟨?_, fun u v huv => by cases huv⟩
      have e' : ¬ H (y.getLastD []) = H (x.getLastD []) := fun h => e h.symm
      rw [decide_eq_false e']; rfl
end
end Mk
end Go.Proofs.YtcjeclddpkinkaaDoor
