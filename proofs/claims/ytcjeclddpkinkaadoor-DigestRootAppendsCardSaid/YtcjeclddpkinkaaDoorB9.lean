/- A drawn region: reads that may come at any time among calls that come one by one, and then a tail in the text's order. -/
import Derived.Test.YtcjeclddpkinkaaDoorB8
import Derived.OrdersHeld
set_option linter.unusedVariables false
set_option linter.unusedSimpArgs false
namespace Go.Proofs.YtcjeclddpkinkaaDoor
open Go.RowKit

section
variable {P : Program} {ops : Array Oper} {md : Region.Mode} {C : World → Prop} {Q : Exit → Act → World → Prop}
/-- the next f operations, whichever come up, stand before place n and stay in the class -/
def headH (P : Program) (md : Region.Mode) (ops : Array Oper) (Q : Exit → Act → World → Prop) (C : World → Prop) (n : Nat) (L : Array Bool → Act → World → Prop) : Nat → Array Bool → Act → World → Prop
  | 0, ls, a, w => L ls a w
  | f + 1, ls, a, w => Region.ready md ops ls ≠ [] ∧ ∀ i ∈ Region.ready md ops ls, i < n ∧ wpOp P ops Q i (fun a' w' => C w' ∧ headH P md ops Q C n L f (ls.setIfInBounds i true) a' w') a w
theorem any_of_headH {n g : Nat} {L : Array Bool → Act → World → Prop} (hL : ∀ ls a w, L ls a w → wpAny P md ops Q g ls a w) :
    ∀ (f : Nat) (ls : Array Bool) (a : Act) (w : World), headH P md ops Q C n L f ls a w → wpAny P md ops Q (f + g) ls a w
  | 0, ls, a, w, h => by rw [Nat.zero_add]; exact hL _ _ _ h
  | f + 1, ls, a, w, h => by
    rw [Nat.succ_add]
    exact ⟨fun e => absurd e h.1, fun i hi => wpOp_mono (fun a' w' h' => any_of_headH hL f _ a' w' h'.2) (h.2 i hi).2⟩
theorem headH_first {n i : Nat} {oi : Oper} {v : Value} {L : Array Bool → Act → World → Prop} (hi : ops[i]? = some oi) (hsel : ∀ (j : Nat) (o : Oper) cs b, ops[j]? = some o → o.op ≠ .select cs b)
    (hQ : ∀ c a w, Q (.panic c) (a.put oi.dst v) w → Q (.panic c) a w) (hs : Region.sinkB md ops n = true) (hc : Region.chainB md ops n = true) (hn : n < ops.size) (hin : i < n) (hdone : ∀ ls a w, L ls a w → ∀ j ∈ Region.ready md ops ls, n ≤ j) :
    ∀ (f : Nat) (ls : Array Bool) (a : Act) (w : World), HeadInv md ops n ls →
      (∀ j oj, ops[j]? = some oj → j ≠ i → ls.getD j true = false → (∀ e ∈ oj.after, Region.binds md e = true → e.on ≠ i) → oi.apart ops oj = true) →
      i ∈ Region.ready md ops ls → YieldsIf P ops C oi v a → C w → headH P md ops Q C n L f (ls.setIfInBounds i true) (a.put oi.dst v) w → headH P md ops Q C n L (f + 1) ls a w := by
  have below : ∀ (ls : Array Bool), HeadInv md ops n ls → i ∈ Region.ready md ops ls → ∀ j ∈ Region.ready md ops ls, j < n := fun ls inv hr j hj =>
    Nat.lt_of_not_le fun h => tail_waits hs hc hn inv _ i rfl hin (mem_ready.1 hr).1 j h hj
  intro f
  induction f with
  | zero =>
    intro ls a w inv _ hr hy hw H
    refine ⟨fun e => (by rw [e] at hr; cases hr), fun j hj => ⟨below ls inv hr j hj, ?_⟩⟩
    by_cases e : j = i
    · subst e; exact hy.wpOp hi hw ⟨hw, H⟩
    · have h1 := hdone _ _ _ H j (ready_mono hj e)
      have h2 := below ls inv hr j hj
      omega
  | succ f ih =>
    intro ls a w inv free hr hy hw H
    refine ⟨fun e => (by rw [e] at hr; cases hr), fun j hj => ⟨below ls inv hr j hj, ?_⟩⟩
    by_cases e : j = i
    · subst e; exact hy.wpOp hi hw ⟨hw, H⟩
    · obtain ⟨hjun, oj, hoj, hall⟩ := mem_ready.1 hj
      have hno : ∀ x ∈ oj.after, Region.binds md x = true → x.on ≠ i := fun x hx hb e' => by
        have h1 := hall x hx hb
        rw [e', getD_both (mem_ready.1 hr).1] at h1
        cases h1
      have free' : ∀ k ok, ops[k]? = some ok → k ≠ i → (ls.setIfInBounds j true).getD k true = false → (∀ x ∈ ok.after, Region.binds md x = true → x.on ≠ i) → oi.apart ops ok = true := fun k ok hk hki hun hx => by
        refine free k ok hk hki ?_ hx
        by_cases hjk : j = k
        · subst hjk; exact hjun
        · rw [getD_set_ne true hjk] at hun; exact hun
      refine wpOp_mono (fun a' w' h3 => ⟨h3.2.1, ih (ls.setIfInBounds j true) a' w' (inv.set hj (below ls inv hr j hj)) free' (ready_mono hr (Ne.symm e)) h3.1 h3.2.1 ?_⟩)
        (wpOp_putIf hoj (free j oj hoj e hjun hno) (fun cs b => hsel i oi cs b hi) (fun cs b => hsel j oj cs b hoj) hQ hy (H.2 j (ready_mono hj e)).2)
      rw [Array.setIfInBounds_comm _ _ e]
      exact h3.2.2

/-- the head, in the text's order: true: a read; false: an operation that comes alone -/
def wpMask (P : Program) (ops : Array Oper) (Q : Exit → Act → World → Prop) (C : World → Prop) (K : Act → World → Prop) : List (Bool × Oper) → Act → World → Prop
  | [], a, w => K a w
  | (true, o) :: r, a, w => ∃ v, YieldsIf P ops C o v a ∧ wpMask P ops Q C K r (a.put o.dst v) w
  | (false, o) :: r, a, w => o.guard = none ∧ o.wp P a w (fun a' w' => C w' ∧ wpMask P ops Q C K r a' w') Q
def maskB (md : Region.Mode) (ops : Array Oper) (g : Nat) : List Bool → Nat → Array Bool → Bool
  | [], k, ls => Region.seqB md ops g k ls
  | true :: m, k, ls => (Region.ready md ops ls).contains k && Region.free md ops ls k && maskB md ops g m (k + 1) (ls.setIfInBounds k true)
  | false :: m, k, ls => decide (Region.ready md ops ls = [k]) && maskB md ops g m (k + 1) (ls.setIfInBounds k true)
def maskTailB (md : Region.Mode) (ops : Array Oper) (m : List Bool) : Bool :=
  Region.noSelect ops && decide (m.length < ops.size) && Region.sinkB md ops m.length && Region.chainB md ops m.length && maskB md ops (ops.size - m.length) m 0 (Array.replicate ops.size false)
theorem headH_mask {n g : Nat} {K : Act → World → Prop} (hsel : Region.noSelect ops = true) (hQ : ∀ c a d v w, Q (.panic c) (a.put d v) w → Q (.panic c) a w) (hs : Region.sinkB md ops n = true) (hc : Region.chainB md ops n = true) (hn : n < ops.size) :
    ∀ (l : List (Bool × Oper)) (k : Nat) (ls : Array Bool) (a : Act) (w : World), (∀ j, j < l.length → (l.map (·.2))[j]? = ops[k + j]?) → k + l.length = n → HeadInv md ops n ls → C w →
    maskB md ops g (l.map (·.1)) k ls = true → wpMask P ops Q C K l a w → headH P md ops Q C n (fun ls' a' w' => Region.seqB md ops g n ls' = true ∧ K a' w') l.length ls a w
  | [], k, ls, a, w, _, hk, _, hw, hB, h => by
    have : k = n := by simpa using hk
    subst this
    exact ⟨by simpa [maskB] using hB, h⟩
  | (true, o) :: l, k, ls, a, w, hl, hk, inv, hw, hB, h => by
    have h0 : ops[k]? = some o := by simpa using (hl 0 (by simp)).symm
    simp only [List.map_cons, maskB, Bool.and_eq_true] at hB
    have hkn : k < n := by simp only [List.length_cons] at hk; omega
    have hr : k ∈ Region.ready md ops ls := by simpa using hB.1.1
    obtain ⟨v, hy, hK⟩ := h
    exact headH_first h0 (Region.noSelect_spec hsel) (fun c a w => hQ c a _ _ w) hs hc hn hkn (fun ls' a' w' hL => seqB_ready hL.1) l.length ls a w inv (Region.free_spec h0 hB.1.2) hr hy hw
      (headH_mask hsel hQ hs hc hn l (k + 1) _ _ w (fun j hj => by have := hl (j + 1) (by simp; omega); simpa [Nat.add_assoc, Nat.add_comm 1 j] using this) (by simp only [List.length_cons] at hk; omega) (inv.set hr hkn) hw hB.2 hK)
  | (false, o) :: l, k, ls, a, w, hl, hk, inv, hw, hB, h => by
    have h0 : ops[k]? = some o := by simpa using (hl 0 (by simp)).symm
    simp only [List.map_cons, maskB, Bool.and_eq_true, decide_eq_true_eq] at hB
    have hkn : k < n := by simp only [List.length_cons] at hk; omega
    refine ⟨fun e => (by rw [hB.1] at e; cases e), fun j hj => ?_⟩
    rw [hB.1, List.mem_singleton] at hj
    subst hj
    refine ⟨hkn, ?_⟩
    unfold wpOp
    rw [h0]
    simp only
    rw [if_pos (by unfold Region.wanted; rw [h.1])]
    refine .inl (Oper.wp_mono (fun a' w' h' => ⟨h'.1, ?_⟩) h.2)
    exact headH_mask hsel hQ hs hc hn l (j + 1) _ _ w' (fun i hi => by have := hl (i + 1) (by simp; omega); simpa [Nat.add_assoc, Nat.add_comm 1 i] using this) (by simp only [List.length_cons] at hk; omega)
      (inv.set (by rw [hB.1]; simp) hkn) h'.1 hB.2 h'.2
theorem zip_take {α β : Type} : ∀ (m : List α) (l : List β), (m.zip l).map (·.2) = l.take m.length
  | [], _ => by simp
  | _ :: _, [] => by simp
  | _ :: m, _ :: l => by simp [zip_take m l]
/-- reads, and operations that come alone; behind them the rest in the text's order -/
theorem wp_region_mask {id : Nat} {a : Act} {w : World} {l : List Oper} (C : World → Prop) (m : List Bool) (hm : P.follows .mixedOrders = true) (hB : maskTailB .any l.toArray m = true) (hQ : ∀ c a d v w, Q (.panic c) (a.put d v) w → Q (.panic c) a w) (hC : C w.drew)
    (h : wpMask P l.toArray Q C (fun a' w' => wpList P l.toArray Q (l.drop m.length) a' w') (m.zip l) a w.drew) : (Code.region id l.toArray true).wp P Q a w := by
  simp only [maskTailB, Bool.and_eq_true, decide_eq_true_eq] at hB
  obtain ⟨⟨⟨⟨hsel, hn⟩, hs⟩, hc⟩, hlex⟩ := hB
  have hn' : m.length < l.length := by simpa using hn
  have hzl : (m.zip l).length = m.length := by rw [List.length_zip]; omega
  have hz1 : (m.zip l).map (·.1) = m := List.map_fst_zip (by omega)
  have hz2 : (m.zip l).map (·.2) = l.take m.length := zip_take m l
  have hdl : (l.drop m.length).length = l.toArray.size - m.length := by simp
  have inv0 : HeadInv .any l.toArray m.length (Array.replicate l.toArray.size false) :=
    ⟨by simp, fun j oj _ hl => (by rw [getD_replicate_false] at hl; cases hl), fun t _ ht => getD_in (by simpa using ht) (getD_replicate_false _ _)⟩
  have H := headH_mask (md := .any) (g := l.toArray.size - m.length) hsel hQ hs hc hn (m.zip l) 0 _ a w.drew (fun j hj => by
    rw [hz2, List.getElem?_take]
    rw [hzl] at hj
    simp [hj]) (by simpa using hzl) inv0 hC (by rw [hz1]; exact hlex) h
  refine wp_region_any hm ?_
  have := any_of_headH (Q := Q) (g := l.toArray.size - m.length) (fun ls a' w' hL => by
    have h1 := wpAny_of_seq (md := .any) (Q' := Q) (l.drop m.length) m.length ls a' w' (fun j => by simp [List.getElem?_drop]) (by rw [hdl]; exact hL.1) hL.2
    rwa [hdl] at h1) _ _ _ _ H
  rw [hzl, show m.length + (l.toArray.size - m.length) = l.toArray.size by omega] at this
  exact this

theorem mask_read {o : Oper} {a : Act} {w : World} {K : Act → World → Prop} {r : List (Bool × Oper)} {v : Value} (hg : o.guard = none) (hrun : ∀ w, C w → (execOp a.eval o).run P w = .ok (.value v) w)
    (h : wpMask P ops Q C K r (a.put o.dst v) w) : wpMask P ops Q C K ((true, o) :: r) a w := ⟨v, .inl ⟨by unfold Region.wanted; rw [hg], hrun⟩, h⟩
theorem mask_load {t : TypeId} {n : Nat} (hT : AggOf P t n) {o : Oper} {a : Act} {w : World} {K : Act → World → Prop} {r : List (Bool × Oper)} (hg : o.guard = none) (x : Operand) (ho : o.op = .load t x) (b off : Nat) (hx : a.eval x = .pointer (some ⟨b, off, none⟩)) (cs : List Value) (hl : cs.length = n)
    (hc : ∀ w, C w → ∀ j u, cs[j]? = some u → w.cell? ⟨b, off + j, none⟩ = some u) (h : wpMask P ops Q C K r (a.put o.dst (.agg cs.toArray)) w) : wpMask P ops Q C K ((true, o) :: r) a w :=
  mask_read hg (fun w hw => by
    unfold execOp
    rw [ho]
    simp only [Sem.run_bind, Sem.run_pure, hx, run_loadAgg hT w b off cs hl (hc w hw), Result.andThen]) h
theorem mask_call {o : Oper} {a : Act} {w : World} {K : Act → World → Prop} {r : List (Bool × Oper)} {f : FuncId} {args : Array Value} (hg : o.guard = none) (hrun : (execOp a.eval o).run P w = .ok (.enter f args) w)
    (hc : Calls P f args w (fun e w' => ∃ v, e = .returned v ∧ C w' ∧ wpMask P ops Q C K r (a.put o.dst v) w')) : wpMask P ops Q C K ((false, o) :: r) a w := by
  refine ⟨hg, ?_⟩
  unfold Oper.wp
  rw [hrun]
  refine hc.mono ?_
  rintro e w' ⟨v, rfl, h⟩
  exact h
theorem mask_value {o : Oper} {a : Act} {w w' : World} {K : Act → World → Prop} {r : List (Bool × Oper)} {v : Value} (hg : o.guard = none) (hrun : (execOp a.eval o).run P w = .ok (.value v) w') (hC : C w')
    (h : wpMask P ops Q C K r (a.put o.dst v) w') : wpMask P ops Q C K ((false, o) :: r) a w := by
  refine ⟨hg, ?_⟩
  unfold Oper.wp
  rw [hrun]
  exact ⟨hC, h⟩
theorem mask_done {a : Act} {w : World} {K : Act → World → Prop} (h : K a w) : wpMask P ops Q C K [] a w := h
end
end Go.Proofs.YtcjeclddpkinkaaDoor
