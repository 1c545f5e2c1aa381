/- A drawn region: reads first, then whatever comes up, case by case, then a tail in the text's order. -/
import Derived.Test.YtcjeclddpkinkaaDoorB11
set_option linter.unusedVariables false
set_option linter.unusedSimpArgs false
namespace Go.Proofs.YtcjeclddpkinkaaDoor
open Go.RowKit

section
variable {P : Program} {ops : Array Oper} {md : Region.Mode} {C : World → Prop} {Q : Exit → Act → World → Prop}
def wpReads (P : Program) (ops : Array Oper) (C : World → Prop) (K : Array Bool → Act → World → Prop) : List Nat → Array Bool → Act → World → Prop
  | [], ls, a, w => K ls a w
  | k :: m, ls, a, w => ∃ o v, ops[k]? = some o ∧ YieldsIf P ops C o v a ∧ wpReads P ops C K m (ls.setIfInBounds k true) (a.put o.dst v) w
def readsFirstB (md : Region.Mode) (ops : Array Oper) (n : Nat) : List Nat → Array Bool → Bool
  | [], _ => true
  | k :: m, ls => decide (k < n) && (Region.ready md ops ls).contains k && Region.free md ops ls k && readsFirstB md ops n m (ls.setIfInBounds k true)
theorem headH_reads {n f : Nat} {L : Array Bool → Act → World → Prop} (hsel : Region.noSelect ops = true) (hQ : ∀ c a d v w, Q (.panic c) (a.put d v) w → Q (.panic c) a w) (hs : Region.sinkB md ops n = true) (hc : Region.chainB md ops n = true) (hn : n < ops.size) (hdone : ∀ ls a w, L ls a w → ∀ j ∈ Region.ready md ops ls, n ≤ j) :
    ∀ (m : List Nat) (ls : Array Bool) (a : Act) (w : World), HeadInv md ops n ls → C w → readsFirstB md ops n m ls = true → wpReads P ops C (fun ls a w => headH P md ops Q C n L f ls a w) m ls a w → headH P md ops Q C n L (m.length + f) ls a w
  | [], ls, a, w, _, _, _, h => by rw [List.length_nil, Nat.zero_add]; exact h
  | k :: m, ls, a, w, inv, hw, hB, h => by
    simp only [readsFirstB, Bool.and_eq_true, decide_eq_true_eq] at hB
    have hkn : k < n := hB.1.1.1
    have hr : k ∈ Region.ready md ops ls := by simpa using hB.1.1.2
    obtain ⟨o, v, h0, hy, hK⟩ := h
    have h1 := headH_reads hsel hQ hs hc hn hdone m _ _ w (inv.set hr hkn) hw hB.2 hK
    rw [List.length_cons, Nat.succ_add]
    exact headH_first h0 (Region.noSelect_spec hsel) (fun c a w => hQ c a _ _ w) hs hc hn hkn hdone _ ls a w inv (Region.free_spec h0 hB.1.2) hr hy hw h1
theorem wp_region_reads {id : Nat} {a : Act} {w : World} {l : List Oper} (C : World → Prop) (m : List Nat) (n f : Nat) (hf : m.length + f = n) (hm : P.follows .mixedOrders = true) (hsel : Region.noSelect l.toArray = true) (hn : n < l.length) (hs : Region.sinkB .any l.toArray n = true) (hc : Region.chainB .any l.toArray n = true)
    (hB : readsFirstB .any l.toArray n m (Array.replicate l.toArray.size false) = true) (hQ : ∀ c a d v w, Q (.panic c) (a.put d v) w → Q (.panic c) a w) (hC : C w.drew)
    (h : wpReads P l.toArray C (fun ls a w => headH P .any l.toArray Q C n (fun ls' a' w' => Region.seqB .any l.toArray (l.toArray.size - n) n ls' = true ∧ wpList P l.toArray Q (l.drop n) a' w') f ls a w) m (Array.replicate l.toArray.size false) a w.drew) : (Code.region id l.toArray true).wp P Q a w := by
  have hdl : (l.drop n).length = l.toArray.size - n := by simp
  have inv0 : HeadInv .any l.toArray n (Array.replicate l.toArray.size false) :=
    ⟨by simp, fun j oj _ hl => (by rw [getD_replicate_false] at hl; cases hl), fun t _ ht => getD_in (by simpa using ht) (getD_replicate_false _ _)⟩
  have H := headH_reads (md := .any) (f := f) hsel hQ hs hc (by simpa using hn) (fun ls a w hL => seqB_ready hL.1) m _ a w.drew inv0 hC hB h
  refine wp_region_any hm ?_
  have := any_of_headH (Q := Q) (g := l.toArray.size - n) (fun ls a' w' hL => by
    have h1 := wpAny_of_seq (md := .any) (Q' := Q) (l.drop n) n ls a' w' (fun j => by simp [List.getElem?_drop]) (by rw [hdl]; exact hL.1) hL.2
    rwa [hdl] at h1) _ _ _ _ H
  rw [hf, show n + (l.toArray.size - n) = l.toArray.size by simp; omega] at this
  exact this
theorem reads_one {K : Array Bool → Act → World → Prop} {k : Nat} {m : List Nat} {ls : Array Bool} {a : Act} {w : World} {o : Oper} {v : Value} (ho : ops[k]? = some o) (hg : o.guard = none) (hrun : ∀ w, C w → (execOp a.eval o).run P w = .ok (.value v) w)
    (h : wpReads P ops C K m (ls.setIfInBounds k true) (a.put o.dst v) w) : wpReads P ops C K (k :: m) ls a w := ⟨o, v, ho, .inl ⟨by unfold Region.wanted; rw [hg], hrun⟩, h⟩
theorem head_cases {n f : Nat} {L : Array Bool → Act → World → Prop} {ls : Array Bool} {a : Act} {w : World} (rs : List Nat) (hr : Region.ready md ops ls = rs) (hne : rs ≠ []) (h : ∀ i ∈ rs, i < n ∧ wpOp P ops Q i (fun a' w' => C w' ∧ headH P md ops Q C n L f (ls.setIfInBounds i true) a' w') a w) : headH P md ops Q C n L (f + 1) ls a w := by
  subst hr
  exact ⟨hne, h⟩
theorem op_run {i : Nat} {o : Oper} {a : Act} {w w' : World} {v : Value} {K : Act → World → Prop} (ho : ops[i]? = some o) (hg : o.guard = none) (hrun : (execOp a.eval o).run P w = .ok (.value v) w') (h : K (a.put o.dst v) w') : wpOp P ops Q i K a w := by
  unfold wpOp
  rw [ho]
  simp only
  rw [if_pos (by unfold Region.wanted; rw [hg])]
  left
  unfold Oper.wp
  rw [hrun]
  exact h
end
end Go.Proofs.YtcjeclddpkinkaaDoor
