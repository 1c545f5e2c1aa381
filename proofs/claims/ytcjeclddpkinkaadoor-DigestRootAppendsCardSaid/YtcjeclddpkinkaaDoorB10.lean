/- A drawn region: reads that may come at any time among operations that come one by one, in an order of our own, and then a tail in the text's order. -/
import Derived.Test.YtcjeclddpkinkaaDoorB9
set_option linter.unusedVariables false
set_option linter.unusedSimpArgs false
namespace Go.Proofs.YtcjeclddpkinkaaDoor
open Go.RowKit

section
variable {P : Program} {ops : Array Oper} {md : Region.Mode} {C : World → Prop} {Q : Exit → Act → World → Prop}
def ordB (md : Region.Mode) (ops : Array Oper) (g n : Nat) : List (Nat × Bool) → Array Bool → Bool
  | [], ls => Region.seqB md ops g n ls
  | (k, true) :: m, ls => decide (k < n) && (Region.ready md ops ls).contains k && Region.free md ops ls k && ordB md ops g n m (ls.setIfInBounds k true)
  | (k, false) :: m, ls => decide (k < n) && decide (Region.ready md ops ls = [k]) && ordB md ops g n m (ls.setIfInBounds k true)
def ordTailB (md : Region.Mode) (ops : Array Oper) (m : List (Nat × Bool)) : Bool :=
  Region.noSelect ops && decide (m.length < ops.size) && Region.sinkB md ops m.length && Region.chainB md ops m.length && ordB md ops (ops.size - m.length) m.length m (Array.replicate ops.size false)
def ordOps (l : List Oper) (m : List (Nat × Bool)) : List (Bool × Oper) := m.filterMap fun kb => (l[kb.1]?).map fun o => (kb.2, o)
theorem ordOps_cons {l : List Oper} {k : Nat} {b : Bool} {m : List (Nat × Bool)} {o : Oper} (h : l[k]? = some o) : ordOps l ((k, b) :: m) = (b, o) :: ordOps l m := by simp [ordOps, List.filterMap_cons, h]
theorem headH_ord {n g : Nat} {K : Act → World → Prop} (hsel : Region.noSelect ops = true) (hQ : ∀ c a d v w, Q (.panic c) (a.put d v) w → Q (.panic c) a w) (hs : Region.sinkB md ops n = true) (hc : Region.chainB md ops n = true) (hn : n < ops.size) :
    ∀ (m : List (Nat × Bool)) (ls : Array Bool) (a : Act) (w : World), HeadInv md ops n ls → C w →
    ordB md ops g n m ls = true → wpMask P ops Q C K (ordOps ops.toList m) a w → headH P md ops Q C n (fun ls' a' w' => Region.seqB md ops g n ls' = true ∧ K a' w') m.length ls a w
  | [], ls, a, w, _, hw, hB, h => ⟨by simpa [ordB] using hB, h⟩
  | (k, true) :: m, ls, a, w, inv, hw, hB, h => by
    simp only [ordB, Bool.and_eq_true, decide_eq_true_eq] at hB
    have hkn : k < n := hB.1.1.1
    have h0 : ops[k]? = some ops[k] := Array.getElem?_eq_getElem (by omega)
    rw [ordOps_cons (o := ops[k]) (by rw [Array.getElem?_toList]; exact h0)] at h
    have hr : k ∈ Region.ready md ops ls := by simpa using hB.1.1.2
    obtain ⟨v, hy, hK⟩ := h
    exact headH_first h0 (Region.noSelect_spec hsel) (fun c a w => hQ c a _ _ w) hs hc hn hkn (fun ls' a' w' hL => seqB_ready hL.1) m.length ls a w inv (Region.free_spec h0 hB.1.2) hr hy hw
      (headH_ord hsel hQ hs hc hn m _ _ w (inv.set hr hkn) hw hB.2 hK)
  | (k, false) :: m, ls, a, w, inv, hw, hB, h => by
    simp only [ordB, Bool.and_eq_true, decide_eq_true_eq] at hB
    have hkn : k < n := hB.1.1
    have h0 : ops[k]? = some ops[k] := Array.getElem?_eq_getElem (by omega)
    rw [ordOps_cons (o := ops[k]) (by rw [Array.getElem?_toList]; exact h0)] at h
    refine ⟨fun e => (by rw [hB.1.2] at e; cases e), fun j hj => ?_⟩
    rw [hB.1.2, List.mem_singleton] at hj
    subst hj
    refine ⟨hkn, ?_⟩
    unfold wpOp
    rw [h0]
    simp only
    rw [if_pos (by unfold Region.wanted; rw [h.1])]
    refine .inl (Oper.wp_mono (fun a' w' h' => ⟨h'.1, ?_⟩) h.2)
    exact headH_ord hsel hQ hs hc hn m _ _ w' (inv.set (by rw [hB.1.2]; simp) hkn) h'.1 hB.2 h'.2
/-- reads, and operations that come alone, in an order of our own; behind them the rest in the text's order -/
theorem wp_region_ord {id : Nat} {a : Act} {w : World} {l : List Oper} (C : World → Prop) (m : List (Nat × Bool)) (hm : P.follows .mixedOrders = true) (hB : ordTailB .any l.toArray m = true) (hQ : ∀ c a d v w, Q (.panic c) (a.put d v) w → Q (.panic c) a w) (hC : C w.drew)
    (h : wpMask P l.toArray Q C (fun a' w' => wpList P l.toArray Q (l.drop m.length) a' w') (ordOps l m) a w.drew) : (Code.region id l.toArray true).wp P Q a w := by
  simp only [ordTailB, Bool.and_eq_true, decide_eq_true_eq] at hB
  obtain ⟨⟨⟨⟨hsel, hn⟩, hs⟩, hc⟩, hlex⟩ := hB
  have hn' : m.length < l.length := by simpa using hn
  have hdl : (l.drop m.length).length = l.toArray.size - m.length := by simp
  have inv0 : HeadInv .any l.toArray m.length (Array.replicate l.toArray.size false) :=
    ⟨by simp, fun j oj _ hl => (by rw [getD_replicate_false] at hl; cases hl), fun t _ ht => getD_in (by simpa using ht) (getD_replicate_false _ _)⟩
  have H := headH_ord (md := .any) (g := l.toArray.size - m.length) hsel hQ hs hc hn m _ a w.drew inv0 hC hlex h
  refine wp_region_any hm ?_
  have := any_of_headH (Q := Q) (g := l.toArray.size - m.length) (fun ls a' w' hL => by
    have h1 := wpAny_of_seq (md := .any) (Q' := Q) (l.drop m.length) m.length ls a' w' (fun j => by simp [List.getElem?_drop]) (by rw [hdl]; exact hL.1) hL.2
    rwa [hdl] at h1) _ _ _ _ H
  rw [show m.length + (l.toArray.size - m.length) = l.toArray.size by omega] at this
  exact this
end
end Go.Proofs.YtcjeclddpkinkaaDoor
