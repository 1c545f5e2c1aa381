/- The same with guards. A drawn region: reads that may come at any time among operations that come one by one, in an order of our own, and then a tail in the text's order. -/
import Derived.Test.YtcjeclddpkinkaaDoorB10
set_option linter.unusedVariables false
set_option linter.unusedSimpArgs false
namespace Go.Proofs.YtcjeclddpkinkaaDoor
open Go.RowKit

section
variable {P : Program} {ops : Array Oper} {md : Region.Mode} {C : World → Prop} {Q : Exit → Act → World → Prop}
def wpMaskG (P : Program) (ops : Array Oper) (Q : Exit → Act → World → Prop) (C : World → Prop) (K : Act → World → Prop) : List (Bool × Oper) → Act → World → Prop
  | [], a, w => K a w
  | (true, o) :: r, a, w => ∃ v, YieldsIf P ops C o v a ∧ wpMaskG P ops Q C K r (a.put o.dst v) w
  | (false, o) :: r, a, w => Region.wanted o (yielded ops a.tmps) = true ∧ o.wp P a w (fun a' w' => C w' ∧ wpMaskG P ops Q C K r a' w') Q
theorem headH_ordG {n g : Nat} {K : Act → World → Prop} (hsel : Region.noSelect ops = true) (hQ : ∀ c a d v w, Q (.panic c) (a.put d v) w → Q (.panic c) a w) (hs : Region.sinkB md ops n = true) (hc : Region.chainB md ops n = true) (hn : n < ops.size) :
    ∀ (m : List (Nat × Bool)) (ls : Array Bool) (a : Act) (w : World), HeadInv md ops n ls → C w →
    ordB md ops g n m ls = true → wpMaskG P ops Q C K (ordOps ops.toList m) a w → headH P md ops Q C n (fun ls' a' w' => Region.seqB md ops g n ls' = true ∧ K a' w') m.length ls a w
  | [], ls, a, w, _, hw, hB, h => ⟨by simpa [ordB] using hB, h⟩
  | (k, true) :: m, ls, a, w, inv, hw, hB, h => by
    simp only [ordB, Bool.and_eq_true, decide_eq_true_eq] at hB
    have hkn : k < n := hB.1.1.1
    have h0 : ops[k]? = some ops[k] := Array.getElem?_eq_getElem (by omega)
    rw [ordOps_cons (o := ops[k]) (by rw [Array.getElem?_toList]; exact h0)] at h
    have hr : k ∈ Region.ready md ops ls := by simpa using hB.1.1.2
    obtain ⟨v, hy, hK⟩ := h
    exact headH_first h0 (Region.noSelect_spec hsel) (fun c a w => hQ c a _ _ w) hs hc hn hkn (fun ls' a' w' hL => seqB_ready hL.1) m.length ls a w inv (Region.free_spec h0 hB.1.2) hr hy hw
      (headH_ordG hsel hQ hs hc hn m _ _ w (inv.set hr hkn) hw hB.2 hK)
  | (k, false) :: m, ls, a, w, inv, hw, hB, h => by
    simp only [ordB, Bool.and_eq_true, decide_eq_true_eq] at hB
    have hkn : k < n := hB.1.1
    have h0 : ops[k]? = some ops[k] := Array.getElem?_eq_getElem (by omega)
    rw [ordOps_cons (o := ops[k]) (by rw [Array.getElem?_toList]; exact h0)] at h
    refine ⟨fun e => (by rw [hB.1.2] at e; cases e), fun j hj => ?_⟩
    rw [hB.1.2, List.mem_singleton] at hj
    subst hj
    refine ⟨hkn, ?_⟩
    unfold wpOp
    rw [h0]
    simp only
    rw [if_pos h.1]
    refine .inl (Oper.wp_mono (fun a' w' h' => ⟨h'.1, ?_⟩) h.2)
    exact headH_ordG hsel hQ hs hc hn m _ _ w' (inv.set (by rw [hB.1.2]; simp) hkn) h'.1 hB.2 h'.2
/-- reads, and operations that come alone, in an order of our own; behind them the rest in the text's order -/
theorem wp_region_ordG {id : Nat} {a : Act} {w : World} {l : List Oper} (C : World → Prop) (m : List (Nat × Bool)) (hm : P.follows .mixedOrders = true) (hB : ordTailB .any l.toArray m = true) (hQ : ∀ c a d v w, Q (.panic c) (a.put d v) w → Q (.panic c) a w) (hC : C w.drew)
    (h : wpMaskG P l.toArray Q C (fun a' w' => wpList P l.toArray Q (l.drop m.length) a' w') (ordOps l m) a w.drew) : (Code.region id l.toArray true).wp P Q a w := by
  simp only [ordTailB, Bool.and_eq_true, decide_eq_true_eq] at hB
  obtain ⟨⟨⟨⟨hsel, hn⟩, hs⟩, hc⟩, hlex⟩ := hB
  have hn' : m.length < l.length := by simpa using hn
  have hdl : (l.drop m.length).length = l.toArray.size - m.length := by simp
  have inv0 : HeadInv .any l.toArray m.length (Array.replicate l.toArray.size false) :=
    ⟨by simp, fun j oj _ hl => (by rw [getD_replicate_false] at hl; cases hl), fun t _ ht => getD_in (by simpa using ht) (getD_replicate_false _ _)⟩
  have H := headH_ordG (md := .any) (g := l.toArray.size - m.length) hsel hQ hs hc hn m _ a w.drew inv0 hC hlex h
  refine wp_region_any hm ?_
  have := any_of_headH (Q := Q) (g := l.toArray.size - m.length) (fun ls a' w' hL => by
    have h1 := wpAny_of_seq (md := .any) (Q' := Q) (l.drop m.length) m.length ls a' w' (fun j => by simp [List.getElem?_drop]) (by rw [hdl]; exact hL.1) hL.2
    rwa [hdl] at h1) _ _ _ _ H
  rw [show m.length + (l.toArray.size - m.length) = l.toArray.size by omega] at this
  exact this
theorem maskG_read {o : Oper} {a : Act} {w : World} {K : Act → World → Prop} {r : List (Bool × Oper)} {v : Value} (hw : Region.wanted o (yielded ops a.tmps) = true) (hrun : ∀ w, C w → (execOp a.eval o).run P w = .ok (.value v) w)
    (h : wpMaskG P ops Q C K r (a.put o.dst v) w) : wpMaskG P ops Q C K ((true, o) :: r) a w := ⟨v, .inl ⟨hw, hrun⟩, h⟩
theorem maskG_load {t : TypeId} {n : Nat} (hT : AggOf P t n) {o : Oper} {a : Act} {w : World} {K : Act → World → Prop} {r : List (Bool × Oper)} (hg : Region.wanted o (yielded ops a.tmps) = true) (x : Operand) (ho : o.op = .load t x) (b off : Nat) (hx : a.eval x = .pointer (some ⟨b, off, none⟩)) (cs : List Value) (hl : cs.length = n)
    (hc : ∀ w, C w → ∀ j u, cs[j]? = some u → w.cell? ⟨b, off + j, none⟩ = some u) (h : wpMaskG P ops Q C K r (a.put o.dst (.agg cs.toArray)) w) : wpMaskG P ops Q C K ((true, o) :: r) a w :=
  maskG_read hg (fun w hw => by
    unfold execOp
    rw [ho]
    simp only [Sem.run_bind, Sem.run_pure, hx, run_loadAgg hT w b off cs hl (hc w hw), Result.andThen]) h
theorem maskG_call {o : Oper} {a : Act} {w : World} {K : Act → World → Prop} {r : List (Bool × Oper)} {f : FuncId} {args : Array Value} (hg : Region.wanted o (yielded ops a.tmps) = true) (hrun : (execOp a.eval o).run P w = .ok (.enter f args) w)
    (hc : Calls P f args w (fun e w' => ∃ v, e = .returned v ∧ C w' ∧ wpMaskG P ops Q C K r (a.put o.dst v) w')) : wpMaskG P ops Q C K ((false, o) :: r) a w := by
  refine ⟨hg, ?_⟩
  unfold Oper.wp
  rw [hrun]
  refine hc.mono ?_
  rintro e w' ⟨v, rfl, h⟩
  exact h
theorem maskG_value {o : Oper} {a : Act} {w w' : World} {K : Act → World → Prop} {r : List (Bool × Oper)} {v : Value} (hg : Region.wanted o (yielded ops a.tmps) = true) (hrun : (execOp a.eval o).run P w = .ok (.value v) w') (hC : C w')
    (h : wpMaskG P ops Q C K r (a.put o.dst v) w') : wpMaskG P ops Q C K ((false, o) :: r) a w := by
  refine ⟨hg, ?_⟩
  unfold Oper.wp
  rw [hrun]
  exact ⟨hC, h⟩
theorem maskG_done {a : Act} {w : World} {K : Act → World → Prop} (h : K a w) : wpMaskG P ops Q C K [] a w := h
end
end Go.Proofs.YtcjeclddpkinkaaDoor
