/- What a call may do to memory, in one word; a guarded operation; a law's answer. -/
import Derived.Test.YtcjeclddpkinkaaWo
set_option linter.unusedSimpArgs false
set_option linter.unusedVariables false
namespace Go.Proofs.Ytcjeclddpkinkaa
open Go.RowKit

/-- what a call may do: new blocks alone, all else kept -/
def Ext (w w' : World) : Prop := Below w.heap.size w w'
theorem Ext.refl (w : World) : Ext w w := Below.refl _ _
theorem Ext.trans {a b c : World} (h : Ext a b) (k : Ext b c) : Ext a c := below_then h h.size k
theorem Ext.alloc {a b : World} (h : Ext a b) (o : Obj) : Ext a (b.alloc o) := Below.alloc h h.size o
theorem Ext.drawn {a b c : World} (h : Ext a b) (k : Drawn b c) : Ext a c := Below.trans h (k.below _)
theorem Ext.drew {a b : World} (h : Ext a b) : Ext a b.drew := h.drawn (Drawn.refl _).one
theorem Ext.of {a b : World} (h : Below a.heap.size a b) : Ext a b := h
theorem Rd.ext {w w' : World} {A : Option Addr} {xs : List Value} (h : Rd w A xs) (hb : Ext w w') : Rd w' A xs := h.below hb
theorem Own8.ext {w w' : World} {base : Nat} {v : Value} {l : List UInt8} (h : Own8 w base v l) (hb : Ext w w') : Own8 w' base v l := h.below hb
theorem Own64.ext {w w' : World} {base : Nat} {v : Value} {l : List Int} (h : Own64 w base v l) (hb : Ext w w') : Own64 w' base v l := h.below hb
theorem OwnD.ext {w w' : World} {base : Nat} {v : Value} {l : List Wz.Dg} (h : OwnD w base v l) (hb : Ext w w') : OwnD w' base v l := h.below hb

/-- a law's answer -/
def RetT (w : World) (e : Ending) (w' : World) : Prop := e = .returned (.bool true) ∧ Ext w w'

/-- an operation whose guard is met -/
theorem wpList_guarded {P : Program} {w : World} {ops : Array Oper} {rest : List Oper} {o : Oper} {a : Act} {Q : Exit → Act → World → Prop} (hw : Region.wanted o (yielded ops a.tmps) = true)
    (h : wpList P ops Q ({ o with guard := none } :: rest) a w) : wpList P ops Q (o :: rest) a w := by
  have hn : Region.wanted { o with guard := none } (yielded ops a.tmps) = true := rfl
  unfold wpList at h ⊢
  rw [if_pos hn] at h
  rw [if_pos hw]
  exact h
end Go.Proofs.Ytcjeclddpkinkaa
