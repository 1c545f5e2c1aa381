/- Within a round of a range over a function: a region in the text's order, shown by the plain laws. What a round keeps. -/
import Derived.Test.YtcjeclddpkinkaaDoorD5
import Derived.OrdersHeld
import Derived.OrdersIn
import Derived.RangeFuncCalls
import Derived.CallsIn
import Derived.ControlIn
import Derived.TacticsIn
import Derived.RangeFuncWrites
import Derived.RangeFuncNested
set_option linter.unusedVariables false
set_option linter.unusedSimpArgs false
namespace Go.Proofs.YtcjeclddpkinkaaDoor
open Go.RowKit

theorem rowsIn_wide {n : Nat} {P : Program} {row : String} {args : Array Value} {w : World} {R : Value → World → Prop} (h : Rows P row args w R) : RowsIn Fence.wide n P row args w R := fun c cs hr =>
  let ⟨v, w', r, s⟩ := h c cs
  ⟨v, w', r, stepsIn_wide.2 s⟩

section
variable {P : Program} {ops : Array Oper} {Q : Exit → Act → World → Prop}
theorem opIn_round {o : Oper} {a : Act} {w : World} {K : Act → World → Prop} {l n : Nat} (hd : ∀ c, o.op ≠ .defer c) (h : o.wp P a w K Q) : o.wpIn (Fence.wide.inRound l) n P a w K Q := by
  refine ⟨fun _ _ => trivial, ?_⟩
  rw [show (Fence.wide.inRound l).round = some l from rfl, Oper.semAt_eq _ _ _ hd]
  unfold Oper.wp at h
  generalize (execOp a.eval o).run P w = r at *
  cases r with
  | ok x w' =>
    cases x <;> simp only [Oper.upon] at h <;> simp only [Oper.uponIn]
    case value v => exact h
    case skip => exact h
    case defer d => exact h
    case enter f args => exact ⟨fun hh => by simp [Fence.wide] at hh, CallsIn.inRound l (callsIn_wide.2 h)⟩
    case row row args => exact ⟨fun hh => by simp [Fence.wide] at hh, rowsIn_wide h⟩
  | halt x w' => cases x <;> simp only [Oper.upon] at h <;> simp only [Oper.uponIn] <;> exact h

theorem wpListIn_round {l n : Nat} (hQ : ¬ LetsOut Q) : ∀ (L : List Oper) (a : Act) (w : World), (∀ o ∈ L, ∀ c, o.op ≠ .defer c) → wpList P ops Q L a w → wpListIn (Fence.wide.inRound l) n P ops Q L a w
  | [], a, w, _, h => h
  | o :: rest, a, w, hd, h => by
    unfold wpList at h
    unfold wpListIn
    split
    · rename_i hw
      rw [if_pos hw] at h
      rcases h with h | ⟨_, h⟩
      · exact opIn_round (hd o (by simp)) (Oper.wp_mono (fun a' w' h' => wpListIn_round hQ rest a' w' (fun o' ho' => hd o' (by simp [ho'])) h') h)
      · exact absurd h hQ
    · rename_i hw
      rw [if_neg hw] at h
      exact ⟨fun _ _ => trivial, wpListIn_round hQ rest _ w (fun o' ho' => hd o' (by simp [ho'])) h⟩
theorem wpIn_round_list {id l n : Nat} {a : Act} {w : World} {L : List Oper} (hd : (L.all fun o => match o.op with | .defer _ => false | _ => true) = true) (hQ : ¬ LetsOut Q) (h : wpList P L.toArray Q L a w) : (Code.region id L.toArray false).wpIn (Fence.wide.inRound l) n P Q a w := by
  refine wpIn_region_lit (wpListIn_round hQ L a w (fun o ho c e => ?_) h)
  have := List.all_eq_true.1 hd o ho
  rw [e] at this
  cases this
end

/-- what a round keeps: two blocks -/
def KpC (b c : Nat) (A B : World) : Prop := B.heap[b]? = A.heap[b]? ∧ B.heap[c]? = A.heap[c]?
theorem KpC.trans {b c : Nat} {A B C : World} (h : KpC b c A B) (k : KpC b c B C) : KpC b c A C := ⟨k.1.trans h.1, k.2.trans h.2⟩
theorem KpC.putObj {b c s : Nat} (hb : b < s) (hc : c < s) (W : World) (l : Nat) (o o' : Obj) (hl : s ≤ l) (_ : W.heap[l]? = some o) (_ : o.isCells = false) (_ : o.isWalk = false) : KpC b c W (W.putObj l o') :=
  ⟨World.putObj_heap_other (by omega), World.putObj_heap_other (by omega)⟩
theorem ownFrom_grown {β : Type} {w₀ : World} {B : Nat} {r : Option Nat} (hB : w₀.heap.size ≤ B) : OwnFrom B (fun (_ : β) W => w₀.grownBy W r) :=
  fun _ _ _ _ hs hg hr => ⟨hg.os.trans hs.os, hg.tape.trans hs.tape, hg.output.trans hs.output, Nat.le_trans hs.size hg.size, fun k hk hne => (hg.block k (Nat.lt_of_lt_of_le hk hs.size) (fun e => by have := (hr k e.symm).1; omega)).trans (hs.block k hk hne)⟩
theorem blk_own {β : Type} (B t : Nat) (f : β → List Value) : Own (fun s W => Blk W B t (f s)) := fun s X Y row hs hg hrow =>
  hs.grown hg (fun e' => by obtain ⟨o, ho, hc⟩ := hrow B e'.symm; rw [show X.heap[B]? = _ from hs] at ho; cases ho; cases hc)
theorem keepsO_ext {a b : World} (h : Ext a b) : KeepsOthers a b := KeepsOthers.of_grownBy (grownBy_below h none) (fun _ _ e => by cases e)
theorem keepsO_blk {a b : World} {g t : Nat} {cs : List Value} (h : Blk a g t cs) (k : a.grownBy b (some g)) : KeepsOthers a b := KeepsOthers.of_grownBy k (fun j o e ho => by
  obtain rfl := Option.some.inj e
  rw [show a.heap[g]? = _ from h] at ho
  cases ho; rfl)

end Go.Proofs.YtcjeclddpkinkaaDoor
