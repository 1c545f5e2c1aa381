/- append onto a slice that is full: the old row stays, what comes out reads as both rows one behind the other. -/
import Derived.Test.YtcjeclddpkinkaaB3
import Derived.ArgAppend
set_option linter.unusedSimpArgs false
set_option linter.unusedVariables false
namespace Go.Proofs.Ytcjeclddpkinkaa
open Go.RowKit

theorem run_app8full (w : World) (ty : TypeId) (b o N : Nat) (l : List UInt8) (hl : l.length = N) (hc : ∀ j u, (u8s l)[j]? = some u → w.cell? ⟨b, o + j, none⟩ = some u) (A' : Option Addr) (M c : Nat) (t : List UInt8) (ht : t.length = M) (hr : Rd w A' (u8s t))
    (hb : N + M ≤ 140737488355328) (hm : N ≤ maxLen) :
    ∃ A2 c2 w', (Builtin.append_ #[57, 57] ty #[.slice (some ⟨b, o, none⟩) N N, .slice A' M c]).run Try.prog w = .ok (.slice A2 (N + M) c2) w' ∧ Rd w' A2 (u8s (l ++ t)) ∧ N + M ≤ c2 ∧ c2 ≤ maxLen ∧ Ext w w' := by
  obtain ⟨i0, hi, hz0, hz1, hz2⟩ := info_parts info_u8
  rcases Nat.eq_zero_or_pos M with h0 | h0
  · subst h0
    have ht0 : t = [] := List.eq_nil_of_length_eq_zero ht
    subst ht0
    refine ⟨some ⟨b, o, none⟩, N, w, ?_, by rw [List.append_nil]; exact fun _ => ⟨b, o, rfl, hc⟩, by omega, hm, Ext.refl _⟩
    cases A' with
    | none => simp [Builtin.append_, run_underlying Try.underlying57, sizeOf, typeInfo, hi, Builtin.lenOf, Builtin.firstCells, storeCells, Result.andThen]
    | some a => simp [Builtin.append_, run_underlying Try.underlying57, sizeOf, typeInfo, hi, Builtin.lenOf, Builtin.firstCells, loadCells, loadCellsFrom, storeCells, Result.andThen]
  · obtain ⟨b', o', rfl, hc'⟩ := hr (by rw [u8s_length]; omega)
    obtain ⟨v', w', hrun, hown, hg⟩ := run_append_arg_grows (P := Try.prog) w 57 ty 5 i0 (.int .u8 0) 1 1 Try.underlying57 hi hz0 hz1 hz2 rfl (by decide) ⟨b, o, none⟩ N N (u8s l) (by rw [u8s_length]; omega) (fun j u hj => by rw [Addr.add_lit]; exact hc j u hj)
      ⟨b', o', none⟩ M c (u8s t) (by rw [u8s_length]; omega) (fun j u hj => by rw [Addr.add_lit]; exact hc' j u hj) (by omega) (by simp only [maxLen]; omega) (by omega)
    have hown' : Own8 w' w.heap.size v' (l ++ t) := by
      unfold Own8
      rw [u8s_append, List.length_append, hl, ht]
      exact hown
    obtain ⟨A2, c2, rfl, h1, h2, h3⟩ := hown'.slice
    rw [List.length_append, hl, ht] at h1 hrun
    exact ⟨A2, c2, w', hrun, h3, h1, h2, ⟨hg.os, hg.tape, hg.output, hg.size, fun k hk => hg.block k hk (by simp)⟩⟩

theorem wpList_app8full (w : World) {ops : Array Oper} {rest : List Oper} {op : Oper} {a : Act} {Q : Exit → Act → World → Prop} (hgd : op.guard = none) (s x : Operand)
    (ho : op.op = .call { callee := .builtin .append, args := #[s, x], argTypes := #[57, 57] })
    (A : Option Addr) (N : Nat) (l : List UInt8) (hs : a.eval s = .slice A N N) (hl : l.length = N) (h0 : 0 < N) (hrl : Rd w A (u8s l)) (A' : Option Addr) (M c : Nat) (t : List UInt8) (hx : a.eval x = .slice A' M c) (ht : t.length = M) (hr : Rd w A' (u8s t))
    (hb : N + M ≤ 140737488355328) (hm : N ≤ maxLen)
    (h : ∀ A2 c2 w', Rd w' A2 (u8s (l ++ t)) → N + M ≤ c2 → c2 ≤ maxLen → Ext w w' → wpList Try.prog ops Q rest (a.put op.dst (.slice A2 (N + M) c2)) w') : wpList Try.prog ops Q (op :: rest) a w := by
  obtain ⟨b, o, rfl, hc⟩ := hrl (by rw [u8s_length]; omega)
  obtain ⟨A2, c2, w', hrun, h1, h2, h3, h4⟩ := run_app8full w op.type b o N l hl hc A' M c t ht hr hb hm
  refine wpList_plain hgd fun K hK => ?_
  unfold Oper.wp execOp
  simp only [ho, resolve, invoke, builtin, Sem.run_bind, Sem.run_pure, Result.andThen_ok, List.map_toArray, List.map_cons, List.map_nil, hs, hx, hrun]
  exact hK _ _ (h A2 c2 w' h1 h2 h3 h4)

end Go.Proofs.Ytcjeclddpkinkaa
