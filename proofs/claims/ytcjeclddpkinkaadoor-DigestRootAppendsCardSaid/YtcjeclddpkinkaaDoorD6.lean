/- slices.Chunk at []byte: its iterator's contract. -/
import Derived.Test.YtcjeclddpkinkaaDoorB7
import Derived.RangeFuncBound
import Derived.RangeFuncLeaves
import Derived.RangeFuncBox
import Derived.Shelf.Abstract
import Derived.Shelf.RegionOpen
import Derived.OwnWalkIn
import Derived.TacticsInMore
import Derived.LoopNIn
import Derived.LoopIn
import Derived.BigQuiet
import Derived.Outline
set_option linter.unusedSimpArgs false
set_option linter.unusedVariables false
namespace Go.Proofs.YtcjeclddpkinkaaDoor
open Go.RowKit Go.Shelf

attribute [local go_sem] Oper.semAt_some

theorem range_at {K : Nat} {pre rest : List (Fin K)} {x : Fin K} (h : List.finRange K = pre ++ x :: rest) : x.1 = pre.length := by
  have h1 : (List.finRange K)[pre.length]? = some x := by rw [h]; simp
  have hlt : pre.length < K := by
    have := congrArg List.length h
    simp at this; omega
  rw [List.getElem?_eq_getElem (by simpa using hlt), List.getElem_finRange] at h1
  exact (congrArg Fin.val (Option.some.inj h1)).symm

def encB (b : Nat) {K : Nat} (x : Fin K) : Array Value := #[.slice (some ⟨b, 64 * x.1, none⟩) 64 64]

set_option maxRecDepth 100000 in
set_option maxHeartbeats 1000000 in
theorem chunk_in (n : Nat) (hn : 1 ≤ n) (l b M cm K B1 B2 : Nat) (hM : M = 64 * K) (hcm : M ≤ cm) (hcm2 : cm ≤ maxLen) (hM2 : M ≤ 1000000000000) (J Jx : List (Fin K) → World → Prop) (hJ : ∀ s A k, J s A → J s (A.drewN k))
    (hY : ∀ pre x W, J pre W → pre.length < K → YieldAt Fence.wide (n - 1) Tryd.prog l (encB b x) W fun e W' =>
      (e = .returned (.bool true) ∧ J (pre ++ [x]) W' ∧ KpC B1 B2 W W') ∨ (e = .returned (.bool false) ∧ Jx (pre ++ [x]) W'))
    (W : World) (hb1 : W.cell? ⟨B1, 0, none⟩ = some (.slice (some ⟨b, 0, none⟩) M cm)) (hb2 : W.cell? ⟨B2, 0, none⟩ = some (.int .i64 64)) (h0 : J [] W) :
    CallsIn Fence.wide n Tryd.prog 130 #[.func (.yield l) #[] #[], .pointer (some ⟨B1, 0, none⟩), .pointer (some ⟨B2, 0, none⟩)] W fun e W' => (∃ v, e = .returned v) ∧
      ((∃ ys, ys = List.finRange K ∧ J ys W') ∨ (∃ pre, pre <+: List.finRange K ∧ Jx pre W')) := by
  have HM := Lib.hid hM
  clear hM
  refine callsIn_of_wp Tryd.func130 rfl trivial ?_ rfl
  simp only [Tryd.ntmps130, List.size_toArray, List.length_cons, List.length_nil, Nat.reduceAdd, Nat.reduceSub, Array.replicate_succ, Array.replicate_zero, List.push_toArray, List.append_toArray, List.nil_append, List.cons_append]
  gi_wp2
  gi_loopw [4] (fun v wr => ∃ (pre rest : List (Fin K)) (i : Nat), v = .int .i64 (i : Int) ∧ Hid (i = 64 * pre.length) ∧ Hid (List.finRange K = pre ++ rest) ∧ wr.cell? ⟨B1, 0, none⟩ = some (.slice (some ⟨b, 0, none⟩) M cm) ∧ wr.cell? ⟨B2, 0, none⟩ = some (.int .i64 64) ∧ J pre wr)
    (fun v wr => M + 1 - (intOf v).toNat)
  case atStart =>
    exact ⟨[], List.finRange K, 0, rfl, Lib.hid rfl, Lib.hid rfl, hb1, hb2, h0⟩
  case round =>
    obtain ⟨pre, rest, i, rfl, HI, HX, c1, c2, hJs⟩ := hrel
    clear hb1 hb2 h0
    have hlen := congrArg List.length HX.out
    rw [List.length_finRange, List.length_append] at hlen
    have HLE := Lib.hid hlen
    clear hlen
    cases rest with
    | nil =>
      have hi : i = M := by have := HI.out; have := HM.out; have := HLE.out; simp at this; omega
      subst hi
      gi_wp2
      go_end0
      exact ⟨⟨_, rfl⟩, .inl ⟨pre, by have := HX.out; rw [List.append_nil] at this; exact this.symm, hJs⟩⟩
    | cons x rest =>
      have hx := range_at HX.out
      have hi : i + 64 ≤ M := by have := HI.out; have := HM.out; have := HLE.out; simp at this; omega
      have hlt : i < M := by omega
      have hmin : ¬ ((M : Int) - (i : Int) < 64) := by omega
      gi_wp2
      refine wpIn_wide.2 ?_
      go_quiet (fail)
      generalize hwd : wr.drewN nq = wd
      have d1 : wd.cell? ⟨B1, 0, none⟩ = some (.slice (some ⟨b, 0, none⟩) M cm) := by rw [← hwd]; exact c1
      have d2 : wd.cell? ⟨B2, 0, none⟩ = some (.int .i64 64) := by rw [← hwd]; exact c2
      have hJd : J pre wd := by rw [← hwd]; exact hJ _ _ _ hJs
      clear hwd c1 c2 hJs
      obtain ⟨fn, tmps, assign, body, hy, hR⟩ := hY pre x wd hJd (by have := HLE.out; simp at this; omega)
      dsimp only [encB] at hy
      rw [hx, ← HI.out] at hy
      have HXX := Lib.hid hx
      clear hx
      gi_wp2
      refine hR.mono ?_
      rintro e W3 (⟨rfl, hJ3, hk3⟩ | ⟨rfl, hJx3⟩)
      · have e1 : W3.cell? ⟨B1, 0, none⟩ = some (.slice (some ⟨b, 0, none⟩) M cm) := (cell_same hk3.1).trans d1
        have e2 : W3.cell? ⟨B2, 0, none⟩ = some (.int .i64 64) := (cell_same hk3.2).trans d2
        gi_wp2
        go_roundw
        case rel => exact ⟨pre ++ [x], rest, i + 64, by go_num, Lib.hid (by rw [HI.out, List.length_append, List.length_singleton]; omega), Lib.hid (by rw [HX.out]; simp), e1, e2, hJ3⟩
        case measure => simp [intOf]; omega
      · gi_wp2
        refine bodyPost_ret (results_none rfl _ _ _) rfl ?_
        exact ⟨⟨_, rfl⟩, .inr ⟨pre ++ [x], ⟨rest, by rw [HX.out]; simp⟩, hJx3⟩⟩

theorem chunk_stops (n : Nat) (hn : 1 ≤ n) (b M cm K B1 B2 : Nat) (hM : M = 64 * K) (hcm : M ≤ cm) (hcm2 : cm ≤ maxLen) (hM2 : M ≤ 1000000000000) (w : World)
    (hb1 : Boxed w B1 34 (.slice (some ⟨b, 0, none⟩) M cm)) (hb2 : Boxed w B2 3 (.int .i64 64)) :
    SeqStopsK Fence.wide n Tryd.prog 130 #[.pointer (some ⟨B1, 0, none⟩), .pointer (some ⟨B2, 0, none⟩)] (encB b (K := K)) (KpC B1 B2) (fun ys => ys = List.finRange K) (fun pre => pre <+: List.finRange K) K w := fun l J Jx W hW hJ _ hY h0 =>
  chunk_in n hn l b M cm K B1 B2 hM hcm hcm2 hM2 J Jx (fun s A k hs => hJ s A _ none hs ⟨rfl, rfl, rfl, Nat.le_refl _, fun _ _ _ => rfl⟩ (fun r e => by cases e)) hY W
    ((hW.cell (p := ⟨B1, 0, none⟩) hb1.lt).trans hb1.cell) ((hW.cell (p := ⟨B2, 0, none⟩) hb2.lt).trans hb2.cell) h0

set_option maxRecDepth 100000 in
theorem chunk_calls (A : Option Addr) (M cm : Nat) (w : World) :
    Calls Tryd.prog 83 #[.slice A M cm, .int .i64 64] w fun e w' => e = .returned (.func (.func 130) #[] #[.pointer (some ⟨w.heap.size, 0, none⟩), .pointer (some ⟨w.heap.size + 1, 0, none⟩)]) ∧ w' = (w.alloc (.cells #[.slice A M cm] 34)).alloc (.cells #[.int .i64 64] 3) := by
  go_enter Tryd.func83, Tryd.ntmps83
  go_wp2
  go_ret
  exact ⟨rfl, rfl⟩
end Go.Proofs.YtcjeclddpkinkaaDoor
