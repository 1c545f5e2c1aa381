/- The iterator over an Index's entries: its contract for every loop body that keeps what lay below. -/
import Derived.Test.YtcjeclddpkinkaaI4
import Derived.RangeFuncNested
import Derived.RangeFuncBound
import Derived.RangeFuncCalls
import Derived.RangeFuncLeaves
import Derived.RangeFuncBox
import Derived.Shelf.Abstract
import Derived.Shelf.RegionOpen
import Derived.OwnWalkIn
import Derived.TacticsInMore
import Derived.LoopNIn
import Derived.LoopIn
import Derived.Maps.OwnIn
set_option linter.unusedSimpArgs false
set_option linter.unusedVariables false
namespace Go.Proofs.Ytcjeclddpkinkaa
open Go.RowKit Go.Shelf Go.ChangeMaps Ix

attribute [local go_sem] Oper.semAt_some

/-- an entry that is in order -/
abbrev EnO := { x : En // OkE x }
def encE (x : EnO) : Array Value := #[.int .i64 x.1.2, .int .u32 x.1.1]
def vals (xs : List EnO) : List En := xs.map (·.1)

section
variable {F : Fence} {nF : Nat} {w : World} {ops : Array Oper} {rest : List Oper} {o : Oper} {a : Act} {Q : Exit → Act → World → Prop}
theorem wpListIn_look (hgd : o.guard = none) (m x : Operand) (ho : o.op = .lookup 90 m x false) {r n : Nat} {f : Int → Option Lk} (h : MapAt w r (fun c => (f c).map lv) n) {c : Int} (hc : (Lit.int .i64 c).wf = true) (hm : a.eval m = .map (some r)) (hx : a.eval x = .int .i64 c) {y0 y1 y2 : Int} (hy : f c = some (y0, y1, y2))
    (hk : wpListIn F nF Try.prog ops Q rest (a.put o.dst (.agg #[.int .u32 y0, .int .i64 y1, .int .i64 y2])) w) : wpListIn F nF Try.prog ops Q (o :: rest) a w := by
  have hrun := run_look Try.und_map Try.und_i h hc (Try.zero_lk w) false
  rw [hy] at hrun
  refine wpListIn_plain hgd fun K' hK' => ?_
  unfold Oper.wpIn
  refine ⟨by simp [Oper.about, ho], ?_⟩
  rw [Oper.semAt_plain F _ _ (by rw [ho]; intro c hc'; cases hc')]
  unfold execOp
  rw [ho]
  simp only [Sem.run_bind, Sem.run_pure, hm, hx, hrun, Result.andThen]
  exact hK' _ _ hk
end

theorem Try.field0 (a b c : Int) (w : World) : (Instr.field 88 (.agg #[.int .u32 a, .int .i64 b, .int .i64 c]) 0).run Try.prog w = .ok (.int .u32 a) w := by kernel_rfl
theorem Try.field2 (a b c : Int) (w : World) : (Instr.field 88 (.agg #[.int .u32 a, .int .i64 b, .int .i64 c]) 2).run Try.prog w = .ok (.int .i64 c) w := by kernel_rfl

open Classical in
/-- how many entries are still to come -/
noncomputable def leftE (L : List En) (v : Value) : Nat := match v with | .int _ c => (L.dropWhile fun x => decide (x.2 ≠ c)).length | _ => 0
theorem leftE_eq {pre rest : List En} (hw : Wf (pre ++ rest)) : leftE (pre ++ rest) (.int .i64 (fstOf rest)) = rest.length := by
  unfold leftE
  have h1 : ∀ x ∈ pre, decide (x.2 ≠ fstOf rest) = true := by
    intro x hx
    rw [decide_eq_true_iff]
    rcases fstOf_mem rest with e | ⟨y, hy, e⟩
    · rw [e]; have := (hw.ok x (by simp [hx])).2.2.1; omega
    · rw [← e]; exact (List.pairwise_append.1 hw.apart).2.2 x hx y hy
  simp only
  rw [List.dropWhile_append_of_pos h1]
  cases rest with
  | nil => rfl
  | cons y t =>
    rw [List.dropWhile_cons_of_neg (by simp [fstOf])]

/-- in blocks below n₀, and no fresh block among them, lies an Index that holds L -/
theorem Ixd.below {n₀ : Nat} {A B : World} {p r cap : Nat} {L : List En} (h : Ixd A p r cap L) (k : Below n₀ A B) (hp : p < n₀) (hr : r < n₀) : Ixd B p r cap L :=
  ⟨⟨(k.block p hp).trans h.1.1, h.1.2.kept (k.block r hr)⟩, h.2⟩

/-- what a round keeps: what lay below n₀, and the block of the variable that the iterator has captured -/
def KpB (n₀ Bn : Nat) (A B : World) : Prop := Below n₀ A B ∧ B.heap[Bn]? = A.heap[Bn]?
theorem KpB.trans {n₀ Bn : Nat} {A B C : World} (h : KpB n₀ Bn A B) (k : KpB n₀ Bn B C) : KpB n₀ Bn A C := ⟨h.1.trans k.1, k.2.trans h.2⟩
theorem KpB.putObj {n₀ Bn s : Nat} (h0 : n₀ ≤ s) (hb : Bn < s) (W : World) (l : Nat) (o o' : Obj) (hl : s ≤ l) (h1 : W.heap[l]? = some o) (h2 : o.isCells = false) (h3 : o.isWalk = false) : KpB n₀ Bn W (W.putObj l o') :=
  ⟨belowK_b (w := { W with heap := Array.replicate s (.cells #[] 0) }) (by simpa using h0) W l o o' (by simpa using hl) h1 h2 h3, World.putObj_heap_other (by omega)⟩
theorem cell_same {A B : World} {b o : Nat} (h : B.heap[b]? = A.heap[b]?) : B.cell? ⟨b, o, none⟩ = A.cell? ⟨b, o, none⟩ := by simp [World.cell?, h]

set_option maxRecDepth 100000 in
set_option maxHeartbeats 1000000 in
theorem iter_in (F : Fence) (n : Nat) (h69 : F.fn 69) (hro : F.round = none) (hn : 1 ≤ n) (l Bn n₀ p r cap : Nat) (hp : p < n₀) (hr : r < n₀) (xs : List EnO) (J Jx : List EnO → World → Prop)
    (hY : ∀ pre x W, J pre W → pre.length < xs.length → YieldAt F (n - 1) Try.prog l (encE x) W fun e W' =>
      (e = .returned (.bool true) ∧ J (pre ++ [x]) W' ∧ KpB n₀ Bn W W') ∨ (e = .returned (.bool false) ∧ Jx (pre ++ [x]) W'))
    (W : World) (hB : W.cell? ⟨Bn, 0, none⟩ = some (.pointer (some ⟨p, 0, none⟩))) (hL : Ixd W p r cap (vals xs)) (h0 : J [] W) :
    CallsIn F n Try.prog 69 #[.func (.yield l) #[] #[], .pointer (some ⟨Bn, 0, none⟩)] W fun e W' => (∃ v, e = .returned v) ∧
      ((∃ ys, ys = xs ∧ J ys W') ∨ (∃ pre, pre <+: xs ∧ Jx pre W')) := by
  obtain ⟨c0, c1, c2, c3⟩ := hL.1.cell
  have hwf := hL.2
  obtain ⟨L, hLe⟩ : ∃ L, vals xs = L := ⟨_, rfl⟩
  have hfst : fstOf (vals xs) = fstOf L := by rw [hLe]
  rw [hLe] at hL hwf c2 c3
  refine callsIn_of_wp Try.func69 rfl h69 ?_ hro
  simp only [Try.ntmps69, List.size_toArray, List.length_cons, List.length_nil, Nat.reduceAdd, Nat.reduceSub, Array.replicate_succ, Array.replicate_zero, List.push_toArray, List.append_toArray, List.nil_append, List.cons_append]
  gi_wp2
  gi_loopw [3] (fun v wr => ∃ (pre rest : List EnO), v = .int .i64 (fstOf (vals rest)) ∧ xs = pre ++ rest ∧ Ixd wr p r cap L ∧ wr.cell? ⟨Bn, 0, none⟩ = some (.pointer (some ⟨p, 0, none⟩)) ∧ J pre wr)
    (fun v wr => leftE L v)
  case atStart =>
    exact ⟨[], xs, by rw [hfst], rfl, hL, hB, h0⟩
  case round =>
    obtain ⟨pre, rest, rfl, hx, hl, hb, hJs⟩ := hrel
    clear hB hL h0 c0 c1 c2 c3
    obtain ⟨d0, d1, d2, d3⟩ := hl.1.cell
    have hM := hl.1.2
    have hLL : L = vals pre ++ vals rest := by rw [← hLe, hx]; exact List.map_append
    cases rest with
    | nil =>
      have hz : fstOf (vals []) = 0 := rfl
      simp only [hz]
      gi_wp2
      go_end0
      exact ⟨⟨_, rfl⟩, .inl ⟨pre, by simp [hx], hJs⟩⟩
    | cons x rest =>
      obtain ⟨⟨x0, x1⟩, hxo⟩ := x
      have hfx : fstOf (vals (⟨(x0, x1), hxo⟩ :: rest)) = x1 := rfl
      have hvr : vals (⟨(x0, x1), hxo⟩ :: rest) = (x0, x1) :: vals rest := rfl
      rw [hvr] at hLL
      have hno : ∀ y ∈ vals pre, y.2 ≠ x1 := fun y hy => (List.pairwise_append.1 (hLL ▸ hwf).apart).2.2 y hy (x0, x1) (by simp)
      have hlk : lk 0 L x1 = some (x0, lstOf 0 (vals pre), fstOf (vals rest)) := by rw [hLL]; exact lk_at _ (x0, x1) _ hno 0
      have hw1 : (Lit.int .i64 x1).wf = true := (show In x1 from ⟨by have := hxo.2.2.1; simp only at this; omega, hxo.2.2.2⟩).wf
      have hne : (x1 != 0) = true := by rw [bne_iff_ne]; have := hxo.2.2.1; simp only at this; omega
      have hm1 := leftE_eq (pre := vals pre) (rest := (x0, x1) :: vals rest) (hLL ▸ hwf)
      have hm2 := leftE_eq (pre := vals pre ++ [(x0, x1)]) (rest := vals rest) (by rw [List.append_assoc]; exact hLL ▸ hwf)
      rw [List.append_assoc] at hm2
      have hm12 : leftE L (.int .i64 (fstOf (vals rest))) < leftE L (.int .i64 x1) := by
        rw [hLL]
        rw [show (.int .i64 x1 : Value) = .int .i64 (fstOf ((x0, x1) :: vals rest)) from rfl, hm1]
        rw [show vals pre ++ (x0, x1) :: vals rest = vals pre ++ ([(x0, x1)] ++ vals rest) from rfl, hm2]
        simp
      obtain ⟨fn, tmps, assign, body, hy, hR⟩ := hY pre ⟨(x0, x1), hxo⟩ wr hJs (by rw [hx]; simp)
      dsimp only [encE] at hy
      simp only [hfx]
      have HLK := Lib.hid hlk; have HM12 := Lib.hid hm12; have HNO := Lib.hid hno; have HLL := Lib.hid hLL
      clear hlk hm1 hm2 hm12 hno hLL hLe hfst
      have hfd := fun w => Try.field0 x0 (lstOf 0 (vals pre)) (fstOf (vals rest)) w
      have hfe := fun w => Try.field2 x0 (lstOf 0 (vals pre)) (fstOf (vals rest)) w
      gi_wp2_with (first
        | (gi_at_lookup; go_must (refine wpListIn_look rfl (.tmp 22) (.tmp 23) rfl hM hw1 rfl rfl HLK.out ?_))
        | fail)
      refine hR.mono ?_
      rintro e W3 (⟨rfl, hJ3, hk3⟩ | ⟨rfl, hJx3⟩)
      · have hl3 := hl.below hk3.1 hp hr
        have hb3 : W3.cell? ⟨Bn, 0, none⟩ = some (.pointer (some ⟨p, 0, none⟩)) := (cell_same hk3.2).trans hb
        obtain ⟨s0, s1, s2, s3⟩ := hl3.1.cell
        have hM3 := hl3.1.2
        gi_wp2_with (first
          | (gi_at_lookup; go_must (refine wpListIn_look rfl (.tmp 13) (.tmp 14) rfl hM3 hw1 rfl rfl HLK.out ?_))
          | fail)
        go_roundw
        case rel => exact ⟨pre ++ [⟨(x0, x1), hxo⟩], rest, rfl, by simp [hx], hl3, hb3, hJ3⟩
        case measure => exact HM12.out
      · gi_wp2
        refine bodyPost_ret (results_none rfl _ _ _) rfl ?_
        exact ⟨⟨_, rfl⟩, .inr ⟨pre ++ [⟨(x0, x1), hxo⟩], ⟨rest, by simp [hx]⟩, hJx3⟩⟩

theorem iter_stops (F : Fence) (n : Nat) (h69 : F.fn 69) (hro : F.round = none) (hn : 1 ≤ n) (Bn n₀ p r cap : Nat) (hp : p < n₀) (hr : r < n₀) (xs : List EnO) (w : World) (hn₀ : n₀ ≤ w.heap.size) (hbn : Bn < w.heap.size)
    (hc : w.cell? ⟨Bn, 0, none⟩ = some (.pointer (some ⟨p, 0, none⟩))) (hL : Ixd w p r cap (vals xs)) :
    SeqStopsK F n Try.prog 69 #[.pointer (some ⟨Bn, 0, none⟩)] encE (KpB n₀ Bn) (fun ys => ys = xs) (fun pre => pre <+: xs) xs.length w := fun l J Jx W hW _ _ hY h0 =>
  iter_in F n h69 hro hn l Bn n₀ p r cap hp hr xs J Jx hY W ((hW.cell (p := ⟨Bn, 0, none⟩) hbn).trans hc) (hL.below (hW.mono hn₀) hp hr) h0

set_option maxHeartbeats 1000000 in
/-- x.entries() -/
theorem entries_in (F : Fence) (n : Nat) (h : F.fn 62) (hro : F.round = none) (p : Nat) (w : World) :
    CallsIn F n Try.prog 62 #[.pointer (some ⟨p, 0, none⟩)] w fun e w' => e = .returned (.func (.func 69) #[] #[.pointer (some ⟨w.heap.size, 0, none⟩)]) ∧ w' = w.alloc (.cells #[.pointer (some ⟨p, 0, none⟩)] 24) := by
  refine callsIn_of_wp Try.func62 rfl h ?_ hro
  simp only [Try.ntmps62, List.size_toArray, List.length_cons, List.length_nil, Nat.reduceAdd, Nat.reduceSub, Array.replicate_succ, Array.replicate_zero, List.push_toArray, List.append_toArray, List.nil_append, List.cons_append]
  gi_wp2
  go_ret
  exact ⟨rfl, rfl⟩

end Go.Proofs.Ytcjeclddpkinkaa
