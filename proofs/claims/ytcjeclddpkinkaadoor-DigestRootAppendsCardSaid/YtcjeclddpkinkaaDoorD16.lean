/- Prove's step. -/
import Derived.Test.YtcjeclddpkinkaaDoorD15
set_option linter.unusedSimpArgs false
set_option linter.unusedVariables false
namespace Go.Proofs.YtcjeclddpkinkaaDoor
open Go.RowKit
open Wz (Dg)

theorem run_buildOne {P : Program} (w : World) (t e : TypeId) (i : TypeInfo) (z : Value) (x : Value) (ht : P.underlying t = some (.slice e)) (hi : P.info? e = some i) (hz : i.zero = some z) (hs0 : 0 < i.size) (hs1 : i.size ≤ 16777216) (cs : List Value) (hx : x.cells = cs.toArray) (hl : cs.length = i.size) :
    (Instr.buildSlice t 1 #[(0, x)]).run P w = .ok (.slice (some ⟨w.heap.size, 0, none⟩) 1 1) (w.alloc (.cells cs.toArray e)) := by
  have hb : ¬ (1 * i.size > 2 ^ 24) := by simp; omega
  have hfill : Instr.fill (fun k => some (k * i.size, i.size)) ((Array.range (1 * i.size)).map (fun j => z.cells[j % z.cells.size]!)) [(0, x)] = some cs.toArray := by
    simp only [Instr.fill, hx, Nat.zero_mul]
    rw [if_neg (by simp [hl])]
    congr 1
    have := foldl_set cs 0 ((Array.range (1 * i.size)).map (fun j => z.cells[j % z.cells.size]!)) (by simp [hl])
    have e1 : (cs.toArray.zipIdx).foldl (fun (r : Array Value) (x : Value × Nat) => r.setIfInBounds (0 + x.2) x.1) ((Array.range (1 * i.size)).map (fun j => z.cells[j % z.cells.size]!)) = (cs.zipIdx 0).foldl (fun (r : Array Value) (x : Value × Nat) => r.setIfInBounds (0 + x.2) x.1) ((Array.range (1 * i.size)).map (fun j => z.cells[j % z.cells.size]!)) := by
      rw [← Array.foldl_toList, Array.toList_zipIdx]
    rw [e1, this]
    simp [hl]
  have hne : ¬ (1 * i.size = 0) := by omega
  simp only [Nat.one_mul] at hb hfill hne
  simp [Instr.buildSlice, run_underlying ht, sizeOf, typeInfo, hi, hb, hne, zeroValue, hz, hfill, newRow, newObj, Result.andThen, -gt_iff_lt, -Nat.not_lt]
  rfl
theorem run_buildD (d : Dg) (w : World) : (Instr.buildSlice 63 1 #[(0, dgV d)]).run Tryd.prog w = .ok (.slice (some ⟨w.heap.size, 0, none⟩) 1 1) (w.alloc (.cells (u8s d.1).toArray 45)) := by
  obtain ⟨i0, hi, hz0, hz1, hz2⟩ := info_parts info_dg
  exact run_buildOne w 63 45 i0 _ _ und_ds hi hz0 (by rw [hz1]; decide) (by rw [hz1]; decide) (u8s d.1) rfl (by rw [hz1]; exact dg_len d)
theorem boxed_ext {a b : World} {B : Nat} {t : TypeId} {v : Value} (h : Boxed a B t v) (k : Ext a b) : Boxed b B t v := h.kept (grownBy_below k none) (by simp)

theorem exec_slice {P : Program} {o : Oper} {a : Act} {t : TypeId} {x : Operand} {lo hi : Option Operand} {vx v : Value} {l h : Option Value} (ho : o.op = .slice t x lo hi none) (hx : a.eval x = vx) (hl : lo.map a.eval = l) (hh : hi.map a.eval = h)
    (hrun : ∀ w', (Instr.sliceAt t vx l h none).run P w' = .ok v w') (w : World) : (execOp a.eval o).run P w = .ok (.value v) w := by
  unfold execOp
  rw [ho]
  simp only [Option.map_none, Sem.run_bind, Sem.run_pure, hx, hl, hh, hrun, Result.andThen]
theorem exec_build {P : Program} {o : Oper} {a : Act} {t : TypeId} {n k : Nat} {x : Operand} {vx v : Value} {w w' : World} (ho : o.op = .buildSlice t n #[(k, x)]) (hx : a.eval x = vx)
    (hrun : (Instr.buildSlice t n #[(k, vx)]).run P w = .ok v w') : (execOp a.eval o).run P w = .ok (.value v) w' := by
  unfold execOp
  rw [ho]
  simp only [Sem.run_bind, Sem.run_pure, List.map_toArray, List.map_cons, List.map_nil, hx, hrun, Result.andThen]

/-- out in block n + 1, the list that came in behind block n -/
structure PrI (w : World) (n : Nat) (v : Value) (out : List Dg) (A : Option Addr) (N c : Nat) (L : List Dg) : Prop where
  bo : Boxed w (n + 1) 63 v
  own : OwnD w (n + 2) v out
  bl : Boxed w n 63 (.slice A N c)
  rd : RdB w n A (dgs L)

set_option maxRecDepth 100000 in
set_option maxHeartbeats 600000 in
theorem prove1_calls (x y : Int) (s m n : Nat) (v : Value) (out : List Dg) (A : Option Addr) (N c : Nat) (L : List Dg) (w : World) (h : PrI w n v out A N c L) (hL : L.length = N) (hc : N ≤ c) (hN : N ≤ 1000000) (hs : s + m ≤ N) (hout : out.length ≤ 1000000) (hG : Glo w) :
    Calls Tryd.prog 93 #[.int .i64 x, .int .i64 y, .int .i64 (s : Int), .int .i64 (m : Int), .pointer (some ⟨n + 1, 0, none⟩), .pointer (some ⟨n, 0, none⟩)] w (fun e w' => (∃ v, e = .returned v) ∧ ∃ v', PrI w' n v' (out ++ [Mk.rootF shF ((L.drop s).take m)]) A N c L ∧ ∀ b0 w0, b0 ≤ n → Below b0 w0 w → Below b0 w0 w') := by
  have hBw : n + 2 ≤ w.heap.size := h.bo.lt
  obtain ⟨A1, hs1, hr1, hA1⟩ := run_sliceD h.rd.rd hL hc (some (.int .i64 (s : Int))) (some (.int .i64 ((s + m : Nat) : Int))) s (s + m) (.inr ⟨_, rfl⟩) (.inr ⟨_, rfl⟩) (by omega) (by omega)
  rw [show s + m - s = m from by omega] at hr1 hs1
  have hpl : ((L.drop s).take m).length = m := by rw [List.length_take, List.length_drop]; omega
  have HI1 := Lib.hid fun w' (E : Ext w w') (g : Glo w') => root_calls m A1 (c - s) ((L.drop s).take m) w' (hr1.ext E) hpl (by omega) (by omega) g
  obtain ⟨d, hd⟩ : ∃ x, Mk.rootF shF ((L.drop s).take m) = x := ⟨_, rfl⟩
  rw [hd] at HI1 ⊢
  have H := Lib.hid h
  have HGG := Lib.hid hG
  have i1 : IntKind.i64.wrap ((s : Int) + (m : Int)) = ((s + m : Nat) : Int) := by rw [IntWalk.i64_in _ (by omega)]; omega
  clear hd hpl hr1 hA1 hG hL h
  go_enter Tryd.func93, Tryd.ntmps93
  refine wp_region_mask (fun w' => Ext w w') [true, true, true, true, true, true, true, false, false] (by kernel_rfl) (by kernel_rfl) (fun _ _ d _ _ h => by cases d <;> exact h) (Ext.refl w).drew ?_
  simp only [List.zip_cons_cons, List.zip_nil_left, List.length_cons, List.length_nil, Nat.zero_add, Nat.reduceAdd, List.drop_succ_cons, List.drop_zero]
  refine mask_read (v := v) rfl (fun w' E => by have hc := (boxed_ext H.out.bo E).cell; go_simp) ?_
  simp only [Act.put, List.getElem_toArray, List.getElem_cons_succ, List.getElem_cons_zero, List.setIfInBounds_toArray, List.set_cons_succ, List.set_cons_zero]
  refine mask_read (v := .slice A N c) rfl (fun w' E => by have hc := (boxed_ext H.out.bl E).cell; go_simp) ?_
  simp only [Act.put, List.getElem_toArray, List.getElem_cons_succ, List.getElem_cons_zero, List.setIfInBounds_toArray, List.set_cons_succ, List.set_cons_zero]
  refine mask_read (v := .int .i64 s) rfl (fun w' E => by go_simp) ?_
  simp only [Act.put, List.getElem_toArray, List.getElem_cons_succ, List.getElem_cons_zero, List.setIfInBounds_toArray, List.set_cons_succ, List.set_cons_zero]
  refine mask_read (v := .int .i64 s) rfl (fun w' E => by go_simp) ?_
  simp only [Act.put, List.getElem_toArray, List.getElem_cons_succ, List.getElem_cons_zero, List.setIfInBounds_toArray, List.set_cons_succ, List.set_cons_zero]
  refine mask_read (v := .int .i64 m) rfl (fun w' E => by go_simp) ?_
  simp only [Act.put, List.getElem_toArray, List.getElem_cons_succ, List.getElem_cons_zero, List.setIfInBounds_toArray, List.set_cons_succ, List.set_cons_zero]
  refine mask_read (v := .int .i64 ((s + m : Nat) : Int)) rfl (fun w' E => by go_simp) ?_
  simp only [Act.put, List.getElem_toArray, List.getElem_cons_succ, List.getElem_cons_zero, List.setIfInBounds_toArray, List.set_cons_succ, List.set_cons_zero]
  refine mask_read (v := .slice A1 m (c - s)) rfl (fun w' E => exec_slice rfl rfl rfl rfl hs1 w') ?_
  simp only [Act.put, List.getElem_toArray, List.getElem_cons_succ, List.getElem_cons_zero, List.setIfInBounds_toArray, List.set_cons_succ, List.set_cons_zero]
  refine mask_call (f := 38) (args := #[.slice A1 m (c - s)]) rfl (by go_simp) ((HI1.out _ (Ext.refl w).drew (HGG.out.ext (Ext.refl w).drew)).mono ?_)
  rintro e w1 ⟨rfl, E1'⟩
  have E1 : Ext w w1 := (Ext.refl w).drew.trans E1'
  refine ⟨_, rfl, E1, ?_⟩
  simp only [Act.put, List.getElem_toArray, List.getElem_cons_succ, List.getElem_cons_zero, List.setIfInBounds_toArray, List.set_cons_succ, List.set_cons_zero]
  refine mask_value (v := .slice (some ⟨w1.heap.size, 0, none⟩) 1 1) (w' := w1.alloc (.cells (u8s d.1).toArray 45)) rfl (exec_build rfl rfl (run_buildD d w1)) (E1.alloc _) ?_
  simp only [Act.put, List.getElem_toArray, List.getElem_cons_succ, List.getElem_cons_zero, List.setIfInBounds_toArray, List.set_cons_succ, List.set_cons_zero]
  refine mask_done ?_
  have E2 : Ext w (w1.alloc (.cells (u8s d.1).toArray 45)) := E1.alloc _
  have HN := Lib.hid (Blk.new w1 (u8s d.1) 45).rd
  have HO := Lib.hid (H.out.own.below E2)
  have hB2 : n + 2 ≤ (w1.alloc (.cells (u8s d.1).toArray 45)).heap.size := Nat.le_trans hBw E2.size
  go_wp2_with (first
    | ((with_reducible show wpList _ _ _ (⟨some 19, _, _, _, _, _⟩ :: _) _ _)
       go_must (refine wpList_appD _ rfl (.tmp 10) (.tmp 18) rfl (n + 2) v out rfl HO.out _ 1 1 [d] rfl rfl (by rw [dgs_one]; exact HN.out) (by omega) hB2 ?_)
       intro v' w3 ho3 hg3 hb3
       have bo3 := (boxed_ext H.out.bo E2).kept hg3 ((boxed_ext H.out.bo E2).not_row (by decide) HO.out)
       have bl3 := (boxed_ext H.out.bl E2).kept hg3 ((boxed_ext H.out.bl E2).not_row (by decide) HO.out)
       have hcell := bo3.cell
       have hfree := bo3.frozen
       obtain ⟨A3, c3, rfl, _, _, _⟩ := ho3.slice
       rw [List.length_append, List.length_singleton] at ho3)
    | fail)
  go_end0
  refine ⟨⟨_, rfl⟩, .slice A3 (out.length + 1) c3, ⟨bo3.set _, ?_, bl3.other (by omega) _, ?_⟩, ?_⟩
  · exact World.ownsRow.kept ho3 (grownBy_setCell w3 (n + 1) 0 _) (.inr (bo3.not_row (by decide) ho3).symm)
  · have hw : n ≤ w.heap.size := by omega
    have h1 : Below n w w3 := hb3 n w (by omega) (Below.mono E2 hw)
    have h2 : Below n w (w3.setCell ⟨n + 1, 0, none⟩ (.slice A3 (out.length + 1) c3)) := h1.setCell (p := ⟨n + 1, 0, none⟩) (by simp) _
    exact H.out.rd.kept fun b hb => h2.block b hb
  · intro b0 w0 hb0 hbw
    have h1 : Below b0 w0 w3 := hb3 b0 w0 (by omega) (hbw.trans (Below.mono E2 (by omega)))
    exact h1.setCell (p := ⟨n + 1, 0, none⟩) (by show b0 ≤ n + 1; omega) _
end Go.Proofs.YtcjeclddpkinkaaDoor
