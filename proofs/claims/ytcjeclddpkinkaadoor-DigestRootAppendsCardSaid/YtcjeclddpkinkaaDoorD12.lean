/- The contracts of leaf and node, of both sides. -/
import Derived.Test.YtcjeclddpkinkaaDoorD11
set_option linter.unusedSimpArgs false
set_option linter.unusedVariables false
namespace Go.Proofs.YtcjeclddpkinkaaDoor
open Go.RowKit
open Wz (Dg)

theorem inpI_leaf (d : Dg) : inpI 1 [d.1] = Mk.leafIn d := rfl
theorem inpI_node (a b : Dg) : inpI 2 [a.1, b.1] = Mk.nodeIn a b := rfl
theorem dg_small (d : Dg) : d.1.length ≤ 1000000 := by rw [d.2]; omega
/-- string(b) as the model runs it -/
theorem run_str8 {w : World} {A : Option Addr} {n c : Nat} {l : List UInt8} (hr : Rd w A (u8s l)) (hn : l.length = n) (h0 : 0 < n) : (convert 34 9 (.slice A n c)).run Tryd.prog w = .ok (.string (str l)) w := by
  obtain ⟨b, o', rfl, hc⟩ := hr (by rw [u8s_length]; omega)
  have := run_convert_bytes_arg (P := Tryd.prog) w 34 5 Tryd.underlying34 Tryd.underlying5 b o' n c (l.map fun c => (c.toNat : Int)) (by simpa using hn) (fun i hi => by
    rw [hc i _ (u8s_at (by omega))]
    simp [show i < l.length from by omega]) 9 Tryd.underlying9
  rw [this, strOfNums_u8]

set_option maxRecDepth 100000 in
/-- digest.leaf -/
theorem leaf_calls (d : Dg) (w : World) : Calls Tryd.prog 98 #[dgV d] w (RetB w (Mk.leafIn d)) := by
  have HI : Hid (∀ A c w, Rd w A (strs [d.1]) → Calls Tryd.prog 89 #[.int .i64 1, .slice A 1 c] w (RetB w (Mk.leafIn d))) := Lib.hid fun A c w hr => by
    have := input_calls 1 A 1 c [d.1] w hr rfl (by decide) (fun p hp => by simp at hp; rw [hp]; exact dg_small d)
    rwa [inpI_leaf] at this
  obtain ⟨R, hR⟩ : ∃ R, Mk.leafIn d = R := ⟨_, rfl⟩
  rw [hR] at HI ⊢
  have hl := d.2
  obtain ⟨l, hdl⟩ : ∃ l, d.1 = l := ⟨_, rfl⟩
  rw [hdl] at hl HI
  have e : dgV d = .agg (u8s l).toArray := by rw [← hdl]
  rw [e]
  have HL := Lib.hid hl
  clear hl hdl e hR
  go_enter Tryd.func98, Tryd.ntmps98
  go_upto_region 1 with ((with_reducible show wpList _ _ _ (⟨some 1, _, _, _, _, _⟩ :: _) _ _); go_must (refine wpList_boxAgg 45 _ rfl (.tmp 0) rfl _ rfl ?_))
  have HB : Hid (Blk (w.alloc (Obj.cells (u8s l).toArray 45)) w.heap.size 45 (u8s l) ∧ Ext w (w.alloc (Obj.cells (u8s l).toArray 45))) := Lib.hid ⟨Blk.new _ _ _, (Ext.refl w).alloc _⟩
  have hz : (w.alloc (Obj.cells (u8s l).toArray 45)).heap.size = w.heap.size + 1 := by simp
  generalize w.alloc (Obj.cells (u8s l).toArray 45) = w1 at HB hz ⊢
  have HZ := Lib.hid hz
  clear hz
  go_wp2_with (first
    | ((with_reducible show wpList _ _ _ (⟨some 4, _, _, _, _, _⟩ :: _) _ _); go_must (refine wpList_str8 _ rfl (.tmp 3) rfl (some ⟨w.heap.size, 0, none⟩) 16 16 l rfl HB.out.1.rd HL.out ?_))
    | ((with_reducible refine (HI.out _ _ _ ?_).mono ?_))
    | fail)
  · exact (Blk.new w1 [.string (str l)] 9).rd
  rintro e w3 ⟨v, rfl, ho, hb⟩
  go_wp2_with fail
  go_ret
  have E2 : Ext w (w1.alloc (.cells #[.string (str l)] 9)) := HB.out.2.alloc _
  exact ⟨_, rfl, ho.rebase (E2.size), below_then E2 E2.size hb⟩

set_option maxRecDepth 100000 in
set_option maxHeartbeats 400000 in
/-- digest.node -/
theorem node_calls (a b : Dg) (w : World) : Calls Tryd.prog 99 #[dgV a, dgV b] w (RetB w (Mk.nodeIn a b)) := by
  have HI : Hid (∀ A c w, Rd w A (strs [a.1, b.1]) → Calls Tryd.prog 89 #[.int .i64 2, .slice A 2 c] w (RetB w (Mk.nodeIn a b))) := Lib.hid fun A c w hr => by
    have := input_calls 2 A 2 c [a.1, b.1] w hr rfl (by decide) (fun p hp => by simp at hp; rcases hp with rfl | rfl <;> exact dg_small _)
    rwa [inpI_node] at this
  obtain ⟨R, hR⟩ : ∃ R, Mk.nodeIn a b = R := ⟨_, rfl⟩
  rw [hR] at HI ⊢
  have hl := a.2
  have hm := b.2
  obtain ⟨l, hdl⟩ : ∃ l, a.1 = l := ⟨_, rfl⟩
  obtain ⟨m, hdm⟩ : ∃ l, b.1 = l := ⟨_, rfl⟩
  rw [hdl] at hl HI
  rw [hdm] at hm HI
  have e : dgV a = .agg (u8s l).toArray := by rw [← hdl]
  have e' : dgV b = .agg (u8s m).toArray := by rw [← hdm]
  rw [e, e']
  have HL := Lib.hid hl
  have HM := Lib.hid hm
  clear hl hdl e hR hm hdm e'
  go_enter Tryd.func99, Tryd.ntmps99
  go_upto_region 1 with (first
    | ((with_reducible show wpList _ _ _ (⟨some 2, _, _, _, _, _⟩ :: _) _ _); go_must (refine wpList_boxAgg 45 _ rfl (.tmp 0) rfl _ rfl ?_))
    | ((with_reducible show wpList _ _ _ (⟨some 3, _, _, _, _, _⟩ :: _) _ _); go_must (refine wpList_boxAgg 45 _ rfl (.tmp 1) rfl _ rfl ?_)))
  have HB : Hid (Blk ((w.alloc (Obj.cells (u8s l).toArray 45)).alloc (Obj.cells (u8s m).toArray 45)) w.heap.size 45 (u8s l) ∧ Blk ((w.alloc (Obj.cells (u8s l).toArray 45)).alloc (Obj.cells (u8s m).toArray 45)) (w.heap.size + 1) 45 (u8s m) ∧ Ext w ((w.alloc (Obj.cells (u8s l).toArray 45)).alloc (Obj.cells (u8s m).toArray 45))) :=
    Lib.hid ⟨(Blk.new _ _ _).alloc _, by have := Blk.new (w.alloc (Obj.cells (u8s l).toArray 45)) (u8s m) 45; rw [World.size_alloc] at this; exact this, ((Ext.refl w).alloc _).alloc _⟩
  generalize (w.alloc (Obj.cells (u8s l).toArray 45)).alloc (Obj.cells (u8s m).toArray 45) = w1 at HB ⊢
  refine wp_region_quiet_tail (fun w' => Ext w1 w') 4 (by kernel_rfl) (by kernel_rfl) (Ext.refl w1).drew ?_
  simp only [List.take_succ_cons, List.take_zero, List.drop_succ_cons, List.drop_zero]
  refine wpQuiet_one rfl (quiet_val (v := .slice (some ⟨w.heap.size, 0, none⟩) 16 16) (fun w' _ => by go_simp) ?_)
  refine wpQuiet_one rfl (quiet_val (v := .string (str l)) (fun w' hw' => ?_) ?_)
  · have hc := run_str8 (c := 16) (HB.out.1.below hw').rd HL.out (by decide)
    go_simp
  refine wpQuiet_one rfl (quiet_val (v := .slice (some ⟨w.heap.size + 1, 0, none⟩) 16 16) (fun w' _ => by go_simp) ?_)
  refine wpQuiet_one rfl (quiet_val (v := .string (str m)) (fun w' hw' => ?_) ?_)
  · have hc := run_str8 (c := 16) (HB.out.2.1.below hw').rd HM.out (by decide)
    go_simp
  refine wpQuiet_nil ?_
  intro w2 E2
  go_wp2_with (first
    | ((with_reducible refine (HI.out _ _ _ ?_).mono ?_))
    | fail)
  · exact (Blk.new w2 [.string (str l), .string (str m)] 9).rd
  rintro e w3 ⟨v, rfl, ho, hb⟩
  go_wp2_with fail
  go_ret
  have E3 : Ext w (w2.alloc (.cells #[.string (str l), .string (str m)] 9)) := (HB.out.2.2.trans E2).alloc _
  exact ⟨_, rfl, ho.rebase (E3.size), below_then E3 E3.size hb⟩

set_option maxRecDepth 100000 in
set_option maxHeartbeats 400000 in
/-- the reference's leaf -/
theorem refleaf_calls (d : Dg) (w : World) (hG : GloR w) : Calls Tryd.prog 100 #[dgV d] w (RetDg w (shF (Mk.leafIn d))) := by
  have HI : Hid (∀ A c w, Rd w A (strs [d.1]) → GloR w → Calls Tryd.prog 27 #[.int .i64 1, .slice A 1 c] w (RetDg w (shF (Mk.leafIn d)))) := Lib.hid fun A c w hr hG => by
    have := refof_calls 1 A 1 c [d.1] w hr rfl (by decide) (fun p hp => by simp at hp; rw [hp]; exact dg_small d) hG
    unfold ofF at this
    rwa [inpI_leaf] at this
  obtain ⟨R, hR⟩ : ∃ R, shF (Mk.leafIn d) = R := ⟨_, rfl⟩
  rw [hR] at HI ⊢
  have HT := Lib.hid fun w => text_calls d w
  have HGG := Lib.hid hG
  clear hR hG
  go_enter Tryd.func100, Tryd.ntmps100
  go_upto_region 1 with ((with_reducible show wpList _ _ _ (⟨some 1, _, _, _, _, _⟩ :: _) _ _); go_must (refine wpList_boxAgg 45 _ rfl (.tmp 0) rfl (u8s d.1) rfl ?_))
  generalize hw1 : (w.alloc _).alloc _ = w1
  have HB : Hid (Blk w1 w.heap.size 45 (u8s d.1) ∧ Blk w1 (w.heap.size + 1) 45 (u8s (List.replicate 16 0)) ∧ Ext w w1) := Lib.hid (by
    rw [← hw1]
    refine ⟨(Blk.new w (u8s d.1) 45).alloc _, ?_, ((Ext.refl w).alloc _).alloc _⟩
    have := Blk.new (w.alloc (Obj.cells (u8s d.1).toArray 45)) (u8s (List.replicate 16 0)) 45
    rw [World.size_alloc] at this
    exact this)
  clear hw1
  go_wp2_with (first
    | ((with_reducible show wpList _ _ _ (⟨some 3, _, _, _, _, _⟩ :: _) _ _); go_must (refine wpList_loadAgg agg_dg w1 rfl (.tmp 1) rfl w.heap.size 0 rfl (u8s d.1) (dg_len d) HB.out.1.agg ?_))
    | ((with_reducible refine (HT.out _).mono ?_); rintro e w2 ⟨rfl, E2⟩)
    | ((with_reducible refine (HI.out _ _ _ ?_ ?_).mono ?_))
    | fail)
  · exact (Blk.new w2 [.string (str d.1)] 9).rd
  · exact HGG.out.ext ((HB.out.2.2.trans E2).alloc _)
  rintro e w3 ⟨rfl, E3⟩
  have E3' : Ext w2 w3 := ((Ext.refl w2).alloc _).trans E3
  go_wp2_with (first
    | ((with_reducible show wpList _ _ _ (⟨Option.none, .store _ (.tmp 2) _, _, _, _, _⟩ :: _) _ _); go_must (refine wpList_storeBlk agg_dg _ (w.heap.size + 1) 45 _ ((HB.out.2.1.below E2).below E3') rfl (.tmp 2) (.tmp 6) rfl rfl (u8s R.1) rfl (dg_len R) rfl (u8s_one _) ?_); intro w4 hB4 hg4)
    | fail)
  refine bodyPost_ret (results_cell rfl agg_dg _ w4 (w.heap.size + 1) rfl (u8s R.1) (dg_len R) 45 hB4) rfl ?_
  have E5 := (HB.out.2.2.trans E2).trans E3'
  exact ⟨rfl, Below.grown E5 hg4 E5.size (fun k hk => by have := Option.some.inj hk; omega)⟩

set_option maxRecDepth 100000 in
set_option maxHeartbeats 400000 in
/-- the reference's node -/
theorem refnode_calls (a b : Dg) (w : World) (hG : GloR w) : Calls Tryd.prog 101 #[dgV a, dgV b] w (RetDg w (Mk.nd shF a b)) := by
  have HI : Hid (∀ A c w, Rd w A (strs [a.1, b.1]) → GloR w → Calls Tryd.prog 27 #[.int .i64 2, .slice A 2 c] w (RetDg w (Mk.nd shF a b))) := Lib.hid fun A c w hr hG => by
    have := refof_calls 2 A 2 c [a.1, b.1] w hr rfl (by decide) (fun p hp => by simp at hp; rcases hp with rfl | rfl <;> exact dg_small _) hG
    unfold ofF at this
    rwa [inpI_node] at this
  obtain ⟨R, hR⟩ : ∃ R, Mk.nd shF a b = R := ⟨_, rfl⟩
  rw [hR] at HI ⊢
  have HT := Lib.hid fun w => text_calls a w
  have HU := Lib.hid fun w => text_calls b w
  have HGG := Lib.hid hG
  clear hR hG
  go_enter Tryd.func101, Tryd.ntmps101
  go_upto_region 1 with (first
    | ((with_reducible show wpList _ _ _ (⟨some 2, _, _, _, _, _⟩ :: _) _ _); go_must (refine wpList_boxAgg 45 _ rfl (.tmp 0) rfl (u8s a.1) rfl ?_))
    | ((with_reducible show wpList _ _ _ (⟨some 3, _, _, _, _, _⟩ :: _) _ _); go_must (refine wpList_boxAgg 45 _ rfl (.tmp 1) rfl (u8s b.1) rfl ?_)))
  generalize hw1 : ((w.alloc _).alloc _).alloc _ = w1
  have HB : Hid (Blk w1 w.heap.size 45 (u8s a.1) ∧ Blk w1 (w.heap.size + 1) 45 (u8s b.1) ∧ Blk w1 (w.heap.size + 1 + 1) 45 (u8s (List.replicate 16 0)) ∧ Ext w w1) := Lib.hid (by
    rw [← hw1]
    refine ⟨((Blk.new w (u8s a.1) 45).alloc _).alloc _, ?_, ?_, (((Ext.refl w).alloc _).alloc _).alloc _⟩
    · have := Blk.new (w.alloc (Obj.cells (u8s a.1).toArray 45)) (u8s b.1) 45
      rw [World.size_alloc] at this
      exact this.alloc _
    · have := Blk.new ((w.alloc (Obj.cells (u8s a.1).toArray 45)).alloc (Obj.cells (u8s b.1).toArray 45)) (u8s (List.replicate 16 0)) 45
      rw [World.size_alloc, World.size_alloc] at this
      exact this)
  clear hw1
  refine wp_region_quiet_tail (fun w' => Ext w1 w') 4 (by kernel_rfl) (by kernel_rfl) (Ext.refl w1).drew ?_
  simp only [List.take_succ_cons, List.take_zero, List.drop_succ_cons, List.drop_zero]
  refine wpQuiet_one rfl (quiet_load agg_dg (.tmp 2) rfl w.heap.size 0 rfl (u8s a.1) (dg_len a) (fun w' E => (HB.out.1.below E).agg) ?_)
  refine wpQuiet_one rfl (quiet_call (f := 104) (args := #[dgV a]) (v := .string (str a.1)) (fun w' _ => by go_simp) (fun w' E => (HT.out w').mono fun e w'' h => ⟨h.1, E.trans h.2⟩) ?_)
  refine wpQuiet_one rfl (quiet_load agg_dg (.tmp 3) rfl (w.heap.size + 1) 0 rfl (u8s b.1) (dg_len b) (fun w' E => (HB.out.2.1.below E).agg) ?_)
  refine wpQuiet_one rfl (quiet_call (f := 104) (args := #[dgV b]) (v := .string (str b.1)) (fun w' _ => by go_simp) (fun w' E => (HU.out w').mono fun e w'' h => ⟨h.1, E.trans h.2⟩) ?_)
  refine wpQuiet_nil ?_
  intro w2 E2
  go_wp2_with (first
    | ((with_reducible refine (HI.out _ _ _ ?_ ?_).mono ?_))
    | fail)
  · exact (Blk.new w2 [.string (str a.1), .string (str b.1)] 9).rd
  · exact HGG.out.ext ((HB.out.2.2.2.trans E2).alloc _)
  rintro e w3 ⟨rfl, E3⟩
  have E3' : Ext w2 w3 := ((Ext.refl w2).alloc _).trans E3
  go_wp2_with (first
    | ((with_reducible show wpList _ _ _ (⟨Option.none, .store _ (.tmp 4) _, _, _, _, _⟩ :: _) _ _); go_must (refine wpList_storeBlk agg_dg _ (w.heap.size + 1 + 1) 45 _ ((HB.out.2.2.1.below E2).below E3') rfl (.tmp 4) (.tmp 10) rfl rfl (u8s R.1) rfl (dg_len R) rfl (u8s_one _) ?_); intro w4 hB4 hg4)
    | fail)
  refine bodyPost_ret (results_cell rfl agg_dg _ w4 (w.heap.size + 1 + 1) rfl (u8s R.1) (dg_len R) 45 hB4) rfl ?_
  have E5 := (HB.out.2.2.2.trans E2).trans E3'
  exact ⟨rfl, Below.grown E5 hg4 E5.size (fun k hk => by have := Option.some.inj hk; omega)⟩
end Go.Proofs.YtcjeclddpkinkaaDoor
