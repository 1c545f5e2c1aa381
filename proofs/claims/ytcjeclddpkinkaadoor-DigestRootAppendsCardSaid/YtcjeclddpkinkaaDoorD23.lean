/- digest.inputs: the step of its descent, and what it answers when the lengths differ. -/
import Derived.Test.YtcjeclddpkinkaaDoorD22
set_option linter.unusedSimpArgs false
set_option linter.unusedVariables false
namespace Go.Proofs.YtcjeclddpkinkaaDoor
open Go.RowKit
open Wz (Dg)

structure DiI (w : World) (n : Nat) (v : Value) (out : List Bool) : Prop where
  bo : Boxed w (n + 1) 156 v
  own : OwnZ w (n + 2) v out

set_option maxRecDepth 100000 in
set_option maxHeartbeats 600000 in
theorem dir1_calls (x y z u : Int) (b : Bool) (hb : decide (z < x) = b) (n : Nat) (v : Value) (out : List Bool) (w : World) (h : DiI w n v out) (hout : out.length ≤ 1000000) :
    Calls Tryd.prog 136 #[.int .i64 x, .int .i64 y, .int .i64 z, .int .i64 u, .pointer (some ⟨n + 1, 0, none⟩)] w (fun e w' => (∃ v, e = .returned v) ∧ ∃ v', DiI w' n v' (out ++ [b]) ∧ ∀ b0 w0, b0 ≤ n + 1 → Below b0 w0 w → Below b0 w0 w') := by
  have hBw : n + 2 ≤ w.heap.size := h.bo.lt
  have H := Lib.hid h
  obtain ⟨A0, c0, rfl, _, _, _⟩ := h.own.slice
  have hcell0 := h.bo.cell
  have HO := Lib.hid (h.own.alloc (.cells #[.bool b] 4))
  have HN := Lib.hid (Blk.new w [.bool b] 4).rd
  have hB2 : n + 2 ≤ (w.alloc (.cells #[.bool b] 4)).heap.size := by rw [World.size_alloc]; omega
  clear h
  go_enter Tryd.func136, Tryd.ntmps136
  go_wp2_with (first
    | ((with_reducible show wpList _ _ _ (⟨some 13, _, _, _, _, _⟩ :: _) _ _); go_must (refine wpList_value rfl (exec_build rfl rfl (run_buildZ b w)) ?_))
    | ((with_reducible show wpList _ _ _ (⟨some 14, _, _, _, _, _⟩ :: _) _ _)
       go_must (refine wpList_appZ _ rfl (.tmp 9) (.tmp 13) rfl (n + 2) _ out rfl HO.out _ 1 1 [b] rfl rfl HN.out (by omega) hB2 ?_)
       intro v' w3 ho3 hg3 hb3
       have bo3 := (H.out.bo.alloc (.cells #[.bool b] 4)).kept hg3 ((H.out.bo.alloc (.cells #[.bool b] 4)).not_row (by decide) HO.out)
       have hcell := bo3.cell
       have hfree := bo3.frozen
       obtain ⟨A3, c3, rfl, _, _, _⟩ := ho3.slice
       rw [List.length_append, List.length_singleton] at ho3)
    | fail)
  go_end0
  refine ⟨⟨_, rfl⟩, ⟨.slice A3 (out.length + 1) c3, bo3.set _, ?_⟩, ?_⟩
  · exact World.ownsRow.kept ho3 (grownBy_setCell w3 (n + 1) 0 _) (.inr (bo3.not_row (by decide) ho3).symm)
  · intro b0 w0 hb0 hbw
    have h1 : Below b0 w0 w3 := hb3 b0 w0 (by omega) (hbw.alloc (by omega) _)
    exact h1.setCell (p := ⟨n + 1, 0, none⟩) (by show b0 ≤ n + 1; omega) _

/-- what the descent of inputs keeps -/
def DiD (w0 : World) (n N i : Nat) (p m : Nat) (w : World) : Prop :=
  ∃ v out, DiI w n v out ∧ Below (n + 1) w0 w ∧ Mk.dirs m (i - p) ++ out.reverse = Mk.dirs N i

theorem dirs63 (N i : Nat) (hN : N ≤ 9223372036854775807) : (Mk.dirs N i).length ≤ 63 := Mk.dirs_len 63 N i (by omega)

theorem dirs_descend (N i n : Nat) (hi : i < N) (hN : N ≤ 9223372036854775807) (w0 w1 : World) (h : DiI w1 n (.slice none 0 0) []) (hb : Below (n + 1) w0 w1) :
    Calls Tryd.prog 92 #[.int .i64 (N : Int), .int .i64 (i : Int), .func (.func 136) #[] #[.pointer (some ⟨n + 1, 0, none⟩)]] w1 (fun e w' => (∃ v, e = .returned v) ∧ ∃ v out, DiI w' n v out ∧ Below (n + 1) w0 w' ∧ out.reverse = Mk.dirs N i) := by
  refine (descend_calls 136 _ (enters_of Tryd.func136 (by kernel_rfl) rfl) N i hi hN (DiD w0 n N i) ?_ ?_ w1 ?_).mono ?_
  · rintro p m w2 ⟨v, out, hP, hb, he⟩ hpi hin hpn hm hk
    have hlt := Mk.sp_lt hm
    have hps := Mk.sp_pos m
    have hl := congrArg List.length he
    rw [List.length_append, List.length_reverse] at hl
    have h63 := dirs63 N i hN
    refine (dir1_calls _ _ _ _ false (by rw [decide_eq_false_iff_not]; omega) n v out w2 hP (by omega)).mono ?_
    rintro e w3 ⟨hv, v', hP', hb'⟩
    refine ⟨hv, v', _, hP', hb' _ _ (Nat.le_refl _) hb, ?_⟩
    rw [List.reverse_append, ← he, Mk.dirs_left hm hk, List.append_assoc]
    rfl
  · rintro p m w2 ⟨v, out, hP, hb, he⟩ hpi hin hpn hm hk
    have hlt := Mk.sp_lt hm
    have hps := Mk.sp_pos m
    have hl := congrArg List.length he
    rw [List.length_append, List.length_reverse] at hl
    have h63 := dirs63 N i hN
    refine (dir1_calls _ _ _ _ true (by rw [decide_eq_true_iff]; omega) n v out w2 hP (by omega)).mono ?_
    rintro e w3 ⟨hv, v', hP', hb'⟩
    refine ⟨hv, v', _, hP', hb' _ _ (Nat.le_refl _) hb, ?_⟩
    rw [List.reverse_append, ← he, Mk.dirs_right hm hk, List.append_assoc, Nat.sub_sub]
    rfl
  · exact ⟨_, [], h, hb, by rw [Nat.sub_zero]; simp⟩
  · rintro e w' ⟨hv, p, ⟨v, out, hP, hb, he⟩, rfl⟩
    rw [Mk.dirs_one (by omega)] at he
    exact ⟨hv, v, out, hP, hb, he⟩

set_option maxRecDepth 100000 in
set_option maxHeartbeats 400000 in
theorem inputs_bad (n i : Int) (d : Dg) (A : Option Addr) (N c : Nat) (w : World) (hi : i < 0 ∨ n ≤ i) :
    Calls Tryd.prog 102 #[.int .i64 n, .int .i64 i, dgV d, .slice A N c] w (fun e w' => e = .returned (.slice none 0 0) ∧ Ext w w') := by
  by_cases h0 : i < 0
  · have hd : decide (i < 0) = true := decide_eq_true h0
    clear hi h0
    go_enter Tryd.func102, Tryd.ntmps102
    go_wp2_with ((with_reducible show wpList _ _ _ (⟨some 6, _, _, _, _, _⟩ :: _) _ _); go_must (refine wpList_boxAgg 45 _ rfl (.tmp 2) rfl _ rfl ?_))
    go_ret
    exact ⟨rfl, (Ext.refl w).alloc _⟩
  · have hd : decide (i < 0) = false := decide_eq_false h0
    have hd2 : decide (i ≥ n) = true := decide_eq_true (by omega)
    have hd3 : decide (n ≤ i) = true := decide_eq_true (by omega)
    clear hi h0
    go_enter Tryd.func102, Tryd.ntmps102
    go_wp2_with ((with_reducible show wpList _ _ _ (⟨some 6, _, _, _, _, _⟩ :: _) _ _); go_must (refine wpList_boxAgg 45 _ rfl (.tmp 2) rfl _ rfl ?_))
    go_ret
    exact ⟨rfl, (Ext.refl w).alloc _⟩

/-- what inputs has laid before its descent -/
structure In0 (w w1 : World) (B : Nat) (d : Dg) : Prop where
  size : w.heap.size = B
  di : DiI w1 B (.slice none 0 0) []
  blk : Blk w1 B 45 (u8s d.1)
  ext : Ext w w1
theorem In0.mk' (w : World) (d : Dg) (B : Nat) (hB : w.heap.size = B) : In0 w ((w.alloc (Obj.cells (u8s d.1).toArray 45)).alloc (Obj.cells #[.slice none 0 0] 156)) B d := by
  subst hB
  have h2 := Boxed.new (w.alloc (Obj.cells (u8s d.1).toArray 45)) 156 (.slice none 0 0)
  rw [World.size_alloc] at h2
  exact ⟨rfl, ⟨h2, OwnZ.nil _ _⟩, (Blk.new w _ 45).alloc _, ((Ext.refl w).alloc _).alloc _⟩
theorem below_ext {a b c : World} {B : Nat} (h : Ext a b) (hB : a.heap.size ≤ B) (k : Below B b c) : Ext a c := Below.trans (show Below a.heap.size a b from h) (Below.mono k hB)

set_option maxRecDepth 100000 in
set_option maxHeartbeats 600000 in
theorem inputs_no (n i : Nat) (d : Dg) (A : Option Addr) (N c : Nat) (w : World) (hi : i < n) (hn : n ≤ 9223372036854775807) (hne : (Mk.dirs n i).length ≠ N) :
    Calls Tryd.prog 102 #[.int .i64 (n : Int), .int .i64 (i : Int), dgV d, .slice A N c] w (fun e w' => e = .returned (.slice none 0 0) ∧ Ext w w') := by
  have hd : decide ((i : Int) < 0) = false := by rw [decide_eq_false_iff_not]; omega
  have hd2 : decide ((i : Int) ≥ (n : Int)) = false := by rw [decide_eq_false_iff_not]; omega
  have hd2n : decide (n ≤ i) = false := by rw [decide_eq_false_iff_not]; omega
  obtain ⟨B, hB⟩ : ∃ B, w.heap.size = B := ⟨_, rfl⟩
  have HI := Lib.hid (In0.mk' w d B hB)
  go_enter Tryd.func102, Tryd.ntmps102
  go_upto_region 4 with ((with_reducible show wpList _ _ _ (⟨some 6, _, _, _, _, _⟩ :: _) _ _); go_must (refine wpList_boxAgg 45 _ rfl (.tmp 2) rfl _ rfl ?_))
  generalize (w.alloc (Obj.cells (u8s d.1).toArray 45)).alloc (Obj.cells #[.slice none 0 0] 156) = w1 at HI ⊢
  have HD := Lib.hid (dirs_descend n i B hi hn w1 w1 HI.out.di (Below.refl _ _))
  go_upto_region 5 with ((with_reducible refine HD.out.mono ?_); rintro e w2 ⟨⟨v0, rfl⟩, v, out, hP, hb, he⟩)
  have hcell := hP.bo.cell
  obtain ⟨A2, c2, rfl, _, _, _⟩ := hP.own.slice
  have hlen : (((out.length : Nat) : Int) == ((N : Nat) : Int)) = false := by
    rw [beq_eq_false_iff_ne]
    have := congrArg List.length he
    rw [List.length_reverse] at this
    omega
  have HX := Lib.hid (below_ext HI.out.ext (by rw [HI.out.size]; omega) hb)
  clear he hb hP
  go_wp2_with fail
  go_ret
  exact ⟨rfl, HX.out⟩
end Go.Proofs.YtcjeclddpkinkaaDoor
