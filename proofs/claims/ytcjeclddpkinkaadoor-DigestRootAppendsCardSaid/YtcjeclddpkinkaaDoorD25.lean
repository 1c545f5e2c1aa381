/- Digests are compared; digest.Verify. -/
import Derived.Test.YtcjeclddpkinkaaDoorD24
import Derived.Stop.BytesEq
import Derived.Laws.Cover3
import Derived.Lib.SliceRun
set_option linter.unusedSimpArgs false
set_option linter.unusedVariables false
namespace Go.Proofs.YtcjeclddpkinkaaDoor
open Go.RowKit
open Wz (Dg)

theorem und_dg : Tryd.prog.underlying 45 = some (.array 16 5) := by kernel_rfl
theorem size_u8 (w : World) : (sizeOf 5).run Tryd.prog w = .ok 1 w := by
  obtain ⟨i0, hi, hz0, hz1, hz2⟩ := info_parts info_u8
  simp [sizeOf, typeInfo, hi, hz1]
theorem dg_ext {a b : Dg} : (a.1 == b.1) = decide (a = b) := by
  rw [Bool.eq_iff_iff, beq_iff_eq, decide_eq_true_iff]
  exact ⟨fun h => Subtype.ext h, fun h => by rw [h]⟩
theorem run_eqlD (a b : Dg) (w : World) : (binOp .eql 45 (dgV a) (dgV b)).run Tryd.prog w = .ok (.bool (decide (a = b))) w := by
  rw [← dg_ext]
  exact run_eql_bytes w 45 5 16 und_dg Tryd.underlying5 size_u8 a.1 b.1 a.2 b.2
theorem run_neqD (a b : Dg) (w : World) : (binOp .neq 45 (dgV a) (dgV b)).run Tryd.prog w = .ok (.bool (!decide (a = b))) w := by
  rw [← dg_ext]
  have := run_equalIn_bytes w 9998 45 5 16 und_dg Tryd.underlying5 size_u8 a.1 b.1 a.2 b.2
  rw [run_neq_struct]
  erw [this]
  rfl
theorem guardD (op : BinOp) (x y : Operand) (p q : Dg) (w : World) : (eqGuard op 45 x y (dgV p) (dgV q)).run Tryd.prog w = .ok () w := run_eqGuard_agg w op 45 x y _ _ (by kernel_rfl)
theorem run_nilS (A : Option Addr) (n c : Nat) (w : World) : (binOp .neq 76 (.slice A n c) (.slice none 0 0)).run Tryd.prog w = .ok (.bool (!A.isNone)) w := run_neq_slice_nil w 76 34 A n c und_bsl
theorem run_nilS' (A : Option Addr) (n c : Nat) (w : World) : (binOp .eql 76 (.slice A n c) (.slice none 0 0)).run Tryd.prog w = .ok (.bool A.isNone) w := Go.Lib.run_eql_slice_nil w 76 34 A n c 0 0 und_bsl
theorem exec_eqlD {o : Oper} {a : Act} {x y : Operand} {p q : Dg} (ho : o.op = .binOp .eql 45 x y 45) (hx : a.eval x = dgV p) (hy : a.eval y = dgV q) (w : World) : (execOp a.eval o).run Tryd.prog w = .ok (.value (.bool (decide (p = q)))) w := by
  have h1 := run_eqlD p q w
  unfold execOp
  rw [ho]
  simp only [Sem.run_bind, Sem.run_pure, hx, hy, h1, guardD, Result.andThen]
theorem exec_neqD {o : Oper} {a : Act} {x y : Operand} {p q : Dg} (ho : o.op = .binOp .neq 45 x y 45) (hx : a.eval x = dgV p) (hy : a.eval y = dgV q) (w : World) : (execOp a.eval o).run Tryd.prog w = .ok (.value (.bool (!decide (p = q)))) w := by
  have h1 := run_neqD p q w
  unfold execOp
  rw [ho]
  simp only [Sem.run_bind, Sem.run_pure, hx, hy, h1, guardD, Result.andThen]

section
variable {P : Program} {ops : Array Oper} {C : World → Prop}
theorem wpQuiet_if {Q : Act → Prop} {a : Act} {o : Oper} {rest : List Oper} (hw : Region.wanted o (yielded ops a.tmps) = true) (h : o.quiet P a C (wpQuiet P ops C Q rest)) : wpQuiet P ops C Q (o :: rest) a := by
  unfold wpQuiet
  rw [if_pos hw]
  exact h
theorem wpQuiet_off {Q : Act → Prop} {a : Act} {o : Oper} {rest : List Oper} (hw : Region.wanted o (yielded ops a.tmps) = false) (h : wpQuiet P ops C Q rest (a.put o.dst undef)) : wpQuiet P ops C Q (o :: rest) a := by
  unfold wpQuiet
  rw [if_neg (by rw [hw]; decide)]
  exact h
end

/-- the inputs of a proof, for whatever numbers -/
def inZ (n i : Int) (d : Dg) (L : List Dg) : Option (List (List UInt8)) := if i < 0 ∨ n ≤ i then none else Mk.inputsF shF n.toNat i.toNat d L
def verZ (root : Dg) (n i : Int) (d : Dg) (L : List Dg) : Bool := match inZ n i d L with
  | none => false
  | some o => decide (shF (o.getLastD []) = root)
theorem inZ_nat {n i : Nat} (h : i < n) (d : Dg) (L : List Dg) : inZ (n : Int) (i : Int) d L = Mk.inputsF shF n i d L := by
  unfold inZ
  rw [if_neg (by omega)]
  rfl
theorem inputs_calls (n i : Int) (hn : n ≤ 9223372036854775807) (d : Dg) (A : Option Addr) (N c : Nat) (L : List Dg) (w : World) (hr : Rd w A (dgs L)) (hL : L.length = N) (hc : N ≤ c) (hN : N ≤ 1000) (hG : Glo w) :
    Calls Tryd.prog 102 #[.int .i64 n, .int .i64 i, dgV d, .slice A N c] w (fun e w' => ∃ v, e = .returned v ∧ Ext w w' ∧ ((inZ n i d L = none ∧ v = .slice none 0 0) ∨ ∃ xs, inZ n i d L = some xs ∧ xs.length = N + 1 ∧ (∀ x ∈ xs, x.length ≤ 3000000) ∧ Ins w' w.heap.size v xs)) := by
  by_cases h : i < 0 ∨ n ≤ i
  · refine (inputs_bad n i d A N c w h).mono ?_
    rintro e w' ⟨rfl, E⟩
    exact ⟨_, rfl, E, .inl ⟨if_pos h, rfl⟩⟩
  · obtain ⟨n', rfl⟩ : ∃ n' : Nat, n = (n' : Int) := ⟨n.toNat, by omega⟩
    obtain ⟨i', rfl⟩ : ∃ n' : Nat, i = (n' : Int) := ⟨i.toNat, by omega⟩
    rw [inZ_nat (by omega)]
    by_cases he : (Mk.dirs n' i').length = N
    · refine (inputs_yes n' i' d A N c L w hr hL hc hN (by omega) (by omega) he hG).mono ?_
      rintro e w' ⟨v, rfl, hI, E⟩
      refine ⟨v, rfl, E, .inr ⟨_, ?_, ?_, ins_small _ _ _, hI⟩⟩
      · unfold Mk.inputsF
        rw [if_neg (by omega), if_pos (by rw [he, hL])]
      · rw [Mk.ins_len, List.length_zip, he, hL, Nat.min_self]
    · refine (inputs_no n' i' d A N c w (by omega) (by omega) he).mono ?_
      rintro e w' ⟨rfl, E⟩
      refine ⟨_, rfl, E, .inl ⟨?_, rfl⟩⟩
      unfold Mk.inputsF
      rw [if_neg (by omega), if_neg (by rw [hL]; exact he)]

attribute [local irreducible] wpQuiet
set_option maxRecDepth 100000 in
set_option maxHeartbeats 600000 in
/-- digest.Verify -/
theorem verify_calls (root : Dg) (n i : Int) (hn : n ≤ 9223372036854775807) (d : Dg) (A : Option Addr) (N c : Nat) (L : List Dg) (w : World) (hr : Rd w A (dgs L)) (hL : L.length = N) (hc : N ≤ c) (hN : N ≤ 1000) (hG : Glo w) :
    Calls Tryd.prog 45 #[dgV root, .int .i64 n, .int .i64 i, dgV d, .slice A N c] w (fun e w' => e = .returned (.bool (verZ root n i d L)) ∧ Ext w w') := by
  have HIN := Lib.hid fun w' (E : Ext w w') => inputs_calls n i hn d A N c L w' (hr.ext E) hL hc hN (hG.ext E)
  have HG := Lib.hid hG
  have HV : Hid (verZ root n i d L = match inZ n i d L with
    | none => false
    | some o => decide (shF (o.getLastD []) = root)) := Lib.hid rfl
  obtain ⟨Z, hZ⟩ : ∃ Z, inZ n i d L = Z := ⟨_, rfl⟩
  rw [hZ] at HV
  simp only [hZ] at HIN
  obtain ⟨r, hr'⟩ : ∃ r, verZ root n i d L = r := ⟨_, rfl⟩
  rw [hr'] at HV ⊢
  clear hr hL hG hr' hZ
  go_enter Tryd.func45, Tryd.ntmps45
  go_upto_region 1 with (first
    | ((with_reducible show wpList _ _ _ (⟨some 5, _, _, _, _, _⟩ :: _) _ _); go_must (refine wpList_boxAgg 45 _ rfl (.tmp 0) rfl _ rfl ?_))
    | ((with_reducible show wpList _ _ _ (⟨some 8, _, _, _, _, _⟩ :: _) _ _); go_must (refine wpList_boxAgg 45 _ rfl (.tmp 3) rfl _ rfl ?_)))
  have HB : Hid (Blk ((w.alloc (Obj.cells (u8s root.1).toArray 45)).alloc (Obj.cells (u8s d.1).toArray 45)) w.heap.size 45 (u8s root.1) ∧ Blk ((w.alloc (Obj.cells (u8s root.1).toArray 45)).alloc (Obj.cells (u8s d.1).toArray 45)) (w.heap.size + 1) 45 (u8s d.1) ∧ Ext w ((w.alloc (Obj.cells (u8s root.1).toArray 45)).alloc (Obj.cells (u8s d.1).toArray 45))) := by
    refine Lib.hid ⟨(Blk.new w _ 45).alloc _, ?_, ((Ext.refl w).alloc _).alloc _⟩
    have := Blk.new (w.alloc (Obj.cells (u8s root.1).toArray 45)) (u8s d.1) 45
    rwa [World.size_alloc] at this
  generalize (w.alloc (Obj.cells (u8s root.1).toArray 45)).alloc (Obj.cells (u8s d.1).toArray 45) = w1 at HB ⊢
  go_upto_region 2 with (first
    | ((with_reducible show wpList _ _ _ (⟨some 14, _, _, _, _, _⟩ :: _) _ _); go_must (refine wpList_loadAgg agg_dg w1 rfl (.tmp 8) rfl _ 0 rfl (u8s d.1) (dg_len d) HB.out.2.1.at0 ?_))
    | ((with_reducible refine (HIN.out w1 HB.out.2.2).mono ?_); rintro e w2 ⟨v, rfl, E2, hv⟩))
  have E12 := HB.out.2.2.trans E2
  rcases hv with ⟨rfl, rfl⟩ | ⟨xs, rfl, hxl, hsm, hins⟩
  · refine wp_region_quiet_tail (fun w' => Ext w2 w') 12 (by kernel_rfl) (by kernel_rfl) (Ext.refl w2).drew ?_
    simp only [List.take_succ_cons, List.take_zero, List.drop_succ_cons, List.drop_zero]
    refine wpQuiet_one rfl (quiet_val (v := .slice none 0 0) (fun w' _ => by go_simp) ?_)
    refine wpQuiet_one rfl (quiet_val (v := .bool false) (fun w' _ => by have hz := run_nilS none 0 0 w'; go_simp) ?_)
    refine wpQuiet_one rfl (quiet_val (v := .bool false) (fun w' _ => by go_simp) ?_)
    refine wpQuiet_off (by kernel_rfl) (wpQuiet_off (by kernel_rfl) (wpQuiet_off (by kernel_rfl) (wpQuiet_off (by kernel_rfl) (wpQuiet_off (by kernel_rfl) (wpQuiet_off (by kernel_rfl) (wpQuiet_off (by kernel_rfl) (wpQuiet_off (by kernel_rfl) (wpQuiet_off (by kernel_rfl) ?_))))))))
    refine wpQuiet_nil ?_
    intro w3 E3
    go_wp2_with fail
    go_ret
    exact ⟨by rw [HV.out]; rfl, E12.trans E3⟩
  · obtain ⟨g, cap, u, rfl, hcap, hg, hcu, hou⟩ := hins.at (i := N) (by omega)
    have hxk : xs[N]'(by omega) = xs.getLastD [] := by
      rw [List.getLastD_eq_getLast?, List.getLast?_eq_getElem?, show xs.length - 1 = N from by omega, List.getElem?_eq_getElem (by omega)]; rfl
    rw [hxk] at hou
    have hsx : (xs.getLastD []).length ≤ 3000000 := by rw [← hxk]; exact hsm _ (List.getElem_mem _)
    obtain ⟨x, hx⟩ : ∃ x, xs.getLastD [] = x := ⟨_, rfl⟩
    rw [hx] at hou hsx
    have HV2 : Hid (r = decide (shF x = root)) := Lib.hid (by rw [← hx]; exact HV.out)
    obtain ⟨A4, c4, rfl, _, _, hr4⟩ := hou.slice
    have HSC : Hid (∀ w', Ext w2 w' → Calls Tryd.prog 88 #[.slice A4 x.length c4] w' (RetDg w' (shF x))) := Lib.hid fun w' E => short_calls A4 x.length c4 x w' (hr4.ext E) rfl (by omega) (HG.out.ext (E12.trans E))
    have HC3 := Lib.hid hcu
    have hlt3 : g < w2.heap.size := lt_of_cell hcu
    have HBK := Lib.hid (HB.out.1.below E2)
    rw [hxl]
    obtain ⟨q, hq⟩ : ∃ q, shF x = q := ⟨_, rfl⟩
    rw [hq] at HSC HV2
    clear hins hxk hou hsm hr4 hcu hx hq HV
    refine wp_region_quiet_tail (fun w' => Ext w2 w') 12 (by kernel_rfl) (by kernel_rfl) (Ext.refl w2).drew ?_
    simp only [List.take_succ_cons, List.take_zero, List.drop_succ_cons, List.drop_zero]
    refine wpQuiet_one rfl (quiet_val (v := .slice (some ⟨g, 0, none⟩) (N + 1) cap) (fun w' _ => by go_simp) ?_)
    refine wpQuiet_one rfl (quiet_val (v := .bool true) (fun w' _ => by have hz := run_nilS (some ⟨g, 0, none⟩) (N + 1) cap w'; go_simp) ?_)
    refine wpQuiet_one rfl (quiet_val (v := .bool true) (fun w' _ => by go_simp) ?_)
    refine wpQuiet_if (by kernel_rfl) (quiet_val (v := .slice (some ⟨g, 0, none⟩) (N + 1) cap) (fun w' _ => by go_simp) ?_)
    refine wpQuiet_if (by kernel_rfl) (quiet_val (v := .slice (some ⟨g, 0, none⟩) (N + 1) cap) (fun w' _ => by go_simp) ?_)
    refine wpQuiet_if (by kernel_rfl) (quiet_val (v := .int .i64 ((N : Int) + 1)) (fun w' _ => by go_simp) ?_)
    refine wpQuiet_if (by kernel_rfl) (quiet_val (v := .int .i64 (N : Int)) (fun w' _ => by have hwn := IntWalk.i64_in (N : Int) (by omega); go_simp) ?_)
    refine wpQuiet_if (by kernel_rfl) (quiet_val (v := .pointer (some ⟨g, N, none⟩)) (fun w' _ => by go_simp; intro h; exfalso; omega) ?_)
    refine wpQuiet_if (by kernel_rfl) (quiet_val (v := .slice A4 x.length c4) (fun w' E => by have hc3 := (E.cell (p := ⟨g, N, none⟩) hlt3).trans HC3.out; go_simp) ?_)
    refine wpQuiet_if (by kernel_rfl) (quiet_call (f := 88) (args := #[.slice A4 x.length c4]) (v := dgV q) (fun w' _ => by go_simp) (fun w' E => (HSC.out w' E).mono fun e w'' h => ⟨h.1, E.trans h.2⟩) ?_)
    simp only [Act.put, List.getElem_toArray, List.getElem_cons_succ, List.getElem_cons_zero, List.setIfInBounds_toArray, List.set_cons_succ, List.set_cons_zero]
    refine wpQuiet_if (by kernel_rfl) (quiet_load agg_dg (.tmp 5) rfl w.heap.size 0 rfl (u8s root.1) (dg_len root) (fun w' E => (HBK.out.below E).at0) ?_)
    refine wpQuiet_if (by kernel_rfl) (quiet_val (v := .bool (decide (q = root))) (fun w' _ => exec_eqlD rfl rfl rfl w') ?_)
    refine wpQuiet_nil ?_
    intro w3 E3
    go_wp2_with fail
    go_ret
    exact ⟨by rw [HV2.out]; rfl, E12.trans E3⟩
end Go.Proofs.YtcjeclddpkinkaaDoor
