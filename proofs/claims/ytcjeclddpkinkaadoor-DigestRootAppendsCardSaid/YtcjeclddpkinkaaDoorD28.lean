/- The law DigestOfMatchesSpec. -/
import Derived.Test.YtcjeclddpkinkaaDoorD27
set_option linter.unusedSimpArgs false
set_option linter.unusedVariables false
namespace Go.Proofs.YtcjeclddpkinkaaDoor
open Go.RowKit
open Wz (Dg)

theorem of_more (tag m : Int) (ps : List (List UInt8)) : ofF (IntKind.i64.wrap (tag + 256 * m)) ps = ofF tag ps := by
  unfold ofF inpI
  have : IntKind.i64.wrap (tag + 256 * m) % 256 = tag % 256 := by
    rw [IntKind.wrap_i64]; omega
  rw [this]

theorem exec_eqlD_same {o : Oper} {a : Act} {x y : Operand} {p : Dg} (ho : o.op = .binOp .eql 45 x y 45) (hx : a.eval x = dgV p) (hy : a.eval y = dgV p) (w : World) : (execOp a.eval o).run Tryd.prog w = .ok (.value (.bool true)) w := by
  have h := exec_eqlD ho hx hy w
  rwa [decide_eq_true rfl] at h
attribute [local irreducible] wpQuiet
set_option maxRecDepth 100000 in
set_option maxHeartbeats 1000000 in
theorem of_law (tag m : Int) (A : Option Addr) (N c : Nat) (ps : List (List UInt8)) (w : World) (ht : -9223372036854775808 ≤ tag ∧ tag ≤ 9223372036854775807) (hm : -128 ≤ m ∧ m ≤ 127) (hr : Rd w A (strs ps)) (hl : ps.length = N) (hG : GloR w) :
    Calls Tryd.prog 6 #[.int .i64 tag, .int .i8 m, .slice A N c] w (fun e w' => e = .returned (.bool true) ∧ Ext w w') := by
  have HSY := Lib.hid (sanity02_calls w hG.glo)
  by_cases hN : N > 20
  · have hd : decide ((N : Int) > 20) = true := decide_eq_true (by omega)
    have hd2 : decide (20 < N) = true := decide_eq_true (by omega)
    clear hr hl hG
    go_enter Tryd.func6, Tryd.ntmps6
    go_wp2_with ((with_reducible refine HSY.out.mono ?_); rintro e w2 ⟨rfl, E2⟩)
    go_ret
    exact ⟨rfl, E2⟩
  · have hd : decide ((N : Int) > 20) = false := by rw [decide_eq_false_iff_not]; omega
    have hd2 : decide (20 < N) = false := by rw [decide_eq_false_iff_not]; omega
    have HR := Lib.hid hr
    have HL := Lib.hid hl
    have HGR := Lib.hid hG
    clear hr hl hG
    go_enter Tryd.func6, Tryd.ntmps6
    go_wp2_with ((with_reducible refine HSY.out.mono ?_); rintro e w1 ⟨rfl, E1⟩)
    go_loopg [8] N (fun gk s8 wr => ∃ k : Nat, s8 = .int .i64 (k : Int) ∧ k ≤ N ∧ N - k ≤ gk ∧ (∀ j (h : j < ps.length), j < k → (ps[j]).length ≤ 300) ∧ Hid (Ext w wr))
    case atStart => exact ⟨0, rfl, by omega, by omega, fun j h h2 => by omega, Lib.hid E1⟩
    case round =>
    obtain ⟨k, rfl, hk, hgk, hall, HE⟩ := hrel
    by_cases hkn : k < N
    · have hkl : k < ps.length := by rw [HL.out]; exact hkn
      obtain ⟨b, o, rfl, hc⟩ := (HR.out.ext HE.out) (by rw [strs_length, HL.out]; omega)
      have hck := hc k _ (strs_at hkl)
      have hsz := str_size ps[k]
      have hallk : ∀ (h : (ps[k]).length ≤ 300) j (hj : j < ps.length), j < k + 1 → (ps[j]).length ≤ 300 := fun h j hj hjk => by
        by_cases e : j = k
        · subst e; exact h
        · exact hall j hj (by omega)
      have HA := Lib.hid hallk
      obtain ⟨s, hs⟩ : ∃ s, str ps[k] = s := ⟨_, rfl⟩
      rw [hs] at hck hsz
      obtain ⟨z, hz⟩ : ∃ z, s.size = z := ⟨_, rfl⟩
      rw [hz] at hsz
      clear hs hc
      by_cases h3 : z > 300
      · have hd3 : decide ((z : Int) > 300) = true := decide_eq_true (by omega)
        have hd4 : decide (300 < z) = true := decide_eq_true (by omega)
        go_wp2_with fail
        go_ret
        exact ⟨rfl, HE.out⟩
      · have hd3 : decide ((z : Int) > 300) = false := by rw [decide_eq_false_iff_not]; omega
        have hd4 : decide (300 < z) = false := by rw [decide_eq_false_iff_not]; omega
        go_wp2_with fail
        go_roundg (N - (k + 1))
        case measure => omega
        case rel => exact ⟨k + 1, by go_num, by omega, by omega, HA.out (by omega), HE⟩
    have hkn' : k = N := by omega
    subst hkn'
    have hd5 : decide ((k : Int) < (k : Int)) = false := by simp
    have hps : ∀ p ∈ ps, p.length ≤ 1000000 := fun p hp => by
      obtain ⟨j, hj, rfl⟩ := List.getElem_of_mem hp
      have := hall j hj (by rw [← HL.out]; exact hj)
      omega
    have HMO := Lib.hid fun w' (E : Ext w w') => of_calls (IntKind.i64.wrap (tag + 256 * m)) A k c ps w' (HR.out.ext E) HL.out (by omega) hps (HGR.out.glo.ext E)
    have HPO := Lib.hid fun w' (E : Ext w w') => of_calls tag A k c ps w' (HR.out.ext E) HL.out (by omega) hps (HGR.out.glo.ext E)
    have HRO := Lib.hid fun w' (E : Ext w w') => refof_calls tag A k c ps w' (HR.out.ext E) HL.out (by omega) hps (HGR.out.ext E)
    simp only [of_more] at HMO
    obtain ⟨R, hR⟩ : ∃ R, ofF tag ps = R := ⟨_, rfl⟩
    simp only [hR] at HMO HPO HRO
    obtain ⟨N, hN'⟩ : ∃ N, k = N := ⟨_, rfl⟩
    subst hN'
    clear hall hps hR
    go_upto_region 10 with (first
      | ((with_reducible refine (HPO.out wr HE.out).mono ?_); rintro e w2 ⟨rfl, E2⟩)
      | ((with_reducible show wpList _ _ _ (⟨Option.none, .store _ (.tmp 9) _, _, _, _, _⟩ :: _) _ _); go_must (refine wpList_storeNew agg_dg w2 _ 45 rfl (.tmp 9) (.tmp 30) rfl rfl (u8s R.1) rfl (dg_len R) rfl (u8s_one _) ?_)))
    have HB : Hid (Blk (w2.alloc (.cells (u8s R.1).toArray 45)) w2.heap.size 45 (u8s R.1) ∧ Ext w (w2.alloc (.cells (u8s R.1).toArray 45))) := Lib.hid ⟨Blk.new _ _ _, (HE.out.trans E2).alloc _⟩
    generalize w2.alloc (.cells (u8s R.1).toArray 45) = w3 at HB ⊢
    obtain ⟨B, hB⟩ : ∃ B, w2.heap.size = B := ⟨_, rfl⟩
    rw [hB] at HB ⊢
    clear hB
    refine wp_region_quiet_tail (fun w' => Ext w3 w') 18 (by kernel_rfl) (by kernel_rfl) (Ext.refl w3).drew ?_
    simp only [List.take_succ_cons, List.take_zero, List.drop_succ_cons, List.drop_zero]
    refine wpQuiet_one rfl (quiet_val (v := .bool true) (fun w' E => by go_simp) ?_)
    simp only [Act.put, List.getElem_toArray, List.getElem_cons_succ, List.getElem_cons_zero, List.setIfInBounds_toArray, List.set_cons_succ, List.set_cons_zero]
    refine wpQuiet_one rfl (quiet_val (v := .bool true) (fun w' E => by go_simp) ?_)
    simp only [Act.put, List.getElem_toArray, List.getElem_cons_succ, List.getElem_cons_zero, List.setIfInBounds_toArray, List.set_cons_succ, List.set_cons_zero]
    refine wpQuiet_if (by kernel_rfl) (quiet_load agg_dg (.tmp 9) rfl B 0 rfl (u8s R.1) (dg_len R) (fun w' E => (HB.out.1.below E).at0) ?_)
    simp only [Act.put, List.getElem_toArray, List.getElem_cons_succ, List.getElem_cons_zero, List.setIfInBounds_toArray, List.set_cons_succ, List.set_cons_zero]
    refine wpQuiet_if (by kernel_rfl) (quiet_val (v := .int .i64 tag) (fun w' E => by go_simp) ?_)
    simp only [Act.put, List.getElem_toArray, List.getElem_cons_succ, List.getElem_cons_zero, List.setIfInBounds_toArray, List.set_cons_succ, List.set_cons_zero]
    refine wpQuiet_if (by kernel_rfl) (quiet_val (v := .slice A k c) (fun w' E => by go_simp) ?_)
    simp only [Act.put, List.getElem_toArray, List.getElem_cons_succ, List.getElem_cons_zero, List.setIfInBounds_toArray, List.set_cons_succ, List.set_cons_zero]
    refine wpQuiet_if (by kernel_rfl) (quiet_call (f := 27) (args := #[.int .i64 tag, .slice A k c]) (v := dgV R) (fun w' _ => by go_simp) (fun w' E => (HRO.out w' (HB.out.2.trans E)).mono fun e w'' h => ⟨h.1, E.trans h.2⟩) ?_)
    simp only [Act.put, List.getElem_toArray, List.getElem_cons_succ, List.getElem_cons_zero, List.setIfInBounds_toArray, List.set_cons_succ, List.set_cons_zero]
    refine wpQuiet_if (by kernel_rfl) (quiet_val (v := .bool true) (fun w' E => exec_eqlD_same rfl rfl rfl w') ?_)
    simp only [Act.put, List.getElem_toArray, List.getElem_cons_succ, List.getElem_cons_zero, List.setIfInBounds_toArray, List.set_cons_succ, List.set_cons_zero]
    refine wpQuiet_one rfl (quiet_val (v := .bool true) (fun w' E => by go_simp) ?_)
    simp only [Act.put, List.getElem_toArray, List.getElem_cons_succ, List.getElem_cons_zero, List.setIfInBounds_toArray, List.set_cons_succ, List.set_cons_zero]
    refine wpQuiet_one rfl (quiet_val (v := .bool true) (fun w' E => by go_simp) ?_)
    simp only [Act.put, List.getElem_toArray, List.getElem_cons_succ, List.getElem_cons_zero, List.setIfInBounds_toArray, List.set_cons_succ, List.set_cons_zero]
    refine wpQuiet_if (by kernel_rfl) (quiet_load agg_dg (.tmp 9) rfl B 0 rfl (u8s R.1) (dg_len R) (fun w' E => (HB.out.1.below E).at0) ?_)
    simp only [Act.put, List.getElem_toArray, List.getElem_cons_succ, List.getElem_cons_zero, List.setIfInBounds_toArray, List.set_cons_succ, List.set_cons_zero]
    refine wpQuiet_if (by kernel_rfl) (quiet_val (v := .int .i64 tag) (fun w' E => by go_simp) ?_)
    simp only [Act.put, List.getElem_toArray, List.getElem_cons_succ, List.getElem_cons_zero, List.setIfInBounds_toArray, List.set_cons_succ, List.set_cons_zero]
    refine wpQuiet_if (by kernel_rfl) (quiet_val (v := .int .i8 m) (fun w' E => by go_simp) ?_)
    simp only [Act.put, List.getElem_toArray, List.getElem_cons_succ, List.getElem_cons_zero, List.setIfInBounds_toArray, List.set_cons_succ, List.set_cons_zero]
    refine wpQuiet_if (by kernel_rfl) (quiet_val (v := .int .i64 m) (fun w' E => by have hwm := IntWalk.i64_in m (by omega); go_simp) ?_)
    simp only [Act.put, List.getElem_toArray, List.getElem_cons_succ, List.getElem_cons_zero, List.setIfInBounds_toArray, List.set_cons_succ, List.set_cons_zero]
    refine wpQuiet_if (by kernel_rfl) (quiet_val (v := .int .i64 (256 * m)) (fun w' E => by have hwm := IntWalk.i64_in (256 * m) (by omega); go_simp) ?_)
    simp only [Act.put, List.getElem_toArray, List.getElem_cons_succ, List.getElem_cons_zero, List.setIfInBounds_toArray, List.set_cons_succ, List.set_cons_zero]
    refine wpQuiet_if (by kernel_rfl) (quiet_val (v := .int .i64 (IntKind.i64.wrap (tag + 256 * m))) (fun w' E => by go_simp) ?_)
    simp only [Act.put, List.getElem_toArray, List.getElem_cons_succ, List.getElem_cons_zero, List.setIfInBounds_toArray, List.set_cons_succ, List.set_cons_zero]
    refine wpQuiet_if (by kernel_rfl) (quiet_val (v := .slice A k c) (fun w' E => by go_simp) ?_)
    simp only [Act.put, List.getElem_toArray, List.getElem_cons_succ, List.getElem_cons_zero, List.setIfInBounds_toArray, List.set_cons_succ, List.set_cons_zero]
    refine wpQuiet_if (by kernel_rfl) (quiet_call (f := 26) (args := #[.int .i64 (IntKind.i64.wrap (tag + 256 * m)), .slice A k c]) (v := dgV R) (fun w' _ => by go_simp) (fun w' E => (HMO.out w' (HB.out.2.trans E)).mono fun e w'' h => ⟨h.1, E.trans h.2⟩) ?_)
    simp only [Act.put, List.getElem_toArray, List.getElem_cons_succ, List.getElem_cons_zero, List.setIfInBounds_toArray, List.set_cons_succ, List.set_cons_zero]
    refine wpQuiet_if (by kernel_rfl) (quiet_val (v := .bool true) (fun w' E => exec_eqlD_same rfl rfl rfl w') ?_)
    simp only [Act.put, List.getElem_toArray, List.getElem_cons_succ, List.getElem_cons_zero, List.setIfInBounds_toArray, List.set_cons_succ, List.set_cons_zero]
    refine wpQuiet_nil ?_
    intro w4 E4
    go_wp2_with fail
    go_ret
    exact ⟨rfl, HB.out.2.trans E4⟩
end Go.Proofs.YtcjeclddpkinkaaDoor
