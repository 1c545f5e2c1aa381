/- Chapter 02's sanity. -/
import Derived.Test.YtcjeclddpkinkaaDoorD25
set_option linter.unusedSimpArgs false
set_option linter.unusedVariables false
namespace Go.Proofs.YtcjeclddpkinkaaDoor
open Go.RowKit
open Wz (Dg)

theorem sha_nil0 : (sha []).getD 0 0 = 0xe3 := by kernel_rfl
theorem sha_nil31 : (sha []).getD 31 0 = 0x55 := by kernel_rfl
theorem agg_41 : AggOf Tryd.prog 41 32 := ⟨by kernel_rfl, by kernel_rfl⟩
/-- the digests of the sanity's list -/
def dgN (n : UInt8) : Dg := ⟨n :: List.replicate 15 0, by simp⟩
def dl3 : List Dg := [dgN 1, dgN 2, dgN 3]
theorem run_buildDN (n : Int) (k : UInt8) (h : n = (k.toNat : Int)) (w : World) : (Instr.build 45 #[(0, .int .u8 n)]).run Tryd.prog w = .ok (dgV (dgN k)) w := by
  subst h
  go_simp
  rfl
theorem exec_buildDN {o : Oper} {a : Act} {x : Operand} {n : Int} (k : UInt8) (ho : o.op = .build 45 #[(0, x)]) (hx : a.eval x = .int .u8 n) (h : n = (k.toNat : Int)) (w : World) : (execOp a.eval o).run Tryd.prog w = .ok (.value (dgV (dgN k))) w := by
  have h1 := run_buildDN n k h w
  unfold execOp
  rw [ho]
  simp only [Sem.run_bind, Sem.run_pure, List.map_toArray, List.map_cons, List.map_nil, hx, h1, Result.andThen]
theorem run_build3 (w : World) : (Instr.buildSlice 63 3 #[(0, dgV (dgN 1)), (1, dgV (dgN 2)), (2, dgV (dgN 3))]).run Tryd.prog w = .ok (.slice (some ⟨w.heap.size, 0, none⟩) 3 3) (w.alloc (.cells (dgs dl3).toArray 45)) := by
  kernel_rfl
theorem exec_build3 {o : Oper} {a : Act} {x y z : Operand} {v1 v2 v3 v : Value} {w w' : World} (ho : o.op = .buildSlice 63 3 #[(0, x), (1, y), (2, z)]) (hx : a.eval x = v1) (hy : a.eval y = v2) (hz : a.eval z = v3)
    (hrun : (Instr.buildSlice 63 3 #[(0, v1), (1, v2), (2, v3)]).run Tryd.prog w = .ok v w') : (execOp a.eval o).run Tryd.prog w = .ok (.value v) w' := by
  unfold execOp
  rw [ho]
  simp only [Sem.run_bind, Sem.run_pure, List.map_toArray, List.map_cons, List.map_nil, hx, hy, hz, hrun, Result.andThen]

theorem prove_dl3 : ∃ d, Mk.proveF shF dl3 2 = [d] := by
  have h1 : Mk.sp 3 = 2 := by unfold Mk.sp; decide
  have h2 := Mk.prove_right shF (l := dl3) (i := 2) (by decide) (by show Mk.sp 3 ≤ 2; omega)
  rw [show dl3.length = 3 from rfl, h1] at h2
  rw [Mk.prove_one shF (l := dl3.drop 2) (by decide)] at h2
  exact ⟨_, h2⟩
theorem ver_yes (d : Dg) (h : Mk.proveF shF dl3 2 = [d]) : verZ (Mk.rootF shF dl3) 3 2 (dgN 3) [d] = true := by
  have h1 := Mk.prove_verified shF dl3 2 (by decide)
  rw [h] at h1
  unfold verZ
  rw [show (3 : Int) = ((3 : Nat) : Int) from rfl, show (2 : Int) = ((2 : Nat) : Int) from rfl, inZ_nat (by decide)]
  exact h1
theorem ver_no (r : Dg) : verZ r 3 1 (dgN 3) [] = false := by
  unfold verZ
  rw [show (3 : Int) = ((3 : Nat) : Int) from rfl, show (1 : Int) = ((1 : Nat) : Int) from rfl, inZ_nat (by decide), Mk.inputs_nil shF (by decide)]

theorem u8s_get {l : List UInt8} {i : Nat} {c : UInt8} (h : i < l.length) (hc : l.getD i 0 = c) : (u8s l)[i]? = some (.int .u8 (c.toNat : Int)) := by rw [u8s_at h, hc]

theorem wpList_valueG {P : Program} {w w' : World} {ops : Array Oper} {rest : List Oper} {o : Oper} {a : Act} {Q : Exit → Act → World → Prop} {v : Value} (hw : Region.wanted o (yielded ops a.tmps) = true)
    (hrun : (execOp a.eval o).run P w = .ok (.value v) w') (h : wpList P ops Q rest (a.put o.dst v) w') : wpList P ops Q (o :: rest) a w := by
  refine wpList_step fun K hK => ?_
  rw [if_pos hw]
  unfold Oper.wp
  rw [hrun]
  exact hK _ _ h

set_option maxRecDepth 100000 in
set_option maxHeartbeats 2000000 in
theorem sanity02_calls (w : World) (hG : Glo w) : Calls Tryd.prog 23 #[] w (fun e w' => e = .returned (.bool true) ∧ Ext w w') := by
  have HS := Lib.hid (sum_calls none 0 0 [] w (Rd.nil _ _) rfl (by decide) hG)
  have hs0 := u8s_get (l := sha []) (i := 0) (by rw [sha_length]; decide) sha_nil0
  have hs31 := u8s_get (l := sha []) (i := 31) (by rw [sha_length]; decide) sha_nil31
  have hsl := sha_length []
  obtain ⟨S, hS⟩ : ∃ S, sha [] = S := ⟨_, rfl⟩
  rw [hS] at HS hs0 hs31 hsl
  have HG := Lib.hid hG
  obtain ⟨d, hp⟩ := prove_dl3
  have HV1 := Lib.hid (ver_yes d hp)
  obtain ⟨R, hR⟩ : ∃ R, Mk.rootF shF dl3 = R := ⟨_, rfl⟩
  rw [hR] at HV1
  have HP := Lib.hid hp
  have HR := Lib.hid hR
  clear hG hS hp hR
  go_enter Tryd.func23, Tryd.ntmps23
  go_upto_region 2 with (first
    | ((with_reducible refine HS.out.mono ?_); rintro e w1 ⟨rfl, E1⟩)
    | ((with_reducible show wpList _ _ _ (⟨Option.none, .store _ (.tmp 1) _, _, _, _, _⟩ :: _) _ _); go_must (refine wpList_storeNew agg_41 w1 _ 41 rfl (.tmp 1) (.tmp 7) rfl rfl (u8s S) rfl (by rw [u8s_length]; exact hsl) rfl (u8s_one _) ?_)))
  have HB : Hid (Blk (w1.alloc (.cells (u8s S).toArray 41)) w1.heap.size 41 (u8s S) ∧ Ext w (w1.alloc (.cells (u8s S).toArray 41))) := Lib.hid ⟨Blk.new _ _ _, E1.alloc _⟩
  generalize w1.alloc (.cells (u8s S).toArray 41) = w2 at HB ⊢
  obtain ⟨B, hB⟩ : ∃ B, w1.heap.size = B := ⟨_, rfl⟩
  rw [hB] at HB ⊢
  clear hB HS
  go_upto_region 3 with (first
    | ((with_reducible show wpList _ _ _ (⟨some 8, _, _, _, _, _⟩ :: _) _ _); go_must (refine wpList_value rfl (exec_buildDN 1 rfl rfl rfl _) ?_))
    | ((with_reducible show wpList _ _ _ (⟨some 9, _, _, _, _, _⟩ :: _) _ _); go_must (refine wpList_value rfl (exec_buildDN 2 rfl rfl rfl _) ?_))
    | ((with_reducible show wpList _ _ _ (⟨some 10, _, _, _, _, _⟩ :: _) _ _); go_must (refine wpList_value rfl (exec_buildDN 3 rfl rfl rfl _) ?_))
    | ((with_reducible show wpList _ _ _ (⟨some 11, _, _, _, _, _⟩ :: _) _ _); go_must (refine wpList_value rfl (exec_build3 rfl rfl rfl rfl (run_build3 w2)) ?_)))
  have HL : Hid (Rd (w2.alloc (.cells (dgs dl3).toArray 45)) (some ⟨w2.heap.size, 0, none⟩) (dgs dl3) ∧ Ext w (w2.alloc (.cells (dgs dl3).toArray 45)) ∧ Blk (w2.alloc (.cells (dgs dl3).toArray 45)) B 41 (u8s S)) := Lib.hid ⟨(Blk.new w2 (dgs dl3) 45).rd, HB.out.2.alloc _, HB.out.1.alloc _⟩
  generalize w2.alloc (.cells (dgs dl3).toArray 45) = w3 at HL ⊢
  obtain ⟨A, hA⟩ : ∃ A : Option Addr, some (⟨w2.heap.size, 0, none⟩ : Addr) = A := ⟨_, rfl⟩
  simp only [hA] at HL ⊢
  clear hA HB
  have HPR := Lib.hid (show Calls Tryd.prog 34 #[.slice A 3 3, .int .i64 2] w3 _ from prove_calls A 3 3 2 dl3 w3 HL.out.1 rfl (by decide) (by decide) (by decide) (HG.out.ext HL.out.2.1))
  rw [HP.out] at HPR
  have HPB := Lib.hid fun w' => prove_bad A 3 3 3 w' (.inr (by decide))
  go_upto_region 5 with (first
    | ((with_reducible refine HPR.out.mono ?_); rintro e w4 ⟨v, rfl, ho4, E4⟩; obtain ⟨A4, c4, rfl, hc4, _, hr4⟩ := ho4.slice)
    | ((with_reducible refine (HPB.out _).mono ?_); rintro e w5 ⟨rfl, E5⟩))
  have E35 : Ext w3 w5 := (show Ext w3 w4 from E4).trans E5
  have HB5 := Lib.hid (HL.out.2.2.below E35)
  have hc0 := HB5.out.cell 0
  have hc31 := HB5.out.cell 31
  rw [hs0] at hc0
  rw [hs31] at hc31
  have E5w := HL.out.2.1.trans E35
  have HRT := Lib.hid fun w' (E : Ext w5 w') => root_calls 3 A 3 dl3 w' (HL.out.1.ext (E35.trans E)) rfl (by decide) (by decide) (HG.out.ext (E5w.trans E))
  rw [HR.out] at HRT
  have HV := Lib.hid fun w' (E : Ext w5 w') => verify_calls R 3 2 (by decide) (dgN 3) A4 1 c4 [d] w' ((hr4.ext E5).ext E) rfl hc4 (by decide) (HG.out.ext (E5w.trans E))
  rw [HV1.out] at HV
  have HN := Lib.hid fun w' (E : Ext w5 w') => verify_calls R 3 1 (by decide) (dgN 3) none 0 0 [] w' (Rd.nil _ _) rfl (by decide) (by decide) (HG.out.ext (E5w.trans E))
  rw [ver_no] at HN
  clear HPR HPB HL HB5 hr4 ho4 E4
  go_wp2_with (first
    | ((with_reducible show wpList _ _ _ (⟨some 46, _, _, _, _, _⟩ :: _) _ _); go_must (refine wpList_valueG (by kernel_rfl) (exec_buildDN 3 rfl rfl rfl _) ?_))
    | ((with_reducible show wpList _ _ _ (⟨some 53, _, _, _, _, _⟩ :: _) _ _); go_must (refine wpList_valueG (by kernel_rfl) (exec_buildDN 3 rfl rfl rfl _) ?_))
    | ((with_reducible refine (HRT.out _ (Ext.refl _)).mono ?_); rintro e w6 ⟨rfl, E6⟩)
    | ((with_reducible refine (HV.out _ E6).mono ?_); rintro e w7 ⟨rfl, E7'⟩; have E7 := Ext.trans E6 E7')
    | ((with_reducible refine (HRT.out _ E7).mono ?_); rintro e w8 ⟨rfl, E8'⟩; have E8 := E7.trans E8')
    | ((with_reducible refine (HN.out _ E8).mono ?_); rintro e w9 ⟨rfl, E9'⟩; have E9 := E8.trans E9')
    | fail)
  go_ret
  exact ⟨rfl, E5w.trans E9⟩
end Go.Proofs.YtcjeclddpkinkaaDoor
