/- SHA-256: the contract of the reference's Sum. -/
import Derived.Test.YtcjeclddpkinkaaDoorD4
set_option linter.unusedSimpArgs false
set_option linter.unusedVariables false
namespace Go.Proofs.YtcjeclddpkinkaaDoor
open Go.RowKit

theorem mx_eq (x : UInt32) (i j k : Nat) : mx x i j k = xr (xr (rot x i) (rot x j)) (rot x k) := by unfold mx; rfl
theorem run_build8 (x0 x1 x2 x3 x4 x5 x6 x7 : Int) (w : World) : (Instr.build 134 #[(0, .int .u32 x0), (1, .int .u32 x1), (2, .int .u32 x2), (3, .int .u32 x3), (4, .int .u32 x4), (5, .int .u32 x5), (6, .int .u32 x6), (7, .int .u32 x7)]).run Tryd.prog w = .ok (.agg #[.int .u32 x0, .int .u32 x1, .int .u32 x2, .int .u32 x3, .int .u32 x4, .int .u32 x5, .int .u32 x6, .int .u32 x7]) w := by
  kernel_rfl
theorem wpList_build8 {w : World} {ops : Array Oper} {rest : List Oper} {o : Oper} {a : Act} {Q : Exit → Act → World → Prop} (hgd : o.guard = none) (x0 x1 x2 x3 x4 x5 x6 x7 : Operand) (ho : o.op = .build 134 #[(0, x0), (1, x1), (2, x2), (3, x3), (4, x4), (5, x5), (6, x6), (7, x7)])
    (y0 y1 y2 y3 y4 y5 y6 y7 : Int) (h0 : a.eval x0 = .int .u32 y0) (h1 : a.eval x1 = .int .u32 y1) (h2 : a.eval x2 = .int .u32 y2) (h3 : a.eval x3 = .int .u32 y3) (h4 : a.eval x4 = .int .u32 y4) (h5 : a.eval x5 = .int .u32 y5) (h6 : a.eval x6 = .int .u32 y6) (h7 : a.eval x7 = .int .u32 y7)
    (h : wpList Tryd.prog ops Q rest (a.put o.dst (.agg #[.int .u32 y0, .int .u32 y1, .int .u32 y2, .int .u32 y3, .int .u32 y4, .int .u32 y5, .int .u32 y6, .int .u32 y7])) w) : wpList Tryd.prog ops Q (o :: rest) a w := by
  refine wpList_value hgd ?_ h
  unfold execOp
  rw [ho]
  simp only [Sem.run_bind, Sem.run_pure, List.map_toArray, List.map_cons, List.map_nil, h0, h1, h2, h3, h4, h5, h6, h7, run_build8, Result.andThen]
theorem agg_32 : AggOf Tryd.prog 41 32 := ⟨by kernel_rfl, by kernel_rfl⟩
/-- the blocks below B are as they were -/
theorem blk_below {w w' : World} {B b t : Nat} {cs : List Value} (h : Blk w b t cs) (hb : Below B w w') (hB : b < B) : Blk w' b t cs := (hb.block b hB).trans h

/-- a store of a whole value into the variable that was laid last, its number spelled otherwise -/
theorem wpList_storeNewAt {P : Program} {t : TypeId} {n : Nat} (hT : AggOf P t n) (w : World) (cur : Array Value) (ty : TypeId) (g : Nat) (hgz : g = w.heap.size) {ops : Array Oper} {rest : List Oper} {o : Oper} {a : Act} {Q : Exit → Act → World → Prop} (hgd : o.guard = none) (p x : Operand) (ho : o.op = .store t p x)
    (hp : a.eval p = .pointer (some ⟨g, 0, none⟩)) (cs : List Value) (hx : a.eval x = .agg cs.toArray) (hl : cs.length = n) (hcur : cur.size = n) (h1 : ∀ u ∈ cs, u.oneCell' = true)
    (h : wpList P ops Q rest (a.put o.dst undef) (w.alloc (.cells cs.toArray ty))) : wpList P ops Q (o :: rest) a (w.alloc (.cells cur ty)) := by
  subst hgz
  exact wpList_storeNew hT w cur ty hgd p x ho hp cs hx hl hcur h1 h

theorem u8s_set (l : List UInt8) (j : Nat) (x : UInt8) : u8s (l.set j x) = (u8s l).set j (.int .u8 (x.toNat : Int)) := by simp [u8s, List.map_set]
def adG (L V : List UInt32) : Nat → List UInt32
  | 0 => L
  | i + 1 => (adG L V i).set i (ad ((adG L V i).getD i 0) (V.getD i 0))
theorem adG_len (L V : List UInt32) (h : L.length = 8) : ∀ i, (adG L V i).length = 8
  | 0 => h
  | i + 1 => by rw [adG, List.length_set, adG_len L V h i]
theorem adG_eight (s v : St) : adG s.l v.l 8 = (addS s v).l := rfl

set_option maxRecDepth 100000 in
set_option maxHeartbeats 1000000 in
/-- the reference's Sum -/
theorem refsum_calls (A : Option Addr) (N c : Nat) (l : List UInt8) (w : World) (hr : Rd w A (u8s l)) (hl : l.length = N) (hN : N ≤ 100000000000) (hG : GloR w) :
    Calls Tryd.prog 25 #[.slice A N c] w (fun e w' => e = .returned (.agg (u8s (sha l)).toArray) ∧ Ext w w') := by
  have hml := padF_length l
  have hmm := padF_mod l
  rw [hl] at hml
  have hm64 : (padF l).length ≤ 100000000100 := by rw [hml]; unfold zpad; omega
  have hm0 : 64 ≤ (padF l).length := by rw [hml]; unfold zpad; omega
  have HSH : Hid (sha l = outF (shaSt (padF l) ((padF l).length / 64)).l) := Lib.hid rfl
  have HPC := fun w hr => padded_calls A N c l w hr hl hN
  obtain ⟨P, hP⟩ : ∃ P, padF l = P := ⟨_, rfl⟩
  rw [hP] at hmm hm64 HSH hm0
  simp only [hP] at HPC
  obtain ⟨M, hM⟩ : ∃ M, P.length = M := ⟨_, rfl⟩
  rw [hM] at hmm hm64 HSH hm0
  have HM := Lib.hid hM
  have HC := Lib.hid HPC
  have HMM := Lib.hid hmm
  clear hl hml hP hM HPC hmm
  go_enter Tryd.func25, Tryd.ntmps25
  go_upto_region 2 with fail
  generalize hW0 : (w.alloc _).alloc _ = W0
  have E0 : Ext w W0 := hW0 ▸ ((Ext.refl w).alloc _).alloc _
  have R0 : Blk W0 w.heap.size 41 (u8s (List.replicate 32 0)) := hW0 ▸ (Blk.new w (u8s (List.replicate 32 0)) 41).alloc _
  have S0 : Blk W0 (w.heap.size + 1) 134 (us (shaSt P 0).l) := by
    rw [← hW0]
    have := Blk.new (w.alloc (Obj.cells (u8s (List.replicate 32 0)).toArray 41)) (us (shaSt P 0).l) 134
    rw [World.size_alloc] at this
    exact this
  have Z0 : W0.heap.size = w.heap.size + 2 := by rw [← hW0]; simp
  clear hW0
  go_upto_block 0 with ((with_reducible refine (HC.out _ (hr.ext E0)).mono ?_); rintro e w1 ⟨v, rfl, ho, hb⟩)
  have E1 : Ext w w1 := E0.trans hb
  have R1 := R0.below hb
  have S1 := S0.below hb
  have G1 := hG.ext E1
  obtain ⟨b, cm, rfl, hbk, hMc, hcm, hRP, hbl⟩ : ∃ b cm, v = .slice (some ⟨b, 0, none⟩) M cm ∧ w.heap.size + 2 ≤ b ∧ M ≤ cm ∧ cm ≤ maxLen ∧ Rd w1 (some ⟨b, 0, none⟩) (u8s P) ∧ b < w1.heap.size := by
    obtain ⟨A', c', e1, e2, e3, e4⟩ := ho.slice
    rcases ho.2 with ⟨rfl, hx⟩ | ⟨g, cap, cur, h1, h2, h3, h4, h5, h6, h7⟩
    · exfalso
      rw [HM.out] at hx
      omega
    · rw [h1] at e1 ⊢
      simp only [Value.slice.injEq] at e1
      obtain ⟨rfl, e5, rfl⟩ := e1
      rw [HM.out] at e2 ⊢
      exact ⟨g, cap, rfl, by omega, e2, e3, e4, (Array.getElem?_eq_some_iff.1 h3).1⟩
  have HRP := Lib.hid hRP
  have HG := Lib.hid G1
  obtain ⟨n, hn⟩ : ∃ n, w.heap.size = n := ⟨_, rfl⟩
  have HE1 := Lib.hid E1
  have HR1 := Lib.hid R1
  have HS1 := Lib.hid S1
  have hG3 := hG.lt
  have HNn := Lib.hid hn
  simp only [hn] at HR1 HS1 hbk hG3 ⊢
  clear hRP G1 E1 R1 S1 E0 R0 S0 Z0 ho hb hr hn
  go_cut [5] (fun i wc => Hid (Blk wc n 41 (u8s (List.replicate 32 0)) ∧ Blk wc (n + 1) 134 (us (shaSt P (M / 64)).l) ∧ Ext w wc))
  case first =>
    go_wp2_with fail
    go_loopg [5] (M + 1) (fun g i wr => ∃ k a : Nat, i = .int .i64 (a : Int) ∧ Hid (a = 64 * k) ∧ a ≤ M ∧ M - a + 1 ≤ g ∧ Hid (Blk wr n 41 (u8s (List.replicate 32 0)) ∧ Blk wr (n + 1) 134 (us (shaSt P k).l) ∧ Ext w wr ∧ wr.heap[b]? = w1.heap[b]? ∧ b < wr.heap.size))
    case atStart => exact ⟨0, 0, rfl, Lib.hid rfl, by omega, by omega, Lib.hid ⟨HR1.out, HS1.out, HE1.out, rfl, hbl⟩⟩
    case round =>
      obtain ⟨k, a, rfl, HA, haM, hg, HH⟩ := hrel
      by_cases hlt : a < M
      · have ha64 : a + 64 ≤ M := by have := HA.out; have := HMM.out; omega
        have hrP : Rd wr (some ⟨b, 0, none⟩) (u8s P) := HRP.out.of_block fun b' _ e _ => by
          simp only [Option.some.injEq, Addr.mk.injEq] at e
          rw [← e.1]
          exact HH.out.2.2.2.1
        have HRD := Lib.hid hrP
        clear hrP
        obtain ⟨i0, hi, hz0, hz1, hz2⟩ := info_parts info_u8
        have hmid : (a + 64) - a = 64 := by omega
        go_upto_block 2 with (first
          | ((with_reducible show wpList _ _ _ (⟨some 27, _, _, _, _, _⟩ :: _) _ _); go_must (refine wpList_sliceB wr rfl (.tmp 23) (some (.tmp 24)) (some (.tmp 26)) 34 rfl 5 i0 1 Tryd.underlying34 hi hz1 (some ⟨b, 0, none⟩) M cm (u8s P) rfl HRD.out hMc a (a + 64) (.inr ⟨_, .i64, rfl, rfl⟩) (.inr ⟨_, .i64, rfl, rfl⟩) (by omega) ha64 ?_); intro A' hrA hAA; simp only [hmid]; rw [hmid, Nat.mul_one, Nat.mul_one] at hrA)
          | fail)
        have hbe : (u8s P).drop a = u8s (P.drop a) := by simp [u8s]
        have hbt : (u8s (P.drop a)).take 64 = u8s ((P.drop a).take 64) := by simp [u8s]
        rw [hbe, hbt] at hrA
        have hbl : ((P.drop a).take 64).length = 64 := by rw [List.length_take, List.length_drop, HM.out]; omega
        have HSt : Hid (shaSt P (k + 1) = comp (shaSt P k) ((P.drop a).take 64)) := Lib.hid (by rw [shaSt, blk, HA.out])
        obtain ⟨B, hB⟩ : ∃ B, (P.drop a).take 64 = B := ⟨_, rfl⟩
        rw [hB] at hrA hbl HSt
        clear hB hbe hbt hmid hAA
        refine (words_calls A' (cm - a) B _ hrA hbl (by omega)).mono ?_
        rintro e w3 ⟨rfl, F3⟩
        have F3' : Ext wr w3 := F3
        have hWl := arrW_len B 64
        have HCO : Hid (comp (shaSt P k) B = addS (shaSt P k) (rnds (shaSt P k) (arrW B 64) 64)) := Lib.hid rfl
        obtain ⟨W, hW⟩ : ∃ W, arrW B 64 = W := ⟨_, rfl⟩
        rw [hW] at hWl HCO
        simp only [hW]
        obtain ⟨S, hS⟩ : ∃ S, shaSt P k = S := ⟨_, rfl⟩
        rw [hS] at HSt HCO
        have HSS := Lib.hid hS
        clear hW hS hbl hrA F3
        have HRS : Hid (Blk w3 n 41 (u8s (List.replicate 32 0)) ∧ Blk w3 (n + 1) 134 (us S.l) ∧ Ext w w3 ∧ w3.heap[b]? = w1.heap[b]? ∧ b < w3.heap.size) := Lib.hid ⟨HH.out.1.below F3', by rw [← HSS.out]; exact HH.out.2.1.below F3', HH.out.2.2.1.trans F3', (F3'.block b HH.out.2.2.2.2).trans HH.out.2.2.2.1, Nat.lt_of_lt_of_le HH.out.2.2.2.2 F3'.size⟩
        go_upto_block 2 with (first
          | ((with_reducible show wpList _ _ _ (⟨Option.none, .store _ (.tmp 6) _, _, _, _, _⟩ :: _) _ _); go_must (refine wpList_storeNew agg_w w3 _ 139 rfl (.tmp 6) (.tmp 28) rfl rfl (us W) rfl (by rw [us_length, hWl]) rfl (us_one _) ?_))
          | ((with_reducible show wpList _ _ _ (⟨some 29, _, _, _, _, _⟩ :: _) _ _); go_must (refine wpList_loadAgg agg_8 _ rfl (.tmp 3) rfl (n + 1) 0 rfl (us S.l) rfl (HRS.out.2.1.alloc _).agg ?_))
          | ((with_reducible show wpList _ _ _ (⟨Option.none, .store _ (.tmp 7) _, _, _, _, _⟩ :: _) _ _); go_must (refine wpList_storeNewAt agg_8 (w3.alloc (Obj.cells (us W).toArray 139)) _ 134 (w3.heap.size + 1) (by simp) rfl (.tmp 7) (.tmp 29) rfl rfl (us S.l) rfl rfl rfl (us_one _) ?_))
          | fail)
        have HW5 : Hid (Blk ((w3.alloc (Obj.cells (us W).toArray 139)).alloc (Obj.cells (us S.l).toArray 134)) n 41 (u8s (List.replicate 32 0)) ∧ Blk ((w3.alloc (Obj.cells (us W).toArray 139)).alloc (Obj.cells (us S.l).toArray 134)) (n + 1) 134 (us S.l) ∧ Ext w ((w3.alloc (Obj.cells (us W).toArray 139)).alloc (Obj.cells (us S.l).toArray 134)) ∧
            ((w3.alloc (Obj.cells (us W).toArray 139)).alloc (Obj.cells (us S.l).toArray 134)).heap[b]? = w1.heap[b]? ∧ Blk ((w3.alloc (Obj.cells (us W).toArray 139)).alloc (Obj.cells (us S.l).toArray 134)) w3.heap.size 139 (us W) ∧ Blk ((w3.alloc (Obj.cells (us W).toArray 139)).alloc (Obj.cells (us S.l).toArray 134)) (w3.heap.size + 1) 134 (us S.l)) := by
          refine Lib.hid ⟨(HRS.out.1.alloc _).alloc _, (HRS.out.2.1.alloc _).alloc _, (HRS.out.2.2.1.alloc _).alloc _, ?_, (Blk.new w3 (us W) 139).alloc _, ?_⟩
          · exact (((Ext.refl w3).alloc _).alloc _ |>.block b HRS.out.2.2.2.2).trans HRS.out.2.2.2.1
          · have := Blk.new (w3.alloc (Obj.cells (us W).toArray 139)) (us S.l) 134
            rw [World.size_alloc] at this
            exact this
        have hbq : b < w3.heap.size := HRS.out.2.2.2.2
        generalize (w3.alloc (Obj.cells (us W).toArray 139)).alloc (Obj.cells (us S.l).toArray 134) = w5 at HW5 ⊢
        generalize w3.heap.size = q at HW5 hbq ⊢
        clear HRS HRD HH
        have HG5 : Hid (GloR w5) := Lib.hid ⟨⟨fun j v h => (cell_same (HW5.out.2.2.1.block 0 (by rw [HNn.out]; omega))).trans (hG.glo.start j v h), fun j v h => (cell_same (HW5.out.2.2.1.block 2 (by rw [HNn.out]; omega))).trans (hG.glo.progc j v h)⟩, fun j v h => (cell_same (HW5.out.2.2.1.block 1 (by rw [HNn.out]; omega))).trans (hG.refc j v h)⟩
        go_cut [8] (fun _ wc => Hid (Below (q + 1) w5 wc ∧ Blk wc (q + 1) 134 (us (rnds S W 64).l)))
        case first =>
          go_wp2_with fail
          obtain ⟨wo, hwo⟩ : ∃ wo : World, wo = wr := ⟨_, rfl⟩
          subst hwo
          go_loopg [8] 64 (fun g i wr => ∃ t : Nat, i = .int .i64 (t : Int) ∧ t ≤ 64 ∧ 64 - t ≤ g ∧ Hid (Below (q + 1) w5 wr ∧ Blk wr (q + 1) 134 (us (rnds S W t).l)))
          case atStart => exact ⟨0, rfl, by omega, by omega, Lib.hid ⟨Below.refl _ _, HW5.out.2.2.2.2.2⟩⟩
          case round =>
            obtain ⟨t, rfl, ht, hg2, HI⟩ := hrel
            by_cases ht64 : t < 64
            · have HV : Hid (rnds S W (t + 1) = rnd (rnds S W t) (Kc.getD t 0) (W.getD t 0)) := Lib.hid rfl
              have N1 := HI.out.2
              obtain ⟨V, hV⟩ : ∃ V, rnds S W t = V := ⟨_, rfl⟩
              rw [hV] at N1 HV
              obtain ⟨v0, v1, v2, v3, e0, e1, e2, e3⟩ := V
              have cw := ((blk_below HW5.out.2.2.2.2.1 HI.out.1 (by omega)).cell t).trans (us_blk t W hWl ht64)
              have cK : wr.cell? ⟨1, 0 + t, none⟩ = some (.int .u32 ((Kc.getD t 0).toNat : Int)) := (cell_same (HI.out.1.block 1 (by omega))).trans (HG5.out.refc t _ (us_blk t Kc rfl ht64))
              rw [Nat.zero_add] at cK
              obtain ⟨K, hK⟩ : ∃ k, Kc.getD t 0 = k := ⟨_, rfl⟩
              obtain ⟨wt, hwt⟩ : ∃ k, W.getD t 0 = k := ⟨_, rfl⟩
              rw [hK] at cK HV; rw [hwt] at cw HV
              have q0 : wr.cell? ⟨q + 1, 0, none⟩ = some (.int .u32 (v0.toNat : Int)) := N1.cell 0
              have q1 : wr.cell? ⟨q + 1, 1, none⟩ = some (.int .u32 (v1.toNat : Int)) := N1.cell 1
              have q2 : wr.cell? ⟨q + 1, 2, none⟩ = some (.int .u32 (v2.toNat : Int)) := N1.cell 2
              have q3 : wr.cell? ⟨q + 1, 3, none⟩ = some (.int .u32 (v3.toNat : Int)) := N1.cell 3
              have q4 : wr.cell? ⟨q + 1, 4, none⟩ = some (.int .u32 (e0.toNat : Int)) := N1.cell 4
              have q5 : wr.cell? ⟨q + 1, 5, none⟩ = some (.int .u32 (e1.toNat : Int)) := N1.cell 5
              have q6 : wr.cell? ⟨q + 1, 6, none⟩ = some (.int .u32 (e2.toNat : Int)) := N1.cell 6
              have q7 : wr.cell? ⟨q + 1, 7, none⟩ = some (.int .u32 (e3.toNat : Int)) := N1.cell 7
              have HB := Lib.hid HI.out.1
              have HN1 := Lib.hid N1
              clear N1 HI hV hK hwt HW5 HG5 HSt HCO HSS
              have hd : decide ((t : Int) < 64) = true := decide_eq_true (by omega)
              go_upto_region 11 with fail
              have x1 := xor32 (rot e0 6) (rot e0 11)
              have x2 : bits .xor .u32 ((xr (rot e0 6) (rot e0 11)).toNat : Int) ((rot e0 25).toNat : Int) = ((mx e0 6 11 25).toNat : Int) := by rw [mx_eq]; exact xor32 _ _
              have x3 := add32 e3 (mx e0 6 11 25)
              have x4 := and32 e0 e1
              have x5 := notX32 e0
              have x6 := and32 (nt e0) e2
              have x7 : bits .xor .u32 ((an e0 e1).toNat : Int) ((an (nt e0) e2).toNat : Int) = ((chF e0 e1 e2).toNat : Int) := xor32 _ _
              have x8 := add32 (ad e3 (mx e0 6 11 25)) (chF e0 e1 e2)
              have x9 := add32 (ad (ad e3 (mx e0 6 11 25)) (chF e0 e1 e2)) K
              have x10 := add32 (ad (ad (ad e3 (mx e0 6 11 25)) (chF e0 e1 e2)) K) wt
              have HX : Hid (xF (St.mk v0 v1 v2 v3 e0 e1 e2 e3) K wt = ad (ad (ad (ad e3 (mx e0 6 11 25)) (chF e0 e1 e2)) K) wt) := Lib.hid rfl
              obtain ⟨X, hX⟩ : ∃ X, ad (ad (ad (ad e3 (mx e0 6 11 25)) (chF e0 e1 e2)) K) wt = X := ⟨_, rfl⟩
              rw [hX] at x10 HX
              clear hX
              go_quiet (first
                | (with_reducible refine Calls.quiet_of (rotr_lit e0 6 6 (by decide) (by decide) (by decide) _))
                | (with_reducible refine Calls.quiet_of (rotr_lit e0 11 11 (by decide) (by decide) (by decide) _))
                | (with_reducible refine Calls.quiet_of (rotr_lit e0 25 25 (by decide) (by decide) (by decide) _)))
              clear x1 x2 x3 x4 x5 x6 x7 x8 x9 x10
              go_upto_region 12 with fail
              generalize hw6 : wr.drewN nq = w6
              have r0 : w6.cell? ⟨q + 1, 0, none⟩ = some (.int .u32 (v0.toNat : Int)) := by rw [← hw6]; exact q0
              have r1 : w6.cell? ⟨q + 1, 1, none⟩ = some (.int .u32 (v1.toNat : Int)) := by rw [← hw6]; exact q1
              have r2 : w6.cell? ⟨q + 1, 2, none⟩ = some (.int .u32 (v2.toNat : Int)) := by rw [← hw6]; exact q2
              have r3 : w6.cell? ⟨q + 1, 3, none⟩ = some (.int .u32 (v3.toNat : Int)) := by rw [← hw6]; exact q3
              have r4 : w6.cell? ⟨q + 1, 4, none⟩ = some (.int .u32 (e0.toNat : Int)) := by rw [← hw6]; exact q4
              have r5 : w6.cell? ⟨q + 1, 5, none⟩ = some (.int .u32 (e1.toNat : Int)) := by rw [← hw6]; exact q5
              have r6 : w6.cell? ⟨q + 1, 6, none⟩ = some (.int .u32 (e2.toNat : Int)) := by rw [← hw6]; exact q6
              have HB6 : Hid (Below (q + 1) w5 w6) := Lib.hid (by rw [← hw6]; exact below_drewN HB.out _)
              have HN6 : Hid (Blk w6 (q + 1) 134 (us (St.mk v0 v1 v2 v3 e0 e1 e2 e3).l)) := Lib.hid (by rw [← hw6]; exact HN1.out.drewN _)
              clear hw6 q0 q1 q2 q3 q4 q5 q6 q7 HB HN1 cK cw
              have y1 := and32 v0 v1
              have y2 := and32 v0 v2
              have y3 := xor32 (an v0 v1) (an v0 v2)
              have y4 := and32 v1 v2
              have y5 : bits .xor .u32 ((xr (an v0 v1) (an v0 v2)).toNat : Int) ((an v1 v2).toNat : Int) = ((maF v0 v1 v2).toNat : Int) := xor32 _ _
              have y6 := xor32 (rot v0 2) (rot v0 13)
              have y7 : bits .xor .u32 ((xr (rot v0 2) (rot v0 13)).toNat : Int) ((rot v0 22).toNat : Int) = ((mx v0 2 13 22).toNat : Int) := by rw [mx_eq]; exact xor32 _ _
              have y8 := add32 (mx v0 2 13 22) (maF v0 v1 v2)
              have HY : Hid (yF (St.mk v0 v1 v2 v3 e0 e1 e2 e3) = ad (mx v0 2 13 22) (maF v0 v1 v2)) := Lib.hid rfl
              obtain ⟨Y, hY⟩ : ∃ Y, ad (mx v0 2 13 22) (maF v0 v1 v2) = Y := ⟨_, rfl⟩
              rw [hY] at y8 HY
              clear hY
              go_quiet (first
                | (with_reducible refine Calls.quiet_of (rotr_lit v0 2 2 (by decide) (by decide) (by decide) _))
                | (with_reducible refine Calls.quiet_of (rotr_lit v0 13 13 (by decide) (by decide) (by decide) _))
                | (with_reducible refine Calls.quiet_of (rotr_lit v0 22 22 (by decide) (by decide) (by decide) _)))
              clear y1 y2 y3 y4 y5 y6 y7 y8
              go_upto_region 13 with fail
              generalize hw7 : w6.drewN nq = w7
              have s0 : w7.cell? ⟨q + 1, 0, none⟩ = some (.int .u32 (v0.toNat : Int)) := by rw [← hw7]; exact r0
              have s1 : w7.cell? ⟨q + 1, 1, none⟩ = some (.int .u32 (v1.toNat : Int)) := by rw [← hw7]; exact r1
              have s2 : w7.cell? ⟨q + 1, 2, none⟩ = some (.int .u32 (v2.toNat : Int)) := by rw [← hw7]; exact r2
              have s3 : w7.cell? ⟨q + 1, 3, none⟩ = some (.int .u32 (v3.toNat : Int)) := by rw [← hw7]; exact r3
              have s4 : w7.cell? ⟨q + 1, 4, none⟩ = some (.int .u32 (e0.toNat : Int)) := by rw [← hw7]; exact r4
              have s5 : w7.cell? ⟨q + 1, 5, none⟩ = some (.int .u32 (e1.toNat : Int)) := by rw [← hw7]; exact r5
              have s6 : w7.cell? ⟨q + 1, 6, none⟩ = some (.int .u32 (e2.toNat : Int)) := by rw [← hw7]; exact r6
              have HB7 : Hid (Below (q + 1) w5 w7) := Lib.hid (by rw [← hw7]; exact below_drewN HB6.out _)
              have HN7 : Hid (Blk w7 (q + 1) 134 (us (St.mk v0 v1 v2 v3 e0 e1 e2 e3).l)) := Lib.hid (by rw [← hw7]; exact HN6.out.drewN _)
              clear hw7 r0 r1 r2 r3 r4 r5 r6 HB6 HN6
              have z1 := add32 X Y
              have z2 := add32 v3 X
              go_wp2_with (first
                | ((with_reducible show wpList _ _ _ (⟨some 117, _, _, _, _, _⟩ :: _) _ _); go_must (refine wpList_build8 rfl (.tmp 100) (.tmp 102) (.tmp 104) (.tmp 106) (.tmp 110) (.tmp 112) (.tmp 114) (.tmp 116) rfl _ _ _ _ _ _ _ _ rfl rfl rfl rfl rfl rfl rfl rfl ?_))
                | ((with_reducible show wpList _ _ _ (⟨Option.none, .store _ (.tmp 7) _, _, _, _, _⟩ :: _) _ _)
                   go_must (refine wpList_storeBlk agg_8 w7 (q + 1) 134 _ HN7.out rfl (.tmp 7) (.tmp 117) rfl rfl (us [ad X Y, v0, v1, v2, ad v3 X, e0, e1, e2]) rfl rfl rfl (us_one _) ?_)
                   intro w8 hB8 hg8)
                | fail)
              go_roundg (64 - (t + 1))
              case measure => omega
              case rel =>
                refine ⟨t + 1, by go_num, by omega, by omega, Lib.hid ⟨HB7.out.grown hg8 (Nat.le_of_lt HN7.out.lt) (fun k hk => by have := Option.some.inj hk; omega), ?_⟩⟩
                rw [HV.out]
                unfold rnd
                rw [HX.out, HY.out]
                exact hB8
            · have ht' : t = 64 := by omega
              subst ht'
              have hd : decide ((((64 : Nat) : Int)) < 64) = false := by decide
              go_wp2_with fail
              go_meet
              case rel => exact HI
        case rest =>
          have HAD := Lib.hid (adG_eight S (rnds S W 64))
          have hLl : S.l.length = 8 := rfl
          have hVl : (rnds S W 64).l.length = 8 := rfl
          obtain ⟨V, hV⟩ : ∃ V, rnds S W 64 = V := ⟨_, rfl⟩
          rw [hV] at hcut HCO HAD hVl
          clear hV
          obtain ⟨LV, hLV⟩ : ∃ V', V.l = V' := ⟨_, rfl⟩
          rw [hLV] at hcut HAD hVl
          clear hLV
          have HCV : Hid (Blk wc n 41 (u8s (List.replicate 32 0)) ∧ Blk wc (n + 1) 134 (us S.l) ∧ Ext w wc ∧ wc.heap[b]? = w1.heap[b]? ∧ Blk wc (q + 1) 134 (us LV) ∧ b < wc.heap.size) := by
            refine Lib.hid ⟨blk_below HW5.out.1 hcut.out.1 (by omega), blk_below HW5.out.2.1 hcut.out.1 (by omega), Below.trans HW5.out.2.2.1 (hcut.out.1.mono (by rw [HNn.out]; omega)), (hcut.out.1.block b (by omega)).trans HW5.out.2.2.2.1, hcut.out.2, by have := hcut.out.2.lt; omega⟩
          obtain ⟨LS, hLS⟩ : ∃ V', S.l = V' := ⟨_, rfl⟩
          rw [hLS] at HCV HAD hLl
          clear HW5 HG5 hcut hLS
          go_wp2_with fail
          go_loopg [11] 8 (fun g i wr => ∃ j : Nat, i = .int .i64 (j : Int) ∧ j ≤ 8 ∧ 8 - j ≤ g ∧ Hid (wc.grownBy wr (some (n + 1)) ∧ Blk wr (n + 1) 134 (us (adG LS LV j))))
          case atStart => exact ⟨0, rfl, by omega, by omega, Lib.hid ⟨World.grownBy.refl _ _, HCV.out.2.1⟩⟩
          case round =>
            obtain ⟨j, rfl, hj, hjg, HI⟩ := hrel
            by_cases hj8 : j < 8
            · have hAl := adG_len LS LV hLl j
              have HA2 : Hid (adG LS LV (j + 1) = (adG LS LV j).set j (ad ((adG LS LV j).getD j 0) (LV.getD j 0))) := Lib.hid rfl
              have M1 := HI.out.2
              obtain ⟨T, hT⟩ : ∃ T, adG LS LV j = T := ⟨_, rfl⟩
              rw [hT] at M1 hAl HA2
              clear hT
              have b0 := (M1.cell j).trans (us_blk8 j T hAl (by omega))
              have b1 := ((HCV.out.2.2.2.2.1.grown HI.out.1 (by simp; omega)).cell j).trans (us_blk8 j LV hVl (by omega))
              have f0 := M1.free j
              obtain ⟨x, hx⟩ : ∃ x, T.getD j 0 = x := ⟨_, rfl⟩
              obtain ⟨y, hy⟩ : ∃ x, LV.getD j 0 = x := ⟨_, rfl⟩
              rw [hx] at b0 HA2; rw [hy] at b1 HA2
              clear hx hy
              have s1 := add32 x y
              have HM1 := Lib.hid M1
              have HGB := Lib.hid HI.out.1
              clear M1 HI
              have hd : decide ((j : Int) < 8) = true := decide_eq_true (by omega)
              go_upto_region 17 with fail
              go_region
              clear s1 b0 b1 f0
              go_wp2_with fail
              go_roundg (8 - (j + 1))
              case measure => omega
              case rel =>
                refine ⟨j + 1, by go_num, by omega, by omega, Lib.hid ⟨?_, ?_⟩⟩
                · exact grownBy_drewN (n := 1) (grownBy_trans HGB.out (grownBy_setCell _ _ _ _))
                · rw [HA2.out, us_set]
                  exact (HM1.out.set j _).drew
            · have hj8' : j = 8 := by omega
              subst hj8'
              have hd : decide ((((8 : Nat) : Int)) < 8) = false := by decide
              go_wp2_with fail
              go_roundg (M - (a + 64) + 1)
              case measure => omega
              case rel =>
                refine ⟨k + 1, a + 64, by go_num, Lib.hid (by rw [HA.out]; omega), ha64, by omega, Lib.hid ⟨HCV.out.1.grown HI.out.1 (by simp), ?_, ?_, ?_, ?_⟩⟩
                · rw [HSt.out, HCO.out, ← HAD.out]
                  exact HI.out.2
                · exact HCV.out.2.2.1.grown HI.out.1 HCV.out.2.2.1.size (fun k hk => by have := Option.some.inj hk; rw [HNn.out]; omega)
                · exact (HI.out.1.block b HCV.out.2.2.2.2.2 (by simp; omega)).trans HCV.out.2.2.2.1
                · exact Nat.lt_of_lt_of_le HCV.out.2.2.2.2.2 HI.out.1.size
      · have hMa : a = M := by omega
        subst hMa
        go_wp2_with fail
        go_meet
        case rel =>
          have hk : a / 64 = k := by rw [HA.out]; omega
          rw [hk]
          exact Lib.hid ⟨HH.out.1, HH.out.2.1, HH.out.2.2.1⟩
  case rest =>
    have HLo : Hid (∀ j : Nat, j < 32 → (outF (shaSt P (M / 64)).l)[j]? = some (outB (shaSt P (M / 64)).l j)) := Lib.hid (fun j hj => by simp [outF, hj])
    have hol := outF_length (shaSt P (M / 64)).l
    have hLl : (shaSt P (M / 64)).l.length = 8 := rfl
    obtain ⟨L, hL⟩ : ∃ L, (shaSt P (M / 64)).l = L := ⟨_, rfl⟩
    rw [hL] at HLo hol hLl HSH hcut
    have HOL := Lib.hid hol
    clear hL hol
    go_wp2_with fail
    have HW : Hid (Blk (wc.alloc (Obj.cells (u8s (List.replicate 32 0)).toArray 41)) n 41 (u8s (List.replicate 32 0)) ∧ Blk (wc.alloc (Obj.cells (u8s (List.replicate 32 0)).toArray 41)) (n + 1) 134 (us L) ∧ Ext w (wc.alloc (Obj.cells (u8s (List.replicate 32 0)).toArray 41)) ∧ Blk (wc.alloc (Obj.cells (u8s (List.replicate 32 0)).toArray 41)) wc.heap.size 41 (u8s (List.replicate 32 0))) :=
      Lib.hid ⟨hcut.out.1.alloc _, hcut.out.2.1.alloc _, hcut.out.2.2.alloc _, Blk.new wc _ 41⟩
    have hnz : n + 1 < wc.heap.size := hcut.out.2.1.lt
    generalize hwd : wc.alloc (Obj.cells (u8s (List.replicate 32 0)).toArray 41) = wd at HW
    have hwd' : wc.alloc (Obj.cells #[Value.int IntKind.u8 0, Value.int IntKind.u8 0, Value.int IntKind.u8 0, Value.int IntKind.u8 0,
      Value.int IntKind.u8 0, Value.int IntKind.u8 0, Value.int IntKind.u8 0, Value.int IntKind.u8 0,
      Value.int IntKind.u8 0, Value.int IntKind.u8 0, Value.int IntKind.u8 0, Value.int IntKind.u8 0,
      Value.int IntKind.u8 0, Value.int IntKind.u8 0, Value.int IntKind.u8 0, Value.int IntKind.u8 0,
      Value.int IntKind.u8 0, Value.int IntKind.u8 0, Value.int IntKind.u8 0, Value.int IntKind.u8 0,
      Value.int IntKind.u8 0, Value.int IntKind.u8 0, Value.int IntKind.u8 0, Value.int IntKind.u8 0,
      Value.int IntKind.u8 0, Value.int IntKind.u8 0, Value.int IntKind.u8 0, Value.int IntKind.u8 0,
      Value.int IntKind.u8 0, Value.int IntKind.u8 0, Value.int IntKind.u8 0, Value.int IntKind.u8 0] 41) = wd := hwd
    simp only [hwd']
    clear hwd hwd' hcut
    generalize wc.heap.size = o at HW hnz ⊢
    go_loopg [13] 32 (fun g i wr => ∃ j : Nat, i = .int .i64 (j : Int) ∧ j ≤ 32 ∧ 32 - j ≤ g ∧ Hid (wd.grownBy wr (some o) ∧ Blk wr o 41 (u8s ((outF L).take j ++ List.replicate (32 - j) 0))))
    case atStart => exact ⟨0, rfl, by omega, by omega, Lib.hid ⟨World.grownBy.refl _ _, HW.out.2.2.2⟩⟩
    case round =>
      obtain ⟨j, rfl, hj, hjg, HI⟩ := hrel
      by_cases hj32 : j < 32
      · have hd : decide ((j : Int) < 32) = true := decide_eq_true (by omega)
        have b0 := ((HW.out.2.1.grown HI.out.1 (by simp; omega)).cell (j / 4)).trans (us_blk8 (j / 4) L hLl (by omega))
        have f0 := HI.out.2.free j
        have hc0 : wr.cell? ⟨o, j, none⟩ = some (.int .u8 0) := by
          rw [HI.out.2.cell]
          simp only [u8s, List.getElem?_map]
          rw [List.getElem?_append_right (by rw [List.length_take, HOL.out]; omega), List.length_take, HOL.out, show j - min j 32 = 0 from by omega, show 32 - j = (32 - j - 1) + 1 from by omega, List.replicate_succ]
          rfl
        have HO := Lib.hid (HLo.out j hj32)
        obtain ⟨d, hdd⟩ : ∃ d, outB L j = d := ⟨_, rfl⟩
        rw [hdd] at HO
        unfold outB at hdd
        obtain ⟨x, hx⟩ : ∃ x, L.getD (j / 4) 0 = x := ⟨_, rfl⟩
        rw [hx] at b0 hdd
        have s1 := shr32 x (24 - 8 * (j % 4)) (by omega)
        have s2 : ((sr x (24 - 8 * (j % 4))).toNat : Int) % 256 = (d.toNat : Int) := by
          rw [← hdd, UInt8.toNat_ofNat']; omega
        clear hx hdd
        go_wp2_with fail
        go_roundg (32 - (j + 1))
        case measure => omega
        case rel =>
          refine ⟨j + 1, by go_num, by omega, by omega, Lib.hid ⟨grownBy_trans HI.out.1 (grownBy_setCell _ _ _ _), ?_⟩⟩
          have h1 := HI.out.2.set j (.int .u8 (d.toNat : Int))
          rw [← u8s_set, fill_set HOL.out hj32 HO.out] at h1
          exact h1
      · have hj8' : j = 32 := by omega
        subst hj8'
        have hd : decide ((((32 : Nat) : Int)) < 32) = false := by decide
        have hB := HI.out.2
        rw [Nat.sub_self, List.replicate_zero, List.append_nil, List.take_of_length_le (by rw [HOL.out]; exact Nat.le_refl _)] at hB
        have HB := Lib.hid hB
        have HNB := Lib.hid (HW.out.1.grown HI.out.1 (by simp; omega))
        clear hB
        go_wp2_with (first
          | ((with_reducible show wpList _ _ _ (⟨some 147, _, _, _, _, _⟩ :: _) _ _); go_must (refine wpList_loadAgg agg_32 wr rfl (.tmp 12) rfl o 0 rfl (u8s (outF L)) (by rw [u8s_length, HOL.out]) HB.out.agg ?_))
          | ((with_reducible show wpList _ _ _ (⟨Option.none, _, _, _, _, _⟩ :: _) _ _); go_must (refine wpList_storeBlk agg_32 wr n 41 _ HNB.out rfl (.tmp 2) (.tmp 147) rfl rfl (u8s (outF L)) rfl (by rw [u8s_length, HOL.out]) rfl (u8s_one _) ?_); intro w9 hB9 hg9))
        refine bodyPost_ret (results_cell rfl agg_32 _ w9 n rfl (u8s (outF L)) (by rw [u8s_length, HOL.out]) 41 hB9) rfl ?_
        refine ⟨by rw [HSH.out], ?_⟩
        have E8 : Ext w wr := Below.grown HW.out.2.2.1 HI.out.1 HW.out.2.2.1.size (fun k hk => by have := Option.some.inj hk; rw [HNn.out]; omega)
        exact Below.grown E8 hg9 E8.size (fun k hk => by have := Option.some.inj hk; rw [HNn.out]; omega)
end Go.Proofs.YtcjeclddpkinkaaDoor
