/- The contract of VerifyPrefix. -/
import Derived.Test.YtcjeclddpkinkaaDoorD30
set_option linter.unusedSimpArgs false
set_option linter.unusedVariables false
namespace Go.Proofs.YtcjeclddpkinkaaDoor
open Go.RowKit
open Wz (Dg)

theorem exec_eqlD_ne {o : Oper} {a : Act} {x y : Operand} {p q : Dg} (h : p ≠ q) (ho : o.op = .binOp .eql 45 x y 45) (hx : a.eval x = dgV p) (hy : a.eval y = dgV q) (w : World) : (execOp a.eval o).run Tryd.prog w = .ok (.value (.bool false)) w := by
  have h1 := exec_eqlD ho hx hy w
  rwa [decide_eq_false h] at h1
theorem exec_loadD {o : Oper} {a : Act} {x : Operand} {d : Dg} {w : World} {b off : Nat} (ho : o.op = .load 45 x) (hx : a.eval x = .pointer (some ⟨b, off, none⟩)) (hc : ∀ j u, (u8s d.1)[j]? = some u → w.cell? ⟨b, off + j, none⟩ = some u) : (execOp a.eval o).run Tryd.prog w = .ok (.value (dgV d)) w := by
  unfold execOp
  rw [ho]
  simp only [Sem.run_bind, Sem.run_pure, hx, run_loadAgg agg_dg w b off (u8s d.1) (dg_len d) hc, Result.andThen]
theorem mask_storeD {ops : Array Oper} {C : World → Prop} {Q : Exit → Act → World → Prop} {o : Oper} {a : Act} {w : World} {K : Act → World → Prop} {r : List (Bool × Oper)} (hgd : o.guard = none) (p x : Operand) (ho : o.op = .store 45 p x) (g : Nat) (old d : Dg) (hB : Blk w g 45 (u8s old.1)) (hp : a.eval p = .pointer (some ⟨g, 0, none⟩)) (hx : a.eval x = dgV d)
    (h : ∀ w', Blk w' g 45 (u8s d.1) → w.grownBy w' (some g) → C w' ∧ wpMask Tryd.prog ops Q C K r (a.put o.dst undef) w') : wpMask Tryd.prog ops Q C K ((false, o) :: r) a w := by
  have hr := run_storeAgg agg_dg w g 0 45 (u8s old.1).toArray hB (u8s d.1) (dg_len d) (u8s_one _) (by simp [dg_len])
  rw [List.take_zero, List.nil_append, Nat.zero_add, List.drop_of_length_le (by simp [dg_len]), List.append_nil] at hr
  refine ⟨hgd, ?_⟩
  have hrun : (execOp a.eval o).run Tryd.prog w = .ok .skip (w.setRow g (u8s d.1).toArray) := by
    unfold execOp
    rw [ho]
    simp only [Sem.run_bind, Sem.run_pure, hp, hx, hr, Result.andThen]
  unfold Oper.wp
  rw [hrun]
  exact h _ (setRow_self w g _ _ 45 hB) ⟨rfl, rfl, rfl, by rw [setRow_size]; exact Nat.le_refl _, fun i hi hne => setRow_heap w g i _ (fun e => hne (by rw [e]))⟩

abbrev GloE (w w' : World) : Prop := Ext w w'
structure Vp2 (w wr : World) (B g14 : Nat) (old root x : Dg) (vD : Value) (D : List Bool) : Prop where
  b0 : Blk wr B 45 (u8s old.1)
  b1 : Blk wr (B + 1) 45 (u8s root.1)
  bx : Blk wr g14 45 (u8s x.1)
  dz : OwnZ wr (B + 2) vD D
  ext : Ext w wr
theorem exec_eqlD_eq {o : Oper} {a : Act} {x y : Operand} {p q : Dg} (h : p = q) (ho : o.op = .binOp .eql 45 x y 45) (hx : a.eval x = dgV p) (hy : a.eval y = dgV q) (w : World) : (execOp a.eval o).run Tryd.prog w = .ok (.value (.bool true)) w := by
  have h1 := exec_eqlD ho hx hy w
  rwa [decide_eq_true h] at h1
structure VpR (w wr : World) (B g14 g15 : Nat) (old root x y : Dg) (vD : Value) (D : List Bool) : Prop where
  b0 : Blk wr B 45 (u8s old.1)
  b1 : Blk wr (B + 1) 45 (u8s root.1)
  bx : Blk wr g14 45 (u8s x.1)
  by' : Blk wr g15 45 (u8s y.1)
  dz : OwnZ wr (B + 2) vD D
  ext : Ext w wr
theorem ownZ_ne {w : World} {base g : Nat} {v : Value} {l : List Bool} {cs : List Value} (h : OwnZ w base v l) (hB : Blk w g 45 cs) : v.ownBlock = none ∨ v.ownBlock ≠ some g := by
  rcases h.2 with ⟨rfl, _⟩ | ⟨g1, c1, cur1, rfl, _, hg1, _⟩
  · exact .inl rfl
  · right
    simp only [Value.ownBlock, ne_eq, Option.some.injEq]
    rintro rfl
    rw [hB] at hg1
    simp only [Option.some.injEq, Obj.cells.injEq] at hg1
    exact absurd hg1.2.1 (by decide)
theorem VpR.ext' {w wr w' : World} {B g14 g15 : Nat} {old root x y : Dg} {vD : Value} {D : List Bool} (h : VpR w wr B g14 g15 old root x y vD D) (E : Ext wr w') : VpR w w' B g14 g15 old root x y vD D :=
  ⟨h.b0.below E, h.b1.below E, h.bx.below E, h.by'.below E, h.dz.below E, h.ext.trans E⟩
theorem VpR.st14 {w wr w' : World} {B g14 g15 : Nat} {old root x y z : Dg} {vD : Value} {D : List Bool} (h : VpR w wr B g14 g15 old root x y vD D) (hw : w.heap.size ≤ B) (h1 : B + 2 ≤ g14) (h3 : g14 ≠ g15) (hB : Blk w' g14 45 (u8s z.1)) (hg : wr.grownBy w' (some g14)) : VpR w w' B g14 g15 old root z y vD D :=
  ⟨h.b0.grown hg (by simp; omega), h.b1.grown hg (by simp; omega), hB, h.by'.grown hg (by simp; omega), h.dz.kept hg (ownZ_ne h.dz h.bx), h.ext.grown hg h.ext.size (fun k hk => by have := Option.some.inj hk; omega)⟩
theorem VpR.st15 {w wr w' : World} {B g14 g15 : Nat} {old root x y z : Dg} {vD : Value} {D : List Bool} (h : VpR w wr B g14 g15 old root x y vD D) (hw : w.heap.size ≤ B) (h1 : B + 2 ≤ g15) (h3 : g14 ≠ g15) (hB : Blk w' g15 45 (u8s z.1)) (hg : wr.grownBy w' (some g15)) : VpR w w' B g14 g15 old root x z vD D :=
  ⟨h.b0.grown hg (by simp; omega), h.b1.grown hg (by simp; omega), h.bx.grown hg (by simp; omega), hB, h.dz.kept hg (ownZ_ne h.dz h.by'), h.ext.grown hg h.ext.size (fun k hk => by have := Option.some.inj hk; omega)⟩

def vpZ (old root : Dg) (m n : Int) (L : List Dg) : Bool := if m < 1 ∨ n < m then false else Mk.vpF shF old root m.toNat n.toNat L

set_option maxRecDepth 100000 in
set_option maxHeartbeats 400000 in
theorem vp_bad (old root : Dg) (m n : Int) (A : Option Addr) (N c : Nat) (w : World) (hi : m < 1 ∨ n < m) :
    Calls Tryd.prog 47 #[dgV old, dgV root, .int .i64 m, .int .i64 n, .slice A N c] w (fun e w' => e = .returned (.bool false) ∧ Ext w w') := by
  by_cases h0 : m < 1
  · have hd : decide (m < 1) = true := decide_eq_true h0
    clear hi h0
    go_enter Tryd.func47, Tryd.ntmps47
    go_wp2_with (first
      | ((with_reducible show wpList _ _ _ (⟨some 5, _, _, _, _, _⟩ :: _) _ _); go_must (refine wpList_boxAgg 45 _ rfl (.tmp 0) rfl _ rfl ?_))
      | ((with_reducible show wpList _ _ _ (⟨some 6, _, _, _, _, _⟩ :: _) _ _); go_must (refine wpList_boxAgg 45 _ rfl (.tmp 1) rfl _ rfl ?_)))
    go_ret
    exact ⟨rfl, ((Ext.refl w).alloc _).alloc _⟩
  · have hd : decide (m < 1) = false := decide_eq_false h0
    have hd2 : decide (m > n) = true := decide_eq_true (by omega)
    have hd3 : decide (n < m) = true := decide_eq_true (by omega)
    clear hi h0
    go_enter Tryd.func47, Tryd.ntmps47
    go_wp2_with (first
      | ((with_reducible show wpList _ _ _ (⟨some 5, _, _, _, _, _⟩ :: _) _ _); go_must (refine wpList_boxAgg 45 _ rfl (.tmp 0) rfl _ rfl ?_))
      | ((with_reducible show wpList _ _ _ (⟨some 6, _, _, _, _, _⟩ :: _) _ _); go_must (refine wpList_boxAgg 45 _ rfl (.tmp 1) rfl _ rfl ?_)))
    go_ret
    exact ⟨rfl, ((Ext.refl w).alloc _).alloc _⟩

def vpTail (old root : Dg) (D : List Bool) (wh : Bool) (L : List Dg) : Bool :=
  if wh then (if L.length = D.length then decide (Mk.foldP shF old (D.zip L) = (old, root)) else false)
  else match L with
    | [] => false
    | p :: ps => if ps.length = D.length then decide (Mk.foldP shF p (D.zip ps) = (old, root)) else false
theorem vpF_tail (old root : Dg) {m n : Nat} (L : List Dg) (hm : 1 ≤ m) (hmn : m ≤ n) : Mk.vpF shF old root m n L = vpTail old root (Mk.pdirs n m true).1 (Mk.pdirs n m true).2 L := by
  unfold Mk.vpF vpTail
  rw [if_neg (by omega)]
  rfl
/-- what the first loop keeps -/
structure Vp1 (w wr : World) (B : Nat) (old root : Dg) (D : List Bool) (wh : Bool) (m n : Nat) (b : Bool) (v : Value) (out : List Bool) : Prop where
  b0 : Blk wr B 45 (u8s old.1)
  b1 : Blk wr (B + 1) 45 (u8s root.1)
  dz : OwnZ wr (B + 2) v out
  ext : Ext w wr
  eq : (Mk.pdirs n m b).1 ++ out.reverse = D
  eqw : (Mk.pdirs n m b).2 = wh

set_option maxRecDepth 100000 in
set_option maxHeartbeats 2000000 in
theorem vp_good (old root : Dg) (m n : Nat) (A : Option Addr) (N c : Nat) (L : List Dg) (w : World) (hr : Rd w A (dgs L)) (hL : L.length = N) (hc : N ≤ c) (hN : N ≤ 1000) (hm : 1 ≤ m) (hmn : m ≤ n) (hn : n ≤ 9223372036854775807) (hG : Glo w) :
    Calls Tryd.prog 47 #[dgV old, dgV root, .int .i64 (m : Int), .int .i64 (n : Int), .slice A N c] w (fun e w' => e = .returned (.bool (Mk.vpF shF old root m n L)) ∧ Ext w w') := by
  have hD63 := Mk.pdirs_len 63 n m true (by omega) hm
  have HV : Hid (Mk.vpF shF old root m n L = vpTail old root (Mk.pdirs n m true).1 (Mk.pdirs n m true).2 L) := Lib.hid (vpF_tail old root L hm hmn)
  have H1 : (Mk.pdirs n m true).1 ++ ([] : List Bool).reverse = (Mk.pdirs n m true).1 := by simp
  obtain ⟨D, hD⟩ : ∃ r, (Mk.pdirs n m true).1 = r := ⟨_, rfl⟩
  obtain ⟨wh, hwh⟩ : ∃ r, (Mk.pdirs n m true).2 = r := ⟨_, rfl⟩
  rw [hD, hwh] at HV
  rw [hD] at hD63
  have HDD := Lib.hid hD
  have HDW := Lib.hid hwh
  obtain ⟨r, hrr⟩ : ∃ r, Mk.vpF shF old root m n L = r := ⟨_, rfl⟩
  rw [hrr] at HV ⊢
  have hd : decide ((m : Int) < 1) = false := by rw [decide_eq_false_iff_not]; omega
  have hd2 : decide ((m : Int) > (n : Int)) = false := by rw [decide_eq_false_iff_not]; omega
  have hd2n : decide (n < m) = false := by rw [decide_eq_false_iff_not]; omega
  obtain ⟨B, hB⟩ : ∃ B, w.heap.size = B := ⟨_, rfl⟩
  have hwB : w.heap.size ≤ B := by omega
  have HRD := Lib.hid hr
  have HL := Lib.hid hL
  have HG := Lib.hid hG
  have HB : Hid (Blk ((w.alloc (Obj.cells (u8s old.1).toArray 45)).alloc (Obj.cells (u8s root.1).toArray 45)) B 45 (u8s old.1) ∧ Blk ((w.alloc (Obj.cells (u8s old.1).toArray 45)).alloc (Obj.cells (u8s root.1).toArray 45)) (B + 1) 45 (u8s root.1) ∧ Ext w ((w.alloc (Obj.cells (u8s old.1).toArray 45)).alloc (Obj.cells (u8s root.1).toArray 45))) := by
    subst hB
    refine Lib.hid ⟨(Blk.new w _ 45).alloc _, ?_, ((Ext.refl w).alloc _).alloc _⟩
    have := Blk.new (w.alloc (Obj.cells (u8s old.1).toArray 45)) (u8s root.1) 45
    rwa [World.size_alloc] at this
  clear hr hL hG hrr hD hwh H1
  go_enter Tryd.func47, Tryd.ntmps47
  go_upto_region 1 with (first
      | ((with_reducible show wpList _ _ _ (⟨some 5, _, _, _, _, _⟩ :: _) _ _); go_must (refine wpList_boxAgg 45 _ rfl (.tmp 0) rfl _ rfl ?_))
      | ((with_reducible show wpList _ _ _ (⟨some 6, _, _, _, _, _⟩ :: _) _ _); go_must (refine wpList_boxAgg 45 _ rfl (.tmp 1) rfl _ rfl ?_)))
  generalize (w.alloc (Obj.cells (u8s old.1).toArray 45)).alloc (Obj.cells (u8s root.1).toArray 45) = w1 at HB ⊢
  clear hB
  go_wp2_with fail
  go_loopg [2, 3, 11, 12] n (fun gk s2 s3 s11 s12 wr => ∃ (m' n' : Nat) (b : Bool) (out : List Bool), s2 = .int .i64 (m' : Int) ∧ s3 = .int .i64 (n' : Int) ∧ s12 = .bool b ∧ 1 ≤ m' ∧ m' ≤ n' ∧ n' ≤ n ∧ n' ≤ gk ∧ out.length ≤ 63 ∧ Hid (Vp1 w wr B old root D wh m' n' b s11 out))
  case atStart => exact ⟨m, n, true, [], rfl, rfl, rfl, hm, hmn, Nat.le_refl _, Nat.le_refl _, by simp, Lib.hid ⟨HB.out.1, HB.out.2.1, OwnZ.nil _ _, HB.out.2.2, by rw [HDD.out]; simp, HDW.out⟩⟩
  case round =>
    obtain ⟨m', n', b, out, rfl, rfl, rfl, hm1, hmn1, hnn, hgk, h63, HI⟩ := hrel
    obtain ⟨A3, c3, rfl, _, _, _⟩ := HI.out.dz.slice
    by_cases hlt : m' < n'
    · have hd3 : decide ((m' : Int) < (n' : Int)) = true := decide_eq_true (by omega)
      have h2 : 2 ≤ n' := by omega
      have hkl := Mk.sp_lt h2
      have hkp := Mk.sp_pos n'
      have HPL := Lib.hid fun h => Mk.pdirs_left (n := n') (m := m') hlt hm1 h b
      have HPR := Lib.hid fun h => Mk.pdirs_right (n := n') (m := m') hlt h b
      have HSP := Lib.hid fun w => split_calls n' h2 (by omega) w
      obtain ⟨k, hk⟩ : ∃ k, Mk.sp n' = k := ⟨_, rfl⟩
      rw [hk] at hkl hkp HPL HPR
      simp only [hk] at HSP
      clear hk
      by_cases hik : m' ≤ k
      · have hdk : decide ((m' : Int) ≤ (k : Int)) = true := decide_eq_true (by omega)
        have hdg : decide ((m' : Int) > (k : Int)) = false := by rw [decide_eq_false_iff_not]; omega
        have hdgn : decide (k < m') = false := by rw [decide_eq_false_iff_not]; omega
        have hE := HPL.out hik
        have HEQ : Hid ((Mk.pdirs k m' b).1 ++ [false] ++ out.reverse = D ∧ (Mk.pdirs k m' b).2 = wh) := Lib.hid ⟨by have := HI.out.eq; rwa [hE] at this, by have := HI.out.eqw; rwa [hE] at this⟩
        have hl63 : out.length + 1 ≤ 63 := by
          have := congrArg List.length HEQ.out.1
          simp only [List.length_append, List.length_reverse, List.length_singleton] at this
          omega
        clear hE HPL HPR
        go_wp2_with (first
          | ((with_reducible refine (HSP.out _).mono ?_); rintro e w2 ⟨rfl, rfl⟩)
          | ((with_reducible show wpList _ _ _ (⟨some 34, _, _, _, _, _⟩ :: _) _ _)
             have HO3 := Lib.hid (HI.out.dz.alloc (.cells #[.bool false] 4)); have HN3 := Lib.hid (Blk.new wr [.bool false] 4).rd; have E3 := (Ext.refl wr).alloc (.cells #[.bool false] 4); have hsz3 := HI.out.b1.lt; have hsz3' := E3.size
             go_must (refine wpList_value rfl (exec_build rfl rfl (run_buildZ false wr)) ?_))
          | ((with_reducible show wpList _ _ _ (⟨some 35, _, _, _, _, _⟩ :: _) _ _)
             go_must (refine wpList_appZ _ rfl (.tmp 30) (.tmp 34) rfl (B + 2) _ out rfl HO3.out _ 1 1 [false] rfl rfl HN3.out (by omega) (by omega) ?_)
             intro v5 w5 ho5 hg5 hbl5
             have HI5 : Hid (Vp1 w w5 B old root D wh m' k b v5 (out ++ [false])) := Lib.hid ⟨(HI.out.b0.below E3).grown hg5 (by intro e; have := (HO3.out.base_le B e.symm).1; omega), (HI.out.b1.below E3).grown hg5 (by intro e; have := (HO3.out.base_le (B + 1) e.symm).1; omega), ho5, hbl5 _ _ (by omega) (HI.out.ext.trans E3), by rw [List.reverse_append, ← List.append_assoc]; exact HEQ.out.1, HEQ.out.2⟩
             obtain ⟨A5, c5, rfl, _, _, _⟩ := ho5.slice
             rw [List.length_append, List.length_singleton] at HI5)
          | fail)
        go_roundg k
        case measure => omega
        case rel => exact ⟨m', k, b, out ++ [false], rfl, rfl, rfl, hm1, hik, by omega, by omega, by rw [List.length_append, List.length_singleton]; omega, HI5⟩
      · have hdk : decide ((m' : Int) ≤ (k : Int)) = false := by rw [decide_eq_false_iff_not]; omega
        have hdg : decide ((m' : Int) > (k : Int)) = true := decide_eq_true (by omega)
        have hdgn : decide (k < m') = true := decide_eq_true (by omega)
        have hs1 : (m' : Int) - (k : Int) = ((m' - k : Nat) : Int) := by omega
        have hs2 : (n' : Int) - (k : Int) = ((n' - k : Nat) : Int) := by omega
        have hE := HPR.out (by omega)
        have HEQ : Hid ((Mk.pdirs (n' - k) (m' - k) false).1 ++ [true] ++ out.reverse = D ∧ (Mk.pdirs (n' - k) (m' - k) false).2 = wh) := Lib.hid ⟨by have := HI.out.eq; rwa [hE] at this, by have := HI.out.eqw; rwa [hE] at this⟩
        have hl63 : out.length + 1 ≤ 63 := by
          have := congrArg List.length HEQ.out.1
          simp only [List.length_append, List.length_reverse, List.length_singleton] at this
          omega
        clear hE HPL HPR
        go_wp2_with (first
          | ((with_reducible refine (HSP.out _).mono ?_); rintro e w2 ⟨rfl, rfl⟩)
          | ((with_reducible show wpList _ _ _ (⟨some 34, _, _, _, _, _⟩ :: _) _ _)
             have HO3 := Lib.hid (HI.out.dz.alloc (.cells #[.bool true] 4)); have HN3 := Lib.hid (Blk.new wr [.bool true] 4).rd; have E3 := (Ext.refl wr).alloc (.cells #[.bool true] 4); have hsz3 := HI.out.b1.lt; have hsz3' := E3.size
             go_must (refine wpList_value rfl (exec_build rfl rfl (run_buildZ true wr)) ?_))
          | ((with_reducible show wpList _ _ _ (⟨some 35, _, _, _, _, _⟩ :: _) _ _)
             go_must (refine wpList_appZ _ rfl (.tmp 30) (.tmp 34) rfl (B + 2) _ out rfl HO3.out _ 1 1 [true] rfl rfl HN3.out (by omega) (by omega) ?_)
             intro v5 w5 ho5 hg5 hbl5
             have HI5 : Hid (Vp1 w w5 B old root D wh (m' - k) (n' - k) false v5 (out ++ [true])) := Lib.hid ⟨(HI.out.b0.below E3).grown hg5 (by intro e; have := (HO3.out.base_le B e.symm).1; omega), (HI.out.b1.below E3).grown hg5 (by intro e; have := (HO3.out.base_le (B + 1) e.symm).1; omega), ho5, hbl5 _ _ (by omega) (HI.out.ext.trans E3), by rw [List.reverse_append, ← List.append_assoc]; exact HEQ.out.1, HEQ.out.2⟩
             obtain ⟨A5, c5, rfl, _, _, _⟩ := ho5.slice
             rw [List.length_append, List.length_singleton] at HI5)
          | fail)
        go_roundg (n' - k)
        case measure => omega
        case rel => exact ⟨m' - k, n' - k, false, out ++ [true], by go_num, by go_num, rfl, by omega, by omega, by omega, by omega, by rw [List.length_append, List.length_singleton]; omega, HI5⟩
    · have hmn' : m' = n' := by omega
      subst hmn'
      have hd3 : decide ((m' : Int) < (m' : Int)) = false := by simp
      have heq := HI.out.eq
      have heqw := HI.out.eqw
      rw [Mk.pdirs_end (Nat.le_refl _)] at heq heqw
      simp only [List.nil_append] at heq heqw
      subst heqw
      have hol : out.length = D.length := by rw [← heq, List.length_reverse]
      have HRV := Lib.hid (reverseb_own (B + 2) _ out wr HI.out.dz (by omega))
      rw [heq, hol] at HRV
      obtain ⟨M, hM⟩ : ∃ M, D.length = M := ⟨_, rfl⟩
      simp only [hol, hM] at HRV HI hD63 ⊢
      have HM := Lib.hid hM
      clear heq hol hM
      go_upto_region 13 with (first
        | ((with_reducible refine HRV.out.mono ?_); rintro e w3 ⟨⟨v1, rfl⟩, ho3, hg3⟩
           have hb03 := HI.out.b0.grown hg3 (by intro e; have := (HI.out.dz.base_le B e.symm).1; omega)
           have hb13 := HI.out.b1.grown hg3 (by intro e; have := (HI.out.dz.base_le (B + 1) e.symm).1; omega)
           have E3 : Ext w w3 := HI.out.ext.grown hg3 HI.out.ext.size (fun k hk => by have := (HI.out.dz.base_le k hk).1; omega))
        | ((with_reducible show wpList _ _ _ (⟨some 48, _, _, _, _, _⟩ :: _) _ _); go_must (refine wpList_loadAgg agg_dg w3 rfl (.tmp 5) rfl B 0 rfl (u8s old.1) (dg_len old) hb03.at0 ?_))
        | ((with_reducible show wpList _ _ _ (⟨Option.none, .store _ (.tmp 14) _, _, _, _, _⟩ :: _) _ _); go_must (refine wpList_storeNew agg_dg w3 _ 45 rfl (.tmp 14) (.tmp 48) rfl rfl (u8s old.1) rfl (dg_len old) rfl (u8s_one _) ?_))
        | fail)
      have HW4 : Hid (Vp2 w (w3.alloc (.cells (u8s old.1).toArray 45)) B w3.heap.size old root old (.slice A3 M c3) D) := Lib.hid ⟨hb03.alloc _, hb13.alloc _, Blk.new _ _ _, ho3.alloc _, E3.alloc _⟩
      have h14B : B + 2 ≤ w3.heap.size := hb13.lt
      generalize w3.alloc (.cells (u8s old.1).toArray 45) = w4 at HW4 ⊢
      obtain ⟨g14, hg14⟩ : ∃ g, w3.heap.size = g := ⟨_, rfl⟩
      rw [hg14] at HW4 h14B ⊢
      clear hg14 hb03 hb13 ho3 E3 hg3 HRV HI
      cases b with
      | true =>
        obtain ⟨w5, hw5⟩ : ∃ w5, w4 = w5 := ⟨_, rfl⟩
        obtain ⟨x0, hx0⟩ : ∃ x0, old = x0 := ⟨_, rfl⟩
        obtain ⟨Lp, hLp⟩ : ∃ Lp, L = Lp := ⟨_, rfl⟩
        have HVT : Hid (r = if Lp.length = D.length then decide (Mk.foldP shF x0 (D.zip Lp) = (old, root)) else false) := Lib.hid (by rw [← hx0, ← hLp]; exact HV.out)
        have HW5 : Hid (Vp2 w w5 B g14 old root x0 (.slice A3 M c3) D) := Lib.hid (by rw [← hx0, ← hw5]; exact HW4.out)
        have HRL : Hid (Rd w A (dgs Lp)) := Lib.hid (by rw [← hLp]; exact HRD.out)
        have HLP : Hid (Lp.length = N) := Lib.hid (by rw [← hLp]; exact HL.out)
        rw [hw5]
        clear hw5 hx0 hLp HW4 HV HRD HL
        obtain ⟨N4, hN4⟩ : ∃ N4, N = N4 := ⟨_, rfl⟩
        rw [hN4] at HLP hN hc ⊢
        clear hN4
        by_cases hq : N4 = M
        · have hNe : (((N4 : Nat) : Int) == ((M : Nat) : Int)) = true := by rw [beq_iff_eq]; omega
          go_upto_region 20 with (first
            | ((with_reducible show wpList _ _ _ (⟨some 64, _, _, _, _, _⟩ :: _) _ _); go_must (refine wpList_loadAgg agg_dg w5 rfl (.tmp 14) rfl g14 0 rfl (u8s x0.1) (dg_len x0) HW5.out.bx.at0 ?_))
            | ((with_reducible show wpList _ _ _ (⟨Option.none, .store _ (.tmp 15) _, _, _, _, _⟩ :: _) _ _); go_must (refine wpList_storeNew agg_dg w5 _ 45 rfl (.tmp 15) (.tmp 64) rfl rfl (u8s x0.1) rfl (dg_len x0) rfl (u8s_one _) ?_))
            | fail)
          have HP0 : Hid (VpR w (w5.alloc (.cells (u8s x0.1).toArray 45)) B g14 w5.heap.size old root x0 x0 (.slice A3 M c3) D) := Lib.hid ⟨HW5.out.b0.alloc _, HW5.out.b1.alloc _, HW5.out.bx.alloc _, Blk.new _ _ _, HW5.out.dz.alloc _, HW5.out.ext.alloc _⟩
          have hg15 : g14 < w5.heap.size := HW5.out.bx.lt
          generalize w5.alloc (.cells (u8s x0.1).toArray 45) = w6 at HP0 ⊢
          obtain ⟨g15, hg15e⟩ : ∃ g, w5.heap.size = g := ⟨_, rfl⟩
          rw [hg15e] at HP0 hg15 ⊢
          clear hg15e HW5
          have h15B : B + 2 ≤ g15 := by omega
          have h1415 : g14 ≠ g15 := by omega
          go_wp2_with fail
          go_loopg [67] N4 (fun gk2 s67 wr => ∃ k : Nat, s67 = .int .i64 (k : Int) ∧ k ≤ N4 ∧ N4 - k ≤ gk2 ∧ Hid (VpR w wr B g14 g15 old root (Mk.foldP shF x0 ((D.zip Lp).take k)).1 (Mk.foldP shF x0 ((D.zip Lp).take k)).2 (.slice A3 M c3) D))
          case atStart => exact ⟨0, rfl, by omega, by omega, Lib.hid (by simpa [Mk.foldP] using HP0.out)⟩
          case round =>
            obtain ⟨k, rfl, hk, hgk2, HI2⟩ := hrel
            have hzl : (D.zip Lp).length = N4 := by rw [List.length_zip, HM.out, HLP.out]; omega
            by_cases hkn : k < N4
            · have hkD : k < D.length := by rw [HM.out]; omega
              have hkL : k < Lp.length := by rw [HLP.out]; exact hkn
              have hdk : D[k]? = some (D[k]'hkD) := List.getElem?_eq_getElem _
              have hst : Mk.foldP shF x0 ((D.zip Lp).take (k + 1)) = Mk.stepP shF (Mk.foldP shF x0 ((D.zip Lp).take k)) (D[k]'hkD, Lp[k]'hkL) := by
                rw [List.take_succ_eq_append_getElem (by omega), Mk.foldP_snoc, List.getElem_zip]
              obtain ⟨⟨x, y⟩, hxy⟩ : ∃ s, Mk.foldP shF x0 ((D.zip Lp).take k) = s := ⟨_, rfl⟩
              rw [hxy] at hst HI2
              simp only at HI2
              obtain ⟨bk, hbk⟩ : ∃ b : Bool, D[k]'hkD = b := ⟨_, rfl⟩
              rw [hbk] at hdk hst
              obtain ⟨bp, op, hA4, hcp⟩ := (HRL.out.ext HI2.out.ext) (by rw [dgs_length, HLP.out]; omega)
              subst hA4
              have hcpk := dg_cells hcp (i := k) hkL
              obtain ⟨p, hp⟩ : ∃ p : Dg, Lp[k]'hkL = p := ⟨_, rfl⟩
              rw [hp] at hst hcpk
              have HCP := Lib.hid hcpk
              have hbp : bp < wr.heap.size := lt_of_cell (hcpk 0 _ (List.getElem?_eq_getElem (by rw [dg_len]; decide)))
              obtain ⟨A9, c9, e9, _, _, hr9⟩ := HI2.out.dz.slice
              simp only [Value.slice.injEq] at e9
              obtain ⟨rfl, -, rfl⟩ := e9
              obtain ⟨bD, oD, hA3, hcD⟩ := hr9 (by rw [bls_length]; omega)
              subst hA3
              have hcd := hcD k _ (bls_at hdk)
              have hltD : bD < wr.heap.size := lt_of_cell hcd
              have HCD := Lib.hid hcd
              have hkM : k < M := by omega
              have HST := Lib.hid hst
              clear hst hxy hbk hp hcpk hcp hcD hr9 hdk hcd
              cases bk with
              | true =>
                have HN1 := Lib.hid fun w => node_calls p x w
                have HN2 := Lib.hid fun w => node_calls p y w
                have hr1 := nodeIn_len p x
                have hr2 := nodeIn_len p y
                have HS1 : Hid (∀ w' A' c', GloE w w' → Rd w' A' (u8s (Mk.nodeIn p x)) → Calls Tryd.prog 88 #[.slice A' (Mk.nodeIn p x).length c'] w' (RetDg w' (Mk.nd shF p x))) := Lib.hid fun w' A' c' E hr' => short_calls A' _ c' _ w' hr' rfl (by omega) (HG.out.ext E)
                have HS2 : Hid (∀ w' A' c', GloE w w' → Rd w' A' (u8s (Mk.nodeIn p y)) → Calls Tryd.prog 88 #[.slice A' (Mk.nodeIn p y).length c'] w' (RetDg w' (Mk.nd shF p y))) := Lib.hid fun w' A' c' E hr' => short_calls A' _ c' _ w' hr' rfl (by omega) (HG.out.ext E)
                have HST2 : Hid (Mk.foldP shF x0 ((D.zip Lp).take (k + 1)) = (Mk.nd shF p x, Mk.nd shF p y)) := Lib.hid (by rw [HST.out]; rfl)
                obtain ⟨R1, hR1⟩ : ∃ R, Mk.nodeIn p x = R := ⟨_, rfl⟩
                obtain ⟨R2, hR2⟩ : ∃ R, Mk.nodeIn p y = R := ⟨_, rfl⟩
                obtain ⟨d1, hd1⟩ : ∃ R, Mk.nd shF p x = R := ⟨_, rfl⟩
                obtain ⟨d2, hd2'⟩ : ∃ R, Mk.nd shF p y = R := ⟨_, rfl⟩
                rw [hR1] at HN1 HS1
                rw [hR2] at HN2 HS2
                rw [hd1] at HS1 HST2
                rw [hd2'] at HS2 HST2
                clear hR1 hR2 hd1 hd2' hr1 hr2 HST
                go_upto_region 24 with (first
                  | ((with_reducible show wpList _ _ _ (⟨some 71, _, _, _, _, _⟩ :: _) _ _); go_must (refine wpList_loadAgg agg_dg _ rfl (.tmp 70) rfl bp (op + k * 16) rfl (u8s p.1) (dg_len p) HCP.out ?_))
                  | ((with_reducible show wpList _ _ _ (⟨Option.none, .store _ (.tmp 17) _, _, _, _, _⟩ :: _) _ _); go_must (refine wpList_storeNew agg_dg wr _ 45 rfl (.tmp 17) (.tmp 71) rfl rfl (u8s p.1) rfl (dg_len p) rfl (u8s_one _) ?_)
                     have HB1 : Hid (Blk (wr.alloc (.cells (u8s p.1).toArray 45)) wr.heap.size 45 (u8s p.1) ∧ Ext wr (wr.alloc (.cells (u8s p.1).toArray 45))) := Lib.hid ⟨Blk.new _ _ _, (Ext.refl wr).alloc _⟩
                     generalize wr.alloc (.cells (u8s p.1).toArray 45) = w7 at HB1 ⊢
                     have hcd7 : w7.cell? ⟨bD, oD + k, none⟩ = some (.bool true) := (HB1.out.2.cell (p := ⟨bD, oD + k, none⟩) hltD).trans HCD.out)
                  | fail)
                have HV7 := Lib.hid (HI2.out.ext' HB1.out.2)
                clear hcd7
                refine wp_region_ord (fun w' => Ext w7 w') [(0, true), (1, true), (4, true), (5, true), (2, false), (3, false), (6, false), (7, false)] (by kernel_rfl) (by kernel_rfl) (fun _ _ d _ _ h => by cases d <;> exact h) (Ext.refl w7).drew ?_
                simp only [ordOps, List.filterMap_cons, List.filterMap_nil, List.getElem?_cons_succ, List.getElem?_cons_zero, Option.map_some, List.length_cons, List.length_nil, Nat.zero_add, Nat.reduceAdd, List.drop_succ_cons, List.drop_zero]
                refine mask_load agg_dg rfl (.tmp 17) rfl wr.heap.size 0 rfl (u8s p.1) (dg_len p) (fun w' E => (HB1.out.1.below E).at0) ?_
                simp only [Act.put, List.getElem_toArray, List.getElem_cons_succ, List.getElem_cons_zero, List.setIfInBounds_toArray, List.set_cons_succ, List.set_cons_zero]
                refine mask_load agg_dg rfl (.tmp 14) rfl g14 0 rfl (u8s x.1) (dg_len x) (fun w' E => (HV7.out.bx.below E).at0) ?_
                simp only [Act.put, List.getElem_toArray, List.getElem_cons_succ, List.getElem_cons_zero, List.setIfInBounds_toArray, List.set_cons_succ, List.set_cons_zero]
                refine mask_load agg_dg rfl (.tmp 17) rfl wr.heap.size 0 rfl (u8s p.1) (dg_len p) (fun w' E => (HB1.out.1.below E).at0) ?_
                simp only [Act.put, List.getElem_toArray, List.getElem_cons_succ, List.getElem_cons_zero, List.setIfInBounds_toArray, List.set_cons_succ, List.set_cons_zero]
                refine mask_load agg_dg rfl (.tmp 15) rfl g15 0 rfl (u8s y.1) (dg_len y) (fun w' E => (HV7.out.by'.below E).at0) ?_
                simp only [Act.put, List.getElem_toArray, List.getElem_cons_succ, List.getElem_cons_zero, List.setIfInBounds_toArray, List.set_cons_succ, List.set_cons_zero]
                refine mask_call (f := 99) (args := #[dgV p, dgV x]) rfl (by go_simp) ((HN1.out _).mono ?_)
                rintro e w8 ⟨v8, rfl, ho8, F8⟩
                have E8 : Ext w7 w8 := (Ext.refl w7).drew.trans F8
                obtain ⟨A8, c8, rfl, _, _, hr8⟩ := ho8.slice
                refine ⟨_, rfl, E8, ?_⟩
                simp only [Act.put, List.getElem_toArray, List.getElem_cons_succ, List.getElem_cons_zero, List.setIfInBounds_toArray, List.set_cons_succ, List.set_cons_zero]
                refine mask_call (f := 88) (args := #[.slice A8 R1.length c8]) rfl (by go_simp) ((HS1.out w8 A8 c8 (HV7.out.ext.trans E8) hr8).mono ?_)
                rintro e w9 ⟨rfl, F9⟩
                have E9 := E8.trans F9
                refine ⟨_, rfl, E9, ?_⟩
                simp only [Act.put, List.getElem_toArray, List.getElem_cons_succ, List.getElem_cons_zero, List.setIfInBounds_toArray, List.set_cons_succ, List.set_cons_zero]
                refine mask_call (f := 99) (args := #[dgV p, dgV y]) rfl (by go_simp) ((HN2.out _).mono ?_)
                rintro e w10 ⟨v10, rfl, ho10, F10⟩
                have E10 := E9.trans F10
                obtain ⟨A10, c10, rfl, _, _, hr10⟩ := ho10.slice
                refine ⟨_, rfl, E10, ?_⟩
                simp only [Act.put, List.getElem_toArray, List.getElem_cons_succ, List.getElem_cons_zero, List.setIfInBounds_toArray, List.set_cons_succ, List.set_cons_zero]
                refine mask_call (f := 88) (args := #[.slice A10 R2.length c10]) rfl (by go_simp) ((HS2.out w10 A10 c10 (HV7.out.ext.trans E10) hr10).mono ?_)
                rintro e w11 ⟨rfl, F11⟩
                have E11 := E10.trans F11
                refine ⟨_, rfl, E11, ?_⟩
                simp only [Act.put, List.getElem_toArray, List.getElem_cons_succ, List.getElem_cons_zero, List.setIfInBounds_toArray, List.set_cons_succ, List.set_cons_zero]
                refine mask_done ?_
                have HV11 := Lib.hid (HV7.out.ext' E11)
                clear ho8 hr8 ho10 hr10
                go_wp2_with (first
                  | ((with_reducible show wpList _ _ _ (⟨Option.none, .store _ (.tmp 14) _, _, _, _, _⟩ :: _) _ _); go_must (refine wpList_storeBlk agg_dg _ g14 45 (u8s x.1) HV11.out.bx rfl (.tmp 14) (.tmp 79) rfl rfl (u8s d1.1) rfl (dg_len d1) (dg_len x) (u8s_one _) ?_); intro w12 hB12 hg12; have HV12 := Lib.hid (HV11.out.st14 hwB h14B h1415 hB12 hg12))
                  | ((with_reducible show wpList _ _ _ (⟨Option.none, .store _ (.tmp 15) _, _, _, _, _⟩ :: _) _ _); go_must (refine wpList_storeBlk agg_dg _ g15 45 (u8s y.1) HV12.out.by' rfl (.tmp 15) (.tmp 83) rfl rfl (u8s d2.1) rfl (dg_len d2) (dg_len y) (u8s_one _) ?_); intro w13 hB13 hg13; have HV13 := Lib.hid (HV12.out.st15 hwB h15B h1415 hB13 hg13))
                  | fail)
                go_roundg (N4 - (k + 1))
                case measure => omega
                case rel => exact ⟨k + 1, by go_num, by omega, by omega, by rw [HST2.out]; exact HV13⟩
              | false =>
                have HN1 := Lib.hid fun w => node_calls y p w
                have hr1 := nodeIn_len y p
                have HS1 : Hid (∀ w' A' c', GloE w w' → Rd w' A' (u8s (Mk.nodeIn y p)) → Calls Tryd.prog 88 #[.slice A' (Mk.nodeIn y p).length c'] w' (RetDg w' (Mk.nd shF y p))) := Lib.hid fun w' A' c' E hr' => short_calls A' _ c' _ w' hr' rfl (by omega) (HG.out.ext E)
                have HST2 : Hid (Mk.foldP shF x0 ((D.zip Lp).take (k + 1)) = (x, Mk.nd shF y p)) := Lib.hid (by rw [HST.out]; rfl)
                obtain ⟨R1, hR1⟩ : ∃ R, Mk.nodeIn y p = R := ⟨_, rfl⟩
                obtain ⟨d1, hd1⟩ : ∃ R, Mk.nd shF y p = R := ⟨_, rfl⟩
                rw [hR1] at HN1 HS1
                rw [hd1] at HS1 HST2
                clear hR1 hd1 hr1 HST
                go_wp2_with (first
                  | ((with_reducible show wpList _ _ _ (⟨some 71, _, _, _, _, _⟩ :: _) _ _); go_must (refine wpList_loadAgg agg_dg _ rfl (.tmp 70) rfl bp (op + k * 16) rfl (u8s p.1) (dg_len p) HCP.out ?_))
                  | ((with_reducible show wpList _ _ _ (⟨Option.none, .store _ (.tmp 17) _, _, _, _, _⟩ :: _) _ _); go_must (refine wpList_storeNew agg_dg wr _ 45 rfl (.tmp 17) (.tmp 71) rfl rfl (u8s p.1) rfl (dg_len p) rfl (u8s_one _) ?_)
                     have HB1 : Hid (Blk (wr.alloc (.cells (u8s p.1).toArray 45)) wr.heap.size 45 (u8s p.1) ∧ Ext wr (wr.alloc (.cells (u8s p.1).toArray 45))) := Lib.hid ⟨Blk.new _ _ _, (Ext.refl wr).alloc _⟩
                     generalize wr.alloc (.cells (u8s p.1).toArray 45) = w7 at HB1 ⊢
                     have hcd7 : w7.cell? ⟨bD, oD + k, none⟩ = some (.bool false) := (HB1.out.2.cell (p := ⟨bD, oD + k, none⟩) hltD).trans HCD.out
                     have HV7 := Lib.hid (HI2.out.ext' HB1.out.2))
                  | ((with_reducible show wpList _ _ _ (⟨some 84, _, _, _, _, _⟩ :: _) _ _); go_must (refine wpList_loadAgg agg_dg w7 rfl (.tmp 15) rfl g15 0 rfl (u8s y.1) (dg_len y) HV7.out.by'.at0 ?_))
                  | ((with_reducible show wpList _ _ _ (⟨some 85, _, _, _, _, _⟩ :: _) _ _); go_must (refine wpList_loadAgg agg_dg w7 rfl (.tmp 17) rfl wr.heap.size 0 rfl (u8s p.1) (dg_len p) HB1.out.1.at0 ?_))
                  | ((with_reducible refine (HN1.out w7).mono ?_); rintro e w8 ⟨v8, rfl, ho8, E8⟩; clear hcd7; obtain ⟨A8, c8, rfl, _, _, hr8⟩ := ho8.slice; have E8' : Ext w w8 := HV7.out.ext.trans E8)
                  | ((with_reducible refine (HS1.out w8 A8 c8 E8' hr8).mono ?_); rintro e w9 ⟨rfl, F9⟩; have HV9 := Lib.hid (HV7.out.ext' (Ext.trans (show Ext w7 w8 from E8) F9)))
                  | ((with_reducible show wpList _ _ _ (⟨Option.none, .store _ (.tmp 15) _, _, _, _, _⟩ :: _) _ _); go_must (refine wpList_storeBlk agg_dg _ g15 45 (u8s y.1) HV9.out.by' rfl (.tmp 15) (.tmp 87) rfl rfl (u8s d1.1) rfl (dg_len d1) (dg_len y) (u8s_one _) ?_); intro w13 hB13 hg13; have HV13 := Lib.hid (HV9.out.st15 hwB h15B h1415 hB13 hg13))
                  | fail)
                go_roundg (N4 - (k + 1))
                case measure => omega
                case rel => exact ⟨k + 1, by go_num, by omega, by omega, by rw [HST2.out]; exact HV13⟩
            · have hkn' : k = N4 := by omega
              subst hkn'
              have hd5 : decide ((k : Int) < (k : Int)) = false := by simp
              rw [List.take_of_length_le (by omega)] at HI2
              have HV6 := HVT.out
              rw [if_pos (by rw [HLP.out, HM.out]; exact hq)] at HV6
              obtain ⟨⟨x, y⟩, hxy⟩ : ∃ s, Mk.foldP shF x0 (D.zip Lp) = s := ⟨_, rfl⟩
              rw [hxy] at HV6 HI2
              simp only at HI2
              have HV7 := Lib.hid HV6
              clear hxy HV6
              by_cases h1 : x = old
              · by_cases h2 : y = root
                · have hr1 : r = true := by rw [HV7.out, h1, h2]; exact decide_eq_true rfl
                  have HRR := Lib.hid hr1
                  clear hr1
                  go_wp2_with (first
                    | ((with_reducible show wpList _ _ _ (⟨some 89, _, _, _, _, _⟩ :: _) _ _); go_must (refine wpList_valueG (by kernel_rfl) (exec_loadD (d := x) rfl rfl HI2.out.bx.at0) ?_))
                    | ((with_reducible show wpList _ _ _ (⟨some 90, _, _, _, _, _⟩ :: _) _ _); go_must (refine wpList_valueG (by kernel_rfl) (exec_loadD (d := old) rfl rfl HI2.out.b0.at0) ?_))
                    | ((with_reducible show wpList _ _ _ (⟨some 91, _, _, _, _, _⟩ :: _) _ _); go_must (refine wpList_valueG (by kernel_rfl) (exec_eqlD_eq h1 rfl rfl rfl _) ?_))
                    | ((with_reducible show wpList _ _ _ (⟨some 93, _, _, _, _, _⟩ :: _) _ _); go_must (refine wpList_valueG (by kernel_rfl) (exec_loadD (d := y) rfl rfl HI2.out.by'.at0) ?_))
                    | ((with_reducible show wpList _ _ _ (⟨some 94, _, _, _, _, _⟩ :: _) _ _); go_must (refine wpList_valueG (by kernel_rfl) (exec_loadD (d := root) rfl rfl HI2.out.b1.at0) ?_))
                    | ((with_reducible show wpList _ _ _ (⟨some 95, _, _, _, _, _⟩ :: _) _ _); go_must (refine wpList_valueG (by kernel_rfl) (exec_eqlD_eq h2 rfl rfl rfl _) ?_))
                    | fail)
                  go_ret
                  exact ⟨by rw [HRR.out]; rfl, HI2.out.ext⟩
                · have hr1 : r = false := by rw [HV7.out]; exact decide_eq_false fun h => h2 (Prod.mk.inj h).2
                  have HRR := Lib.hid hr1
                  clear hr1
                  go_wp2_with (first
                    | ((with_reducible show wpList _ _ _ (⟨some 89, _, _, _, _, _⟩ :: _) _ _); go_must (refine wpList_valueG (by kernel_rfl) (exec_loadD (d := x) rfl rfl HI2.out.bx.at0) ?_))
                    | ((with_reducible show wpList _ _ _ (⟨some 90, _, _, _, _, _⟩ :: _) _ _); go_must (refine wpList_valueG (by kernel_rfl) (exec_loadD (d := old) rfl rfl HI2.out.b0.at0) ?_))
                    | ((with_reducible show wpList _ _ _ (⟨some 91, _, _, _, _, _⟩ :: _) _ _); go_must (refine wpList_valueG (by kernel_rfl) (exec_eqlD_eq h1 rfl rfl rfl _) ?_))
                    | ((with_reducible show wpList _ _ _ (⟨some 93, _, _, _, _, _⟩ :: _) _ _); go_must (refine wpList_valueG (by kernel_rfl) (exec_loadD (d := y) rfl rfl HI2.out.by'.at0) ?_))
                    | ((with_reducible show wpList _ _ _ (⟨some 94, _, _, _, _, _⟩ :: _) _ _); go_must (refine wpList_valueG (by kernel_rfl) (exec_loadD (d := root) rfl rfl HI2.out.b1.at0) ?_))
                    | ((with_reducible show wpList _ _ _ (⟨some 95, _, _, _, _, _⟩ :: _) _ _); go_must (refine wpList_valueG (by kernel_rfl) (exec_eqlD_ne h2 rfl rfl rfl _) ?_))
                    | fail)
                  go_ret
                  exact ⟨by rw [HRR.out]; rfl, HI2.out.ext⟩
              · have hr1 : r = false := by rw [HV7.out]; exact decide_eq_false fun h => h1 (Prod.mk.inj h).1
                have HRR := Lib.hid hr1
                clear hr1
                go_wp2_with (first
                  | ((with_reducible show wpList _ _ _ (⟨some 89, _, _, _, _, _⟩ :: _) _ _); go_must (refine wpList_valueG (by kernel_rfl) (exec_loadD (d := x) rfl rfl HI2.out.bx.at0) ?_))
                  | ((with_reducible show wpList _ _ _ (⟨some 90, _, _, _, _, _⟩ :: _) _ _); go_must (refine wpList_valueG (by kernel_rfl) (exec_loadD (d := old) rfl rfl HI2.out.b0.at0) ?_))
                  | ((with_reducible show wpList _ _ _ (⟨some 91, _, _, _, _, _⟩ :: _) _ _); go_must (refine wpList_valueG (by kernel_rfl) (exec_eqlD_ne h1 rfl rfl rfl _) ?_))
                  | fail)
                go_ret
                exact ⟨by rw [HRR.out]; rfl, HI2.out.ext⟩
        · have hNe : (((N4 : Nat) : Int) == ((M : Nat) : Int)) = false := by rw [beq_eq_false_iff_ne]; omega
          have hr1 : r = false := by rw [HVT.out, if_neg (by rw [HLP.out, HM.out]; exact hq)]
          have HRR := Lib.hid hr1
          clear hr1
          go_wp2_with fail
          go_ret
          exact ⟨by rw [HRR.out]; rfl, HW5.out.ext⟩
      | false =>
        cases L with
        | nil =>
          have hN0 : N = 0 := by rw [← HL.out]; rfl
          subst hN0
          have hr1 : r = false := HV.out
          have HRR := Lib.hid hr1
          clear hr1
          go_wp2_with fail
          go_ret
          exact ⟨by rw [HRR.out]; rfl, HW4.out.ext⟩
        | cons x0 Lp =>
          have HVT : Hid (r = if Lp.length = D.length then decide (Mk.foldP shF x0 (D.zip Lp) = (old, root)) else false) := Lib.hid HV.out
          obtain ⟨N4, hN4⟩ : ∃ N4, N = N4 + 1 := ⟨Lp.length, by rw [← HL.out]; rfl⟩
          subst hN4
          have HLP : Hid (Lp.length = N4) := Lib.hid (by have := HL.out; simpa using this)
          have hNe0 : ((((N4 + 1 : Nat) : Int)) == 0) = false := by rw [beq_eq_false_iff_ne]; omega
          have hNe0' : (((N4 : Int) + 1) == 0) = false := by rw [beq_eq_false_iff_ne]; omega
          obtain ⟨A4, hs1, hr1, _⟩ := run_sliceD HRD.out HL.out hc (some (.int .i64 1)) none 1 (N4 + 1) (.inr ⟨_, rfl⟩) (.inl ⟨rfl, rfl⟩) (by omega) (by omega)
          rw [show N4 + 1 - 1 = N4 from by omega] at hs1 hr1
          rw [show ((x0 :: Lp).drop 1).take N4 = Lp from by rw [List.drop_one, List.tail_cons]; exact List.take_of_length_le (by rw [HLP.out]; exact Nat.le_refl _)] at hr1
          have HRL : Hid (Rd w A4 (dgs Lp)) := Lib.hid hr1
          obtain ⟨bp, op, hA, hcp⟩ := (HRD.out.ext HW4.out.ext) (by rw [dgs_length, HL.out]; omega)
          subst hA
          have hcp0 := dg_cells hcp (i := 0) (by simp)
          simp only [List.getElem_cons_zero, Nat.zero_mul, Nat.add_zero] at hcp0
          have hbpw : bp < w.heap.size := by
            obtain ⟨b2, o2, e2, hc2⟩ := HRD.out (by rw [dgs_length, HL.out]; omega)
            simp only [Option.some.injEq, Addr.mk.injEq] at e2
            obtain ⟨rfl, rfl, -⟩ := e2
            have h5 := dg_cells hc2 (i := 0) (by simp)
            exact lt_of_cell (h5 0 _ (List.getElem?_eq_getElem (by rw [dg_len]; decide)))
          have HCP0 := Lib.hid hcp0
          clear hcp0 hcp hr1 HV HRD
          go_upto_region 16 with fail
          refine wp_region_ord (fun w' => Below g14 w4 w') [(0, true), (1, true), (2, true), (3, true), (4, true), (5, false)] (by kernel_rfl) (by kernel_rfl) (fun _ _ d _ _ h => by cases d <;> exact h) (Below.mono (Ext.refl w4).drew (Nat.le_of_lt HW4.out.bx.lt)) ?_
          simp only [ordOps, List.filterMap_cons, List.filterMap_nil, List.getElem?_cons_succ, List.getElem?_cons_zero, Option.map_some, List.length_cons, List.length_nil, Nat.zero_add, Nat.reduceAdd, List.drop_succ_cons, List.drop_zero]
          refine mask_read (v := .slice (some ⟨bp, op, none⟩) (N4 + 1) c) rfl (fun w' E => by go_simp) ?_
          simp only [Act.put, List.getElem_toArray, List.getElem_cons_succ, List.getElem_cons_zero, List.setIfInBounds_toArray, List.set_cons_succ, List.set_cons_zero]
          refine mask_read (v := .pointer (some ⟨bp, op, none⟩)) rfl (fun w' E => by go_simp) ?_
          simp only [Act.put, List.getElem_toArray, List.getElem_cons_succ, List.getElem_cons_zero, List.setIfInBounds_toArray, List.set_cons_succ, List.set_cons_zero]
          refine mask_load agg_dg rfl (.tmp 55) rfl bp op rfl (u8s x0.1) (dg_len x0) (fun w' E j u hu => (E.cell (p := ⟨bp, op + j, none⟩) (by show bp < g14; omega)).trans (HCP0.out j u hu)) ?_
          simp only [Act.put, List.getElem_toArray, List.getElem_cons_succ, List.getElem_cons_zero, List.setIfInBounds_toArray, List.set_cons_succ, List.set_cons_zero]
          refine mask_read (v := .slice (some ⟨bp, op, none⟩) (N4 + 1) c) rfl (fun w' E => by go_simp) ?_
          simp only [Act.put, List.getElem_toArray, List.getElem_cons_succ, List.getElem_cons_zero, List.setIfInBounds_toArray, List.set_cons_succ, List.set_cons_zero]
          refine mask_read (v := .slice A4 N4 (c - 1)) rfl (fun w' E => exec_slice rfl rfl rfl rfl hs1 w') ?_
          simp only [Act.put, List.getElem_toArray, List.getElem_cons_succ, List.getElem_cons_zero, List.setIfInBounds_toArray, List.set_cons_succ, List.set_cons_zero]
          refine mask_storeD rfl (.tmp 14) (.tmp 56) rfl g14 old x0 HW4.out.bx.drew rfl rfl ?_
          intro w5 hB5 hg5
          have hg5' : w4.grownBy w5 (some g14) := grownBy_trans (grownBy_below (Ext.refl w4).drew (some g14)) hg5
          refine ⟨Below.grown (Below.refl _ _) hg5' (Nat.le_of_lt HW4.out.bx.lt) (fun k hk => by have := Option.some.inj hk; omega), ?_⟩
          simp only [Act.put, List.getElem_toArray, List.getElem_cons_succ, List.getElem_cons_zero, List.setIfInBounds_toArray, List.set_cons_succ, List.set_cons_zero]
          refine mask_done ?_
          have HW5 : Hid (Vp2 w w5 B g14 old root x0 (.slice A3 M c3) D) := Lib.hid ⟨HW4.out.b0.grown hg5' (by simp; omega), HW4.out.b1.grown hg5' (by simp; omega), hB5, HW4.out.dz.kept hg5' (ownZ_ne HW4.out.dz HW4.out.bx), HW4.out.ext.grown hg5' HW4.out.ext.size (fun k hk => by have := Option.some.inj hk; omega)⟩
          clear hg5' hg5 hB5 HW4 HCP0 hbpw
          by_cases hq : N4 = M
          · have hNe : (((N4 : Nat) : Int) == ((M : Nat) : Int)) = true := by rw [beq_iff_eq]; omega
            go_upto_region 20 with (first
              | ((with_reducible show wpList _ _ _ (⟨some 64, _, _, _, _, _⟩ :: _) _ _); go_must (refine wpList_loadAgg agg_dg w5 rfl (.tmp 14) rfl g14 0 rfl (u8s x0.1) (dg_len x0) HW5.out.bx.at0 ?_))
              | ((with_reducible show wpList _ _ _ (⟨Option.none, .store _ (.tmp 15) _, _, _, _, _⟩ :: _) _ _); go_must (refine wpList_storeNew agg_dg w5 _ 45 rfl (.tmp 15) (.tmp 64) rfl rfl (u8s x0.1) rfl (dg_len x0) rfl (u8s_one _) ?_))
              | fail)
            have HP0 : Hid (VpR w (w5.alloc (.cells (u8s x0.1).toArray 45)) B g14 w5.heap.size old root x0 x0 (.slice A3 M c3) D) := Lib.hid ⟨HW5.out.b0.alloc _, HW5.out.b1.alloc _, HW5.out.bx.alloc _, Blk.new _ _ _, HW5.out.dz.alloc _, HW5.out.ext.alloc _⟩
            have hg15 : g14 < w5.heap.size := HW5.out.bx.lt
            generalize w5.alloc (.cells (u8s x0.1).toArray 45) = w6 at HP0 ⊢
            obtain ⟨g15, hg15e⟩ : ∃ g, w5.heap.size = g := ⟨_, rfl⟩
            rw [hg15e] at HP0 hg15 ⊢
            clear hg15e HW5
            have h15B : B + 2 ≤ g15 := by omega
            have h1415 : g14 ≠ g15 := by omega
            go_wp2_with fail
            go_loopg [67] N4 (fun gk2 s67 wr => ∃ k : Nat, s67 = .int .i64 (k : Int) ∧ k ≤ N4 ∧ N4 - k ≤ gk2 ∧ Hid (VpR w wr B g14 g15 old root (Mk.foldP shF x0 ((D.zip Lp).take k)).1 (Mk.foldP shF x0 ((D.zip Lp).take k)).2 (.slice A3 M c3) D))
            case atStart => exact ⟨0, rfl, by omega, by omega, Lib.hid (by simpa [Mk.foldP] using HP0.out)⟩
            case round =>
              obtain ⟨k, rfl, hk, hgk2, HI2⟩ := hrel
              have hzl : (D.zip Lp).length = N4 := by rw [List.length_zip, HM.out, HLP.out]; omega
              by_cases hkn : k < N4
              · have hkD : k < D.length := by rw [HM.out]; omega
                have hkL : k < Lp.length := by rw [HLP.out]; exact hkn
                have hdk : D[k]? = some (D[k]'hkD) := List.getElem?_eq_getElem _
                have hst : Mk.foldP shF x0 ((D.zip Lp).take (k + 1)) = Mk.stepP shF (Mk.foldP shF x0 ((D.zip Lp).take k)) (D[k]'hkD, Lp[k]'hkL) := by
                  rw [List.take_succ_eq_append_getElem (by omega), Mk.foldP_snoc, List.getElem_zip]
                obtain ⟨⟨x, y⟩, hxy⟩ : ∃ s, Mk.foldP shF x0 ((D.zip Lp).take k) = s := ⟨_, rfl⟩
                rw [hxy] at hst HI2
                simp only at HI2
                obtain ⟨bk, hbk⟩ : ∃ b : Bool, D[k]'hkD = b := ⟨_, rfl⟩
                rw [hbk] at hdk hst
                obtain ⟨bp, op, hA4, hcp⟩ := (HRL.out.ext HI2.out.ext) (by rw [dgs_length, HLP.out]; omega)
                subst hA4
                have hcpk := dg_cells hcp (i := k) hkL
                obtain ⟨p, hp⟩ : ∃ p : Dg, Lp[k]'hkL = p := ⟨_, rfl⟩
                rw [hp] at hst hcpk
                have HCP := Lib.hid hcpk
                have hbp : bp < wr.heap.size := lt_of_cell (hcpk 0 _ (List.getElem?_eq_getElem (by rw [dg_len]; decide)))
                obtain ⟨A9, c9, e9, _, _, hr9⟩ := HI2.out.dz.slice
                simp only [Value.slice.injEq] at e9
                obtain ⟨rfl, -, rfl⟩ := e9
                obtain ⟨bD, oD, hA3, hcD⟩ := hr9 (by rw [bls_length]; omega)
                subst hA3
                have hcd := hcD k _ (bls_at hdk)
                have hltD : bD < wr.heap.size := lt_of_cell hcd
                have HCD := Lib.hid hcd
                have hkM : k < M := by omega
                have HST := Lib.hid hst
                clear hst hxy hbk hp hcpk hcp hcD hr9 hdk hcd
                cases bk with
                | true =>
                  have HN1 := Lib.hid fun w => node_calls p x w
                  have HN2 := Lib.hid fun w => node_calls p y w
                  have hr1 := nodeIn_len p x
                  have hr2 := nodeIn_len p y
                  have HS1 : Hid (∀ w' A' c', GloE w w' → Rd w' A' (u8s (Mk.nodeIn p x)) → Calls Tryd.prog 88 #[.slice A' (Mk.nodeIn p x).length c'] w' (RetDg w' (Mk.nd shF p x))) := Lib.hid fun w' A' c' E hr' => short_calls A' _ c' _ w' hr' rfl (by omega) (HG.out.ext E)
                  have HS2 : Hid (∀ w' A' c', GloE w w' → Rd w' A' (u8s (Mk.nodeIn p y)) → Calls Tryd.prog 88 #[.slice A' (Mk.nodeIn p y).length c'] w' (RetDg w' (Mk.nd shF p y))) := Lib.hid fun w' A' c' E hr' => short_calls A' _ c' _ w' hr' rfl (by omega) (HG.out.ext E)
                  have HST2 : Hid (Mk.foldP shF x0 ((D.zip Lp).take (k + 1)) = (Mk.nd shF p x, Mk.nd shF p y)) := Lib.hid (by rw [HST.out]; rfl)
                  obtain ⟨R1, hR1⟩ : ∃ R, Mk.nodeIn p x = R := ⟨_, rfl⟩
                  obtain ⟨R2, hR2⟩ : ∃ R, Mk.nodeIn p y = R := ⟨_, rfl⟩
                  obtain ⟨d1, hd1⟩ : ∃ R, Mk.nd shF p x = R := ⟨_, rfl⟩
                  obtain ⟨d2, hd2'⟩ : ∃ R, Mk.nd shF p y = R := ⟨_, rfl⟩
                  rw [hR1] at HN1 HS1
                  rw [hR2] at HN2 HS2
                  rw [hd1] at HS1 HST2
                  rw [hd2'] at HS2 HST2
                  clear hR1 hR2 hd1 hd2' hr1 hr2 HST
                  go_upto_region 24 with (first
                    | ((with_reducible show wpList _ _ _ (⟨some 71, _, _, _, _, _⟩ :: _) _ _); go_must (refine wpList_loadAgg agg_dg _ rfl (.tmp 70) rfl bp (op + k * 16) rfl (u8s p.1) (dg_len p) HCP.out ?_))
                    | ((with_reducible show wpList _ _ _ (⟨Option.none, .store _ (.tmp 17) _, _, _, _, _⟩ :: _) _ _); go_must (refine wpList_storeNew agg_dg wr _ 45 rfl (.tmp 17) (.tmp 71) rfl rfl (u8s p.1) rfl (dg_len p) rfl (u8s_one _) ?_)
                       have HB1 : Hid (Blk (wr.alloc (.cells (u8s p.1).toArray 45)) wr.heap.size 45 (u8s p.1) ∧ Ext wr (wr.alloc (.cells (u8s p.1).toArray 45))) := Lib.hid ⟨Blk.new _ _ _, (Ext.refl wr).alloc _⟩
                       generalize wr.alloc (.cells (u8s p.1).toArray 45) = w7 at HB1 ⊢
                       have hcd7 : w7.cell? ⟨bD, oD + k, none⟩ = some (.bool true) := (HB1.out.2.cell (p := ⟨bD, oD + k, none⟩) hltD).trans HCD.out)
                    | fail)
                  have HV7 := Lib.hid (HI2.out.ext' HB1.out.2)
                  clear hcd7
                  refine wp_region_ord (fun w' => Ext w7 w') [(0, true), (1, true), (4, true), (5, true), (2, false), (3, false), (6, false), (7, false)] (by kernel_rfl) (by kernel_rfl) (fun _ _ d _ _ h => by cases d <;> exact h) (Ext.refl w7).drew ?_
                  simp only [ordOps, List.filterMap_cons, List.filterMap_nil, List.getElem?_cons_succ, List.getElem?_cons_zero, Option.map_some, List.length_cons, List.length_nil, Nat.zero_add, Nat.reduceAdd, List.drop_succ_cons, List.drop_zero]
                  refine mask_load agg_dg rfl (.tmp 17) rfl wr.heap.size 0 rfl (u8s p.1) (dg_len p) (fun w' E => (HB1.out.1.below E).at0) ?_
                  simp only [Act.put, List.getElem_toArray, List.getElem_cons_succ, List.getElem_cons_zero, List.setIfInBounds_toArray, List.set_cons_succ, List.set_cons_zero]
                  refine mask_load agg_dg rfl (.tmp 14) rfl g14 0 rfl (u8s x.1) (dg_len x) (fun w' E => (HV7.out.bx.below E).at0) ?_
                  simp only [Act.put, List.getElem_toArray, List.getElem_cons_succ, List.getElem_cons_zero, List.setIfInBounds_toArray, List.set_cons_succ, List.set_cons_zero]
                  refine mask_load agg_dg rfl (.tmp 17) rfl wr.heap.size 0 rfl (u8s p.1) (dg_len p) (fun w' E => (HB1.out.1.below E).at0) ?_
                  simp only [Act.put, List.getElem_toArray, List.getElem_cons_succ, List.getElem_cons_zero, List.setIfInBounds_toArray, List.set_cons_succ, List.set_cons_zero]
                  refine mask_load agg_dg rfl (.tmp 15) rfl g15 0 rfl (u8s y.1) (dg_len y) (fun w' E => (HV7.out.by'.below E).at0) ?_
                  simp only [Act.put, List.getElem_toArray, List.getElem_cons_succ, List.getElem_cons_zero, List.setIfInBounds_toArray, List.set_cons_succ, List.set_cons_zero]
                  refine mask_call (f := 99) (args := #[dgV p, dgV x]) rfl (by go_simp) ((HN1.out _).mono ?_)
                  rintro e w8 ⟨v8, rfl, ho8, F8⟩
                  have E8 : Ext w7 w8 := (Ext.refl w7).drew.trans F8
                  obtain ⟨A8, c8, rfl, _, _, hr8⟩ := ho8.slice
                  refine ⟨_, rfl, E8, ?_⟩
                  simp only [Act.put, List.getElem_toArray, List.getElem_cons_succ, List.getElem_cons_zero, List.setIfInBounds_toArray, List.set_cons_succ, List.set_cons_zero]
                  refine mask_call (f := 88) (args := #[.slice A8 R1.length c8]) rfl (by go_simp) ((HS1.out w8 A8 c8 (HV7.out.ext.trans E8) hr8).mono ?_)
                  rintro e w9 ⟨rfl, F9⟩
                  have E9 := E8.trans F9
                  refine ⟨_, rfl, E9, ?_⟩
                  simp only [Act.put, List.getElem_toArray, List.getElem_cons_succ, List.getElem_cons_zero, List.setIfInBounds_toArray, List.set_cons_succ, List.set_cons_zero]
                  refine mask_call (f := 99) (args := #[dgV p, dgV y]) rfl (by go_simp) ((HN2.out _).mono ?_)
                  rintro e w10 ⟨v10, rfl, ho10, F10⟩
                  have E10 := E9.trans F10
                  obtain ⟨A10, c10, rfl, _, _, hr10⟩ := ho10.slice
                  refine ⟨_, rfl, E10, ?_⟩
                  simp only [Act.put, List.getElem_toArray, List.getElem_cons_succ, List.getElem_cons_zero, List.setIfInBounds_toArray, List.set_cons_succ, List.set_cons_zero]
                  refine mask_call (f := 88) (args := #[.slice A10 R2.length c10]) rfl (by go_simp) ((HS2.out w10 A10 c10 (HV7.out.ext.trans E10) hr10).mono ?_)
                  rintro e w11 ⟨rfl, F11⟩
                  have E11 := E10.trans F11
                  refine ⟨_, rfl, E11, ?_⟩
                  simp only [Act.put, List.getElem_toArray, List.getElem_cons_succ, List.getElem_cons_zero, List.setIfInBounds_toArray, List.set_cons_succ, List.set_cons_zero]
                  refine mask_done ?_
                  have HV11 := Lib.hid (HV7.out.ext' E11)
                  clear ho8 hr8 ho10 hr10
                  go_wp2_with (first
                    | ((with_reducible show wpList _ _ _ (⟨Option.none, .store _ (.tmp 14) _, _, _, _, _⟩ :: _) _ _); go_must (refine wpList_storeBlk agg_dg _ g14 45 (u8s x.1) HV11.out.bx rfl (.tmp 14) (.tmp 79) rfl rfl (u8s d1.1) rfl (dg_len d1) (dg_len x) (u8s_one _) ?_); intro w12 hB12 hg12; have HV12 := Lib.hid (HV11.out.st14 hwB h14B h1415 hB12 hg12))
                    | ((with_reducible show wpList _ _ _ (⟨Option.none, .store _ (.tmp 15) _, _, _, _, _⟩ :: _) _ _); go_must (refine wpList_storeBlk agg_dg _ g15 45 (u8s y.1) HV12.out.by' rfl (.tmp 15) (.tmp 83) rfl rfl (u8s d2.1) rfl (dg_len d2) (dg_len y) (u8s_one _) ?_); intro w13 hB13 hg13; have HV13 := Lib.hid (HV12.out.st15 hwB h15B h1415 hB13 hg13))
                    | fail)
                  go_roundg (N4 - (k + 1))
                  case measure => omega
                  case rel => exact ⟨k + 1, by go_num, by omega, by omega, by rw [HST2.out]; exact HV13⟩
                | false =>
                  have HN1 := Lib.hid fun w => node_calls y p w
                  have hr1 := nodeIn_len y p
                  have HS1 : Hid (∀ w' A' c', GloE w w' → Rd w' A' (u8s (Mk.nodeIn y p)) → Calls Tryd.prog 88 #[.slice A' (Mk.nodeIn y p).length c'] w' (RetDg w' (Mk.nd shF y p))) := Lib.hid fun w' A' c' E hr' => short_calls A' _ c' _ w' hr' rfl (by omega) (HG.out.ext E)
                  have HST2 : Hid (Mk.foldP shF x0 ((D.zip Lp).take (k + 1)) = (x, Mk.nd shF y p)) := Lib.hid (by rw [HST.out]; rfl)
                  obtain ⟨R1, hR1⟩ : ∃ R, Mk.nodeIn y p = R := ⟨_, rfl⟩
                  obtain ⟨d1, hd1⟩ : ∃ R, Mk.nd shF y p = R := ⟨_, rfl⟩
                  rw [hR1] at HN1 HS1
                  rw [hd1] at HS1 HST2
                  clear hR1 hd1 hr1 HST
                  go_wp2_with (first
                    | ((with_reducible show wpList _ _ _ (⟨some 71, _, _, _, _, _⟩ :: _) _ _); go_must (refine wpList_loadAgg agg_dg _ rfl (.tmp 70) rfl bp (op + k * 16) rfl (u8s p.1) (dg_len p) HCP.out ?_))
                    | ((with_reducible show wpList _ _ _ (⟨Option.none, .store _ (.tmp 17) _, _, _, _, _⟩ :: _) _ _); go_must (refine wpList_storeNew agg_dg wr _ 45 rfl (.tmp 17) (.tmp 71) rfl rfl (u8s p.1) rfl (dg_len p) rfl (u8s_one _) ?_)
                       have HB1 : Hid (Blk (wr.alloc (.cells (u8s p.1).toArray 45)) wr.heap.size 45 (u8s p.1) ∧ Ext wr (wr.alloc (.cells (u8s p.1).toArray 45))) := Lib.hid ⟨Blk.new _ _ _, (Ext.refl wr).alloc _⟩
                       generalize wr.alloc (.cells (u8s p.1).toArray 45) = w7 at HB1 ⊢
                       have hcd7 : w7.cell? ⟨bD, oD + k, none⟩ = some (.bool false) := (HB1.out.2.cell (p := ⟨bD, oD + k, none⟩) hltD).trans HCD.out
                       have HV7 := Lib.hid (HI2.out.ext' HB1.out.2))
                    | ((with_reducible show wpList _ _ _ (⟨some 84, _, _, _, _, _⟩ :: _) _ _); go_must (refine wpList_loadAgg agg_dg w7 rfl (.tmp 15) rfl g15 0 rfl (u8s y.1) (dg_len y) HV7.out.by'.at0 ?_))
                    | ((with_reducible show wpList _ _ _ (⟨some 85, _, _, _, _, _⟩ :: _) _ _); go_must (refine wpList_loadAgg agg_dg w7 rfl (.tmp 17) rfl wr.heap.size 0 rfl (u8s p.1) (dg_len p) HB1.out.1.at0 ?_))
                    | ((with_reducible refine (HN1.out w7).mono ?_); rintro e w8 ⟨v8, rfl, ho8, E8⟩; clear hcd7; obtain ⟨A8, c8, rfl, _, _, hr8⟩ := ho8.slice; have E8' : Ext w w8 := HV7.out.ext.trans E8)
                    | ((with_reducible refine (HS1.out w8 A8 c8 E8' hr8).mono ?_); rintro e w9 ⟨rfl, F9⟩; have HV9 := Lib.hid (HV7.out.ext' (Ext.trans (show Ext w7 w8 from E8) F9)))
                    | ((with_reducible show wpList _ _ _ (⟨Option.none, .store _ (.tmp 15) _, _, _, _, _⟩ :: _) _ _); go_must (refine wpList_storeBlk agg_dg _ g15 45 (u8s y.1) HV9.out.by' rfl (.tmp 15) (.tmp 87) rfl rfl (u8s d1.1) rfl (dg_len d1) (dg_len y) (u8s_one _) ?_); intro w13 hB13 hg13; have HV13 := Lib.hid (HV9.out.st15 hwB h15B h1415 hB13 hg13))
                    | fail)
                  go_roundg (N4 - (k + 1))
                  case measure => omega
                  case rel => exact ⟨k + 1, by go_num, by omega, by omega, by rw [HST2.out]; exact HV13⟩
              · have hkn' : k = N4 := by omega
                subst hkn'
                have hd5 : decide ((k : Int) < (k : Int)) = false := by simp
                rw [List.take_of_length_le (by omega)] at HI2
                have HV6 := HVT.out
                rw [if_pos (by rw [HLP.out, HM.out]; exact hq)] at HV6
                obtain ⟨⟨x, y⟩, hxy⟩ : ∃ s, Mk.foldP shF x0 (D.zip Lp) = s := ⟨_, rfl⟩
                rw [hxy] at HV6 HI2
                simp only at HI2
                have HV7 := Lib.hid HV6
                clear hxy HV6
                by_cases h1 : x = old
                · by_cases h2 : y = root
                  · have hr1 : r = true := by rw [HV7.out, h1, h2]; exact decide_eq_true rfl
                    have HRR := Lib.hid hr1
                    clear hr1
                    go_wp2_with (first
                      | ((with_reducible show wpList _ _ _ (⟨some 89, _, _, _, _, _⟩ :: _) _ _); go_must (refine wpList_valueG (by kernel_rfl) (exec_loadD (d := x) rfl rfl HI2.out.bx.at0) ?_))
                      | ((with_reducible show wpList _ _ _ (⟨some 90, _, _, _, _, _⟩ :: _) _ _); go_must (refine wpList_valueG (by kernel_rfl) (exec_loadD (d := old) rfl rfl HI2.out.b0.at0) ?_))
                      | ((with_reducible show wpList _ _ _ (⟨some 91, _, _, _, _, _⟩ :: _) _ _); go_must (refine wpList_valueG (by kernel_rfl) (exec_eqlD_eq h1 rfl rfl rfl _) ?_))
                      | ((with_reducible show wpList _ _ _ (⟨some 93, _, _, _, _, _⟩ :: _) _ _); go_must (refine wpList_valueG (by kernel_rfl) (exec_loadD (d := y) rfl rfl HI2.out.by'.at0) ?_))
                      | ((with_reducible show wpList _ _ _ (⟨some 94, _, _, _, _, _⟩ :: _) _ _); go_must (refine wpList_valueG (by kernel_rfl) (exec_loadD (d := root) rfl rfl HI2.out.b1.at0) ?_))
                      | ((with_reducible show wpList _ _ _ (⟨some 95, _, _, _, _, _⟩ :: _) _ _); go_must (refine wpList_valueG (by kernel_rfl) (exec_eqlD_eq h2 rfl rfl rfl _) ?_))
                      | fail)
                    go_ret
                    exact ⟨by rw [HRR.out]; rfl, HI2.out.ext⟩
                  · have hr1 : r = false := by rw [HV7.out]; exact decide_eq_false fun h => h2 (Prod.mk.inj h).2
                    have HRR := Lib.hid hr1
                    clear hr1
                    go_wp2_with (first
                      | ((with_reducible show wpList _ _ _ (⟨some 89, _, _, _, _, _⟩ :: _) _ _); go_must (refine wpList_valueG (by kernel_rfl) (exec_loadD (d := x) rfl rfl HI2.out.bx.at0) ?_))
                      | ((with_reducible show wpList _ _ _ (⟨some 90, _, _, _, _, _⟩ :: _) _ _); go_must (refine wpList_valueG (by kernel_rfl) (exec_loadD (d := old) rfl rfl HI2.out.b0.at0) ?_))
                      | ((with_reducible show wpList _ _ _ (⟨some 91, _, _, _, _, _⟩ :: _) _ _); go_must (refine wpList_valueG (by kernel_rfl) (exec_eqlD_eq h1 rfl rfl rfl _) ?_))
                      | ((with_reducible show wpList _ _ _ (⟨some 93, _, _, _, _, _⟩ :: _) _ _); go_must (refine wpList_valueG (by kernel_rfl) (exec_loadD (d := y) rfl rfl HI2.out.by'.at0) ?_))
                      | ((with_reducible show wpList _ _ _ (⟨some 94, _, _, _, _, _⟩ :: _) _ _); go_must (refine wpList_valueG (by kernel_rfl) (exec_loadD (d := root) rfl rfl HI2.out.b1.at0) ?_))
                      | ((with_reducible show wpList _ _ _ (⟨some 95, _, _, _, _, _⟩ :: _) _ _); go_must (refine wpList_valueG (by kernel_rfl) (exec_eqlD_ne h2 rfl rfl rfl _) ?_))
                      | fail)
                    go_ret
                    exact ⟨by rw [HRR.out]; rfl, HI2.out.ext⟩
                · have hr1 : r = false := by rw [HV7.out]; exact decide_eq_false fun h => h1 (Prod.mk.inj h).1
                  have HRR := Lib.hid hr1
                  clear hr1
                  go_wp2_with (first
                    | ((with_reducible show wpList _ _ _ (⟨some 89, _, _, _, _, _⟩ :: _) _ _); go_must (refine wpList_valueG (by kernel_rfl) (exec_loadD (d := x) rfl rfl HI2.out.bx.at0) ?_))
                    | ((with_reducible show wpList _ _ _ (⟨some 90, _, _, _, _, _⟩ :: _) _ _); go_must (refine wpList_valueG (by kernel_rfl) (exec_loadD (d := old) rfl rfl HI2.out.b0.at0) ?_))
                    | ((with_reducible show wpList _ _ _ (⟨some 91, _, _, _, _, _⟩ :: _) _ _); go_must (refine wpList_valueG (by kernel_rfl) (exec_eqlD_ne h1 rfl rfl rfl _) ?_))
                    | fail)
                  go_ret
                  exact ⟨by rw [HRR.out]; rfl, HI2.out.ext⟩
          · have hNe : (((N4 : Nat) : Int) == ((M : Nat) : Int)) = false := by rw [beq_eq_false_iff_ne]; omega
            have hr1 : r = false := by rw [HVT.out, if_neg (by rw [HLP.out, HM.out]; exact hq)]
            have HRR := Lib.hid hr1
            clear hr1
            go_wp2_with fail
            go_ret
            exact ⟨by rw [HRR.out]; rfl, HW5.out.ext⟩
end Go.Proofs.YtcjeclddpkinkaaDoor
