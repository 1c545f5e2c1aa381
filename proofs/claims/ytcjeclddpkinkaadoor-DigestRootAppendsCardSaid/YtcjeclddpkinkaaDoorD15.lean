/- Lists of digests that the call owns; a function value that is called; the contract of descend for every step; Prove's step. -/
import Derived.Test.YtcjeclddpkinkaaDoorD14
import Derived.Test.YtcjeclddpkinkaaDoorB9
set_option linter.unusedSimpArgs false
set_option linter.unusedVariables false
namespace Go.Proofs.YtcjeclddpkinkaaDoor
open Go.RowKit
open Wz (Dg)

def OwnD (w : World) (base : Nat) (v : Value) (l : List Dg) : Prop := w.ownsRow base 45 16 v l.length (dgs l)
theorem OwnD.nil (w : World) (base : Nat) : OwnD w base (.slice none 0 0) [] := World.ownsRow_nil _ _ _ _
theorem OwnD.rebase {w : World} {base base' : Nat} {v : Value} {l : List Dg} (h : OwnD w base v l) (hb : base' ≤ base) : OwnD w base' v l := own_rebase h hb
theorem OwnD.below {w w1 : World} {base : Nat} {v : Value} {l : List Dg} (h : OwnD w base v l) (hb : Below w.heap.size w w1) : OwnD w1 base v l := own_below h hb
theorem OwnD.alloc {w : World} {base : Nat} {v : Value} {l : List Dg} (h : OwnD w base v l) (o : Obj) : OwnD (w.alloc o) base v l := World.ownsRow.alloc h o
theorem OwnD.slice {w : World} {base : Nat} {v : Value} {l : List Dg} (h : OwnD w base v l) : ∃ A cap, v = .slice A l.length cap ∧ l.length ≤ cap ∧ cap ≤ maxLen ∧ Rd w A (dgs l) := own_slice h
theorem OwnD.base_le {w : World} {base : Nat} {v : Value} {l : List Dg} (h : OwnD w base v l) : ∀ k, v.ownBlock = some k → base ≤ k ∧ k < w.heap.size := World.ownsRow.lt h
theorem OwnD.kept {w w' : World} {base : Nat} {v : Value} {l : List Dg} {row : Option Nat} (h : OwnD w base v l) (hg : w.grownBy w' row) (hne : v.ownBlock = none ∨ v.ownBlock ≠ row) : OwnD w' base v l := World.ownsRow.kept h hg hne

theorem wpList_appD (w : World) {ops : Array Oper} {rest : List Oper} {o : Oper} {a : Act} {Q : Exit → Act → World → Prop} (hgd : o.guard = none) (s x : Operand)
    (ho : o.op = .call { callee := .builtin .append, args := #[s, x], argTypes := #[63, 63] })
    (base : Nat) (v : Value) (l : List Dg) (hs : a.eval s = v) (hown : OwnD w base v l) (A : Option Addr) (n c : Nat) (news : List Dg) (hx : a.eval x = .slice A n c) (hn : news.length = n) (hr : Rd w A (dgs news))
    (hbytes : l.length + n ≤ 1000000000000) (hbase : base ≤ w.heap.size)
    (h : ∀ v' w', OwnD w' base v' (l ++ news) → w.grownBy w' v.ownBlock → (∀ B w0, B ≤ base → Below B w0 w → Below B w0 w') → wpList Tryd.prog ops Q rest (a.put o.dst v') w') : wpList Tryd.prog ops Q (o :: rest) a w := by
  subst hn
  obtain ⟨i0, hi, hz0, hz1, hz2⟩ := info_parts info_dg
  refine wpList_app w hgd s x 63 ho base 45 i0 (.agg (u8s (List.replicate 16 0)).toArray) 16 16 und_ds hi hz0 hz1 hz2 rfl (by decide) v l.length (dgs l) hs hown A news.length c (dgs news) hx (by rw [dgs_length, Nat.mul_comm]) hr (dgs_one' _) (by omega) (by decide) hbase ?_
  intro v' w' h1 h2 _
  refine h v' w' (by unfold OwnD; rw [dgs_append, List.length_append]; exact h1) h2 fun B w0 hB hb => hb.grown h2 (by omega) fun k hk => ?_
  have := hown.base_le k hk
  omega

/-- a call through a function value -/
theorem wpList_callFn {P : Program} {w : World} {ops : Array Oper} {rest : List Oper} {o : Oper} {a : Act} {Q : Exit → Act → World → Prop} (hgd : o.guard = none) (f : Operand) (xs : Array Operand) (ts : Array TypeId)
    (ho : o.op = .call { callee := .value f, args := xs, argTypes := ts }) (g : Nat) (caps : Array Value) (hf : a.eval f = .func (.func g) #[] caps) (eg : ∀ args w, (callFunc g args).run P w = .ok (.enter g args) w)
    (hc : Calls P g ((xs.map a.eval) ++ caps) w (fun e w' => ∃ v, e = .returned v ∧ wpList P ops Q rest (a.put o.dst v) w')) : wpList P ops Q (o :: rest) a w := by
  refine wpList_plain hgd fun K hK => ?_
  have hrun : (execOp a.eval o).run P w = .ok (.enter g ((xs.map a.eval) ++ caps)) w := by
    have h1 : (resolve a.eval { callee := .value f, args := xs, argTypes := ts } o.type).run P w = .ok { target := .fn (.func g) caps, args := xs.map a.eval } w := by
      simp only [resolve, hf]
      simp [go_sem]
    have h2 : (invoke (.fn (.func g) caps) (xs.map a.eval)).run P w = .ok (.enter g ((xs.map a.eval) ++ caps)) w := by
      simp [invoke, go_sem, eg]
    unfold execOp
    rw [ho]
    simp only [Sem.run_bind, h1, Result.andThen]
    exact h2
  unfold Oper.wp
  rw [hrun]
  refine hc.mono ?_
  rintro e w' ⟨v, rfl, h⟩
  exact hK _ _ h

set_option maxRecDepth 100000 in
set_option maxHeartbeats 600000 in
/-- digest.descend: whatever its step keeps, from part to part -/
theorem descend_calls (g : Nat) (caps : Array Value) (eg : ∀ args w, (callFunc g args).run Tryd.prog w = .ok (.enter g args) w) (N i : Nat) (hi : i < N) (hN : N ≤ 9223372036854775807) (I : Nat → Nat → World → Prop)
    (hl : ∀ p n w, I p n w → p ≤ i → i < p + n → p + n ≤ N → 2 ≤ n → i - p < Mk.sp n → Calls Tryd.prog g (#[.int .i64 (p : Int), .int .i64 (Mk.sp n : Int), .int .i64 ((p + Mk.sp n : Nat) : Int), .int .i64 ((n - Mk.sp n : Nat) : Int)] ++ caps) w (fun e w' => (∃ v, e = .returned v) ∧ I p (Mk.sp n) w'))
    (hr : ∀ p n w, I p n w → p ≤ i → i < p + n → p + n ≤ N → 2 ≤ n → Mk.sp n ≤ i - p → Calls Tryd.prog g (#[.int .i64 ((p + Mk.sp n : Nat) : Int), .int .i64 ((n - Mk.sp n : Nat) : Int), .int .i64 (p : Int), .int .i64 (Mk.sp n : Int)] ++ caps) w (fun e w' => (∃ v, e = .returned v) ∧ I (p + Mk.sp n) (n - Mk.sp n) w'))
    (w : World) (h0 : I 0 N w) :
    Calls Tryd.prog 92 #[.int .i64 (N : Int), .int .i64 (i : Int), .func (.func g) #[] caps] w (fun e w' => (∃ v, e = .returned v) ∧ ∃ p, I p 1 w' ∧ p = i) := by
  have H0 := Lib.hid h0
  have HL := Lib.hid hl
  have HR := Lib.hid hr
  clear h0 hl hr
  go_enter Tryd.func92, Tryd.ntmps92
  go_wp2_with fail
  go_loopg [0, 6] N (fun g nv pv wr => ∃ n p : Nat, nv = .int .i64 (n : Int) ∧ pv = .int .i64 (p : Int) ∧ Hid (I p n wr) ∧ p ≤ i ∧ i < p + n ∧ p + n ≤ N ∧ n ≤ g)
  case atStart => exact ⟨N, 0, rfl, rfl, H0, by omega, by omega, by omega, by omega⟩
  case round =>
    obtain ⟨n, p, rfl, rfl, HI, hpi, hin, hpn, hng⟩ := hrel
    by_cases hn : 2 ≤ n
    · have hlt := Mk.sp_lt hn
      have hps := Mk.sp_pos n
      have HSP := Lib.hid fun w => split_calls n hn (by omega) w
      have HL1 := Lib.hid fun h => HL.out p n wr HI.out hpi hin hpn hn h
      have HR1 := Lib.hid fun h => HR.out p n wr HI.out hpi hin hpn hn h
      obtain ⟨k, hk⟩ : ∃ k, Mk.sp n = k := ⟨_, rfl⟩
      rw [hk] at hlt hps HL1 HR1
      simp only [hk] at HSP
      have hd : decide ((n : Int) > 1) = true := decide_eq_true (by omega)
      clear hk
      by_cases hik : i - p < k
      · have hd2 : decide ((i : Int) - (p : Int) < (k : Int)) = true := decide_eq_true (by omega)
        go_wp2_with (first
          | ((with_reducible refine (HSP.out _).mono ?_); rintro e w2 ⟨rfl, rfl⟩)
          | ((with_reducible show wpList _ _ _ (⟨some 26, _, _, _, _, _⟩ :: _) _ _); go_must (refine wpList_callFn rfl (.tmp 17) #[.tmp 18, .tmp 19, .tmp 22, .tmp 25] _ rfl g caps rfl eg ?_))
          | fail)
        rw [show (p : Int) + (k : Int) = ((p + k : Nat) : Int) from by omega, show (n : Int) - (k : Int) = ((n - k : Nat) : Int) from by omega]
        refine (HL1.out hik).mono ?_
        rintro e w3 ⟨⟨v, rfl⟩, hI3⟩
        have HI3 := Lib.hid hI3
        clear hI3
        refine ⟨v, rfl, ?_⟩
        go_wp2_with fail
        go_roundg k
        case measure => omega
        case rel => exact ⟨k, p, rfl, rfl, HI3, hpi, by omega, by omega, by omega⟩
      · have hd2 : decide ((i : Int) - (p : Int) < (k : Int)) = false := by rw [decide_eq_false_iff_not]; omega
        go_wp2_with (first
          | ((with_reducible refine (HSP.out _).mono ?_); rintro e w2 ⟨rfl, rfl⟩)
          | ((with_reducible show wpList _ _ _ (⟨some 37, _, _, _, _, _⟩ :: _) _ _); go_must (refine wpList_callFn rfl (.tmp 28) #[.tmp 31, .tmp 34, .tmp 35, .tmp 36] _ rfl g caps rfl eg ?_))
          | fail)
        rw [show (p : Int) + (k : Int) = ((p + k : Nat) : Int) from by omega, show (n : Int) - (k : Int) = ((n - k : Nat) : Int) from by omega]
        refine (HR1.out (by omega)).mono ?_
        rintro e w3 ⟨⟨v, rfl⟩, hI3⟩
        have HI3 := Lib.hid hI3
        clear hI3
        refine ⟨v, rfl, ?_⟩
        go_wp2_with fail
        go_roundg (n - k)
        case measure => omega
        case rel => exact ⟨n - k, p + k, by go_num, by go_num, HI3, by omega, by omega, by omega, by omega⟩
    · have hn1 : n = 1 := by omega
      subst hn1
      have hd : decide ((((1 : Nat) : Int)) > 1) = false := by decide
      go_wp2_with fail
      go_end0
      exact ⟨⟨_, rfl⟩, p, HI.out, by omega⟩
end Go.Proofs.YtcjeclddpkinkaaDoor
