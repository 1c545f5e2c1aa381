/- The contract of Prove. -/
import Derived.Test.YtcjeclddpkinkaaDoorD17
set_option linter.unusedSimpArgs false
set_option linter.unusedVariables false
namespace Go.Proofs.YtcjeclddpkinkaaDoor
open Go.RowKit
open Wz (Dg)

theorem part_take (L : List Dg) (p m k : Nat) (h : k ≤ m) : ((L.drop p).take m).take k = (L.drop p).take k := by rw [List.take_take, Nat.min_eq_left h]
theorem part_drop (L : List Dg) (p m k : Nat) : ((L.drop p).take m).drop k = (L.drop (p + k)).take (m - k) := by rw [List.drop_take, List.drop_drop]
theorem part_len (L : List Dg) (p m N : Nat) (hL : L.length = N) (h : p + m ≤ N) : ((L.drop p).take m).length = m := by rw [List.length_take, List.length_drop]; omega

set_option maxRecDepth 100000 in
set_option maxHeartbeats 400000 in
theorem prove_bad (A : Option Addr) (N c : Nat) (i : Int) (w : World) (hi : i < 0 ∨ (N : Int) ≤ i) :
    Calls Tryd.prog 34 #[.slice A N c, .int .i64 i] w (fun e w' => e = .returned (.tuple #[.slice none 0 0, .int .i64 12]) ∧ Ext w w') := by
  by_cases h0 : i < 0
  · have hd : decide (i < 0) = true := decide_eq_true h0
    clear hi h0
    go_enter Tryd.func34, Tryd.ntmps34
    go_wp2
    go_ret2
    exact ⟨rfl, (Ext.refl w).alloc _⟩
  · have hd : decide (i < 0) = false := decide_eq_false h0
    have hd2 : decide (i ≥ (N : Int)) = true := decide_eq_true (by omega)
    clear hi h0
    go_enter Tryd.func34, Tryd.ntmps34
    go_wp2
    go_ret2
    exact ⟨rfl, (Ext.refl w).alloc _⟩

/-- what Prove's descent keeps -/
def DsI (w0 : World) (n i : Nat) (A : Option Addr) (N c : Nat) (L : List Dg) (p m : Nat) (w : World) : Prop :=
  ∃ v out, PrI w n v out A N c L ∧ Below n w0 w ∧ Mk.proveF shF ((L.drop p).take m) (i - p) ++ out.reverse = Mk.proveF shF L i ∧ out.length + m ≤ N

set_option maxRecDepth 100000 in
set_option maxHeartbeats 600000 in
theorem prove_calls (A : Option Addr) (N c i : Nat) (L : List Dg) (w : World) (hr : Rd w A (dgs L)) (hL : L.length = N) (hc : N ≤ c) (hN : N ≤ 1000000) (hi : i < N) (hG : Glo w) :
    Calls Tryd.prog 34 #[.slice A N c, .int .i64 (i : Int)] w (fun e w' => ∃ v, e = .returned (.tuple #[v, .int .i64 0]) ∧ OwnD w' w.heap.size v (Mk.proveF shF L i) ∧ Ext w w') := by
  have hd : decide ((i : Int) < 0) = false := by rw [decide_eq_false_iff_not]; omega
  have hd2 : decide ((i : Int) ≥ (N : Int)) = false := by rw [decide_eq_false_iff_not]; omega
  have HR := Lib.hid (RdB.of hr)
  have HL := Lib.hid hL
  have HG := Lib.hid hG
  have hG3 := hG.lt
  obtain ⟨n, hn⟩ : ∃ n, w.heap.size = n := ⟨_, rfl⟩
  rw [hn] at HR hG3 ⊢
  have HN := Lib.hid hn
  clear hr hL hG
  go_enter Tryd.func34, Tryd.ntmps34
  go_upto_region 4 with fail
  have HW : Hid (PrI ((w.alloc (Obj.cells #[.slice A N c] 63)).alloc (Obj.cells #[.slice none 0 0] 63)) n (.slice none 0 0) [] A N c L ∧ Below n w ((w.alloc (Obj.cells #[.slice A N c] 63)).alloc (Obj.cells #[.slice none 0 0] 63))) := by
    have h1 := Boxed.new w 63 (.slice A N c)
    have h2 := Boxed.new (w.alloc (Obj.cells #[.slice A N c] 63)) 63 (.slice none 0 0)
    rw [hn] at h1
    rw [World.size_alloc, hn] at h2
    have hb : Below n w ((w.alloc (Obj.cells #[.slice A N c] 63)).alloc (Obj.cells #[.slice none 0 0] 63)) := by
      rw [← hn]; exact ((Ext.refl w).alloc _).alloc _
    exact Lib.hid ⟨⟨h2, OwnD.nil _ _, h1.alloc _, HR.out.kept fun b hb' => hb.block b hb'⟩, hb⟩
  generalize (w.alloc (Obj.cells #[.slice A N c] 63)).alloc (Obj.cells #[.slice none 0 0] 63) = w1 at HW ⊢
  have HDS : Hid (Calls Tryd.prog 92 #[.int .i64 (N : Int), .int .i64 (i : Int), .func (.func 93) #[] #[.pointer (some ⟨n + 1, 0, none⟩), .pointer (some ⟨n, 0, none⟩)]] w1 (fun e w' => (∃ v, e = .returned v) ∧ ∃ p, DsI w n i A N c L p 1 w' ∧ p = i)) := by
    refine Lib.hid (descend_calls 93 _ (enters_of Tryd.func93 (by kernel_rfl) rfl) N i hi (by omega) (DsI w n i A N c L) ?_ ?_ w1 ?_)
    · rintro p m w2 ⟨v, out, hP, hb, he, hlen⟩ hpi hin hpn hm hk
      have hlt := Mk.sp_lt hm
      have hps := Mk.sp_pos m
      have hpl := part_len L p m N HL.out hpn
      refine (prove1_calls (p : Int) (Mk.sp m : Int) (p + Mk.sp m) (m - Mk.sp m) n v out A N c L w2 hP HL.out hc hN (by omega) (by omega) (HG.out.below hb hG3)).mono ?_
      rintro e w3 ⟨hv, v', hP', hb'⟩
      refine ⟨hv, v', _, hP', hb' n w (Nat.le_refl _) hb, ?_, by rw [List.length_append, List.length_singleton]; omega⟩
      rw [List.reverse_append, ← he, Mk.prove_left shF (l := (L.drop p).take m) (by rw [hpl]; omega) (by rw [hpl]; exact hk), hpl, part_take L p m _ (by omega), part_drop, List.append_assoc]
      rfl
    · rintro p m w2 ⟨v, out, hP, hb, he, hlen⟩ hpi hin hpn hm hk
      have hlt := Mk.sp_lt hm
      have hps := Mk.sp_pos m
      have hpl := part_len L p m N HL.out hpn
      refine (prove1_calls ((p + Mk.sp m : Nat) : Int) ((m - Mk.sp m : Nat) : Int) p (Mk.sp m) n v out A N c L w2 hP HL.out hc hN (by omega) (by omega) (HG.out.below hb hG3)).mono ?_
      rintro e w3 ⟨hv, v', hP', hb'⟩
      refine ⟨hv, v', _, hP', hb' n w (Nat.le_refl _) hb, ?_, by rw [List.length_append, List.length_singleton]; omega⟩
      rw [List.reverse_append, ← he, Mk.prove_right shF (l := (L.drop p).take m) (by rw [hpl]; omega) (by rw [hpl]; exact hk), hpl, part_take L p m _ (by omega), part_drop, List.append_assoc, Nat.sub_sub]
      rfl
    · refine ⟨_, [], HW.out.1, HW.out.2, ?_, by simp⟩
      rw [List.drop_zero, List.take_of_length_le (by rw [HL.out]; exact Nat.le_refl _), Nat.sub_zero]
      simp
  have hlp := Mk.prove_len shF L i
  have hcl := HW.out.1.bl.cell
  clear HW
  go_wp2_with ((with_reducible refine HDS.out.mono ?_))
  clear hcl
  rintro e w2 ⟨⟨v0, rfl⟩, p, ⟨v, out, hP, hb, he, hlen⟩, rfl⟩
  have he' : out.reverse = Mk.proveF shF L p := by
    rw [← he, Mk.prove_one shF (by rw [List.length_take]; omega)]
    rfl
  have hbo := hP.bo
  have hown := hP.own
  have hcell := hbo.cell
  have HRV := Lib.hid (reverse_own (n + 2) v out w2 hown (by omega))
  have HB := Lib.hid hb
  have HE := Lib.hid he'
  have HBO := Lib.hid hbo
  have HO := Lib.hid hown
  clear hb he he' hbo hown hP HDS hlen
  obtain ⟨A2, c2, rfl, _, _, _⟩ := HO.out.slice
  go_wp2_with ((with_reducible refine HRV.out.mono ?_); rintro e w3 ⟨⟨v1, rfl⟩, ho3, hg3⟩; have hcell3 := (HBO.out.kept hg3 (HBO.out.not_row (by decide) HO.out)).cell)
  go_ret2
  refine ⟨_, rfl, ?_, ?_⟩
  · rw [← HE.out]; exact ho3.rebase (by omega)
  · have h1 : Below n w w2 := HB.out
    have h2 : Below w.heap.size w w2 := by rw [HN.out]; exact HB.out
    exact Below.grown h2 hg3 (by rw [HN.out]; have := HBO.out.lt; omega) (fun k hk => by have := (HO.out.base_le k hk).1; rw [HN.out]; omega)
end Go.Proofs.YtcjeclddpkinkaaDoor
