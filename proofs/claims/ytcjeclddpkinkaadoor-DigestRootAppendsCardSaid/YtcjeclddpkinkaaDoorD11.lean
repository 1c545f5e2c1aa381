/- The contracts of bits.Len, split (both sides), and the reference's Text. -/
import Derived.Test.YtcjeclddpkinkaaDoorB8
import Derived.Test.YtcjeclddpkinkaaDoorS0
import Derived.Lib.BitFns
set_option linter.unusedSimpArgs false
set_option linter.unusedVariables false
namespace Go.Proofs.YtcjeclddpkinkaaDoor
open Go.RowKit
open Wz (Dg)

theorem len_calls (x : Int) (w : World) (h0 : 0 ≤ x) (h1 : x ≤ 18446744073709551615) :
    Calls Tryd.prog 135 #[.int .u64 x] w fun e w' => e = .returned (.int .i64 (Lib.bitLen x.toNat)) ∧ w = w' := (Tryd.bits_Len x w h0 h1).mono fun e w' h => ⟨h.1, h.2.symm⟩
theorem bitLen_log : ∀ (x : Nat), x ≠ 0 → x < 2 ^ 64 → Lib.bitLen x = Nat.log2 x + 1 := by
  intro x
  induction x using Nat.strongRecOn with
  | ind x ih =>
    intro h0 h1
    rw [Lib.bitLen_half x h0 h1]
    by_cases h2 : x / 2 = 0
    · have : x = 1 := by omega
      subst this
      decide
    · rw [ih (x / 2) (by omega) h2 (by omega)]
      conv => rhs; rw [Nat.log2_def]
      rw [if_pos (by omega)]; omega
theorem log_lt {x j : Nat} (h : x < 2 ^ j) (h0 : x ≠ 0) : Nat.log2 x < j := (Nat.log2_lt h0).2 h

set_option maxRecDepth 100000 in
/-- digest.split -/
theorem split_calls (n : Nat) (h : 2 ≤ n) (hn : n ≤ 9223372036854775807) (w : World) :
    Calls Tryd.prog 96 #[.int .i64 (n : Int)] w fun e w' => e = .returned (.int .i64 (Mk.sp n : Int)) ∧ w = w' := by
  have hL := bitLen_log (n - 1) (by omega) (by omega)
  have hj : Nat.log2 (n - 1) < 63 := log_lt (by omega) (by omega)
  have hS : Mk.sp n = 2 ^ Nat.log2 (n - 1) := rfl
  have hlt := Mk.sp_lt h
  have hC := fun w => len_calls ((n : Int) - 1) w (by omega) (by omega)
  rw [show ((n : Int) - 1).toNat = n - 1 from by omega, hL] at hC
  obtain ⟨j, hjj⟩ : ∃ j, Nat.log2 (n - 1) = j := ⟨_, rfl⟩
  rw [hjj] at hj hS
  simp only [hjj] at hC
  obtain ⟨s, hs⟩ : ∃ s, Mk.sp n = s := ⟨_, rfl⟩
  rw [hs] at hS hlt ⊢
  have HC := Lib.hid hC
  have hw : IntKind.i64.wrap ((2 : Int) ^ j) = (s : Int) := by
    rw [IntWalk.i64_in _ (by rw [show ((2 : Int) ^ j) = ((2 ^ j : Nat) : Int) from by rw [Int.natCast_pow]; rfl, ← hS]; omega), hS, Int.natCast_pow]; rfl
  clear hC hL hjj hs hS
  go_enter Tryd.func96, Tryd.ntmps96
  go_wp2_with ((with_reducible refine (HC.out _).mono ?_); rintro e w1 ⟨rfl, rfl⟩)
  go_ret
  exact ⟨rfl, rfl⟩

set_option maxRecDepth 100000 in
/-- the reference's Split -/
theorem refsplit_calls (n : Nat) (h : 2 ≤ n) (hn : n ≤ 9223372036854775807) (w : World) :
    Calls Tryd.prog 95 #[.int .i64 (n : Int)] w fun e w' => e = .returned (.int .i64 (Mk.sp n : Int)) ∧ w = w' := by
  go_enter Tryd.func95, Tryd.ntmps95
  go_wp2_with fail
  go_loopg [3] n (fun g v wr => ∃ j k : Nat, v = .int .i64 (k : Int) ∧ Hid (k = 2 ^ j) ∧ k < n ∧ 1 ≤ k ∧ n - k ≤ g ∧ w = wr)
  case atStart => exact ⟨0, 1, rfl, Lib.hid rfl, by omega, by omega, by omega, rfl⟩
  case round =>
    obtain ⟨j, k, rfl, HK, hk, hk1, hg, rfl⟩ := hrel
    by_cases hlt : k < n - k
    · have hd : decide ((k : Int) < (n : Int) - (k : Int)) = true := decide_eq_true (by omega)
      go_wp2_with fail
      go_roundg (n - 2 * k)
      case measure => omega
      case rel => exact ⟨j + 1, 2 * k, by go_num, Lib.hid (by rw [HK.out, Nat.pow_succ, Nat.mul_comm]), by omega, by omega, by omega, rfl⟩
    · have hd : decide ((k : Int) < (n : Int) - (k : Int)) = false := by rw [decide_eq_false_iff_not]; omega
      have HS : Hid (Mk.sp n = k) := Lib.hid (by rw [HK.out]; exact Mk.sp_eq (by rw [← HK.out]; exact hk) (by rw [← HK.out]; omega))
      go_wp2_with fail
      go_ret
      rw [HS.out]
      exact ⟨rfl, rfl⟩

set_option maxRecDepth 100000 in
/-- the reference's Text -/
theorem text_calls (d : Dg) (w : World) : Calls Tryd.prog 104 #[dgV d] w fun e w' => e = .returned (.string (str d.1)) ∧ Ext w w' := by
  have hl := d.2
  obtain ⟨l, hdl⟩ : ∃ l, d.1 = l := ⟨_, rfl⟩
  rw [hdl] at hl
  have e : dgV d = .agg (u8s l).toArray := by rw [← hdl]
  rw [e, hdl]
  have HL := Lib.hid hl
  clear hl hdl e
  go_enter Tryd.func104, Tryd.ntmps104
  go_upto_region 1 with ((with_reducible show wpList _ _ _ (⟨some 1, _, _, _, _, _⟩ :: _) _ _); go_must (refine wpList_boxAgg 45 _ rfl (.tmp 0) rfl _ rfl ?_))
  have HB : Hid (Blk (w.alloc (Obj.cells (u8s l).toArray 45)) w.heap.size 45 (u8s l) ∧ Ext w (w.alloc (Obj.cells (u8s l).toArray 45))) := Lib.hid ⟨Blk.new _ _ _, (Ext.refl w).alloc _⟩
  have hz : (w.alloc (Obj.cells (u8s l).toArray 45)).heap.size = w.heap.size + 1 := by simp
  generalize w.alloc (Obj.cells (u8s l).toArray 45) = w1 at HB hz ⊢
  have HZ := Lib.hid hz
  clear hz
  have H0 := Lib.hid (Own8.nil w1 w1.heap.size)
  go_wp2_with fail
  go_loopg [3, 4] 16 (fun g v i wr => ∃ j : Nat, i = .int .i64 (j : Int) ∧ j ≤ 16 ∧ 16 - j ≤ g ∧ Own8 wr w1.heap.size v (l.take j) ∧ Below w1.heap.size w1 wr)
  case atStart => exact ⟨0, rfl, by omega, by omega, H0.out, Below.refl _ _⟩
  case round =>
    obtain ⟨j, rfl, hj, hg, ho, hb⟩ := hrel
    have HO := Lib.hid ho
    by_cases hj16 : j < 16
    · have hjl : j < l.length := by rw [HL.out]; exact hj16
      have hcw := ((HB.out.1.below hb).cell j).trans (u8s_at hjl)
      have HT : Hid (l.take (j + 1) = l.take j ++ [l.getD j 0]) := Lib.hid (by rw [List.take_add_one, List.getD, List.getElem?_eq_getElem hjl]; rfl)
      have hlj : (l.take j).length < 140737488355328 := by rw [List.length_take]; omega
      obtain ⟨c, hc⟩ : ∃ c, l.getD j 0 = c := ⟨_, rfl⟩
      rw [hc] at hcw HT
      have hbs := hb.size
      clear hc ho
      go_wp2_with (first
        | ((with_reducible show wpList _ _ _ (⟨some 14, _, _, _, _, _⟩ :: _) _ _); go_must (refine wpList_app8one _ rfl (.tmp 9) (.tmp 13) rfl w1.heap.size _ _ _ rfl HO.out rfl c rfl hlj hbs ?_); intro v3 w3 ho3 hg3 hb3; have B3 := hb3 _ _ (Nat.le_refl _) hb; clear hg3 hb3))
      go_roundg (16 - (j + 1))
      case measure => omega
      case rel =>
        refine ⟨j + 1, by go_num, by omega, by omega, ?_, B3⟩
        rw [HT.out]
        exact ho3
    · have hj' : j = 16 := by omega
      subst hj'
      rw [List.take_of_length_le (by rw [HL.out]; exact Nat.le_refl _)] at ho
      obtain ⟨A1, c1, rfl, hc1, hm1, hr1⟩ := ho.slice
      have HR := Lib.hid hr1
      clear ho hr1
      go_wp2_with (first
        | ((with_reducible show wpList _ _ _ (⟨some 16, _, _, _, _, _⟩ :: _) _ _); go_must (refine wpList_str8 _ rfl (.tmp 15) rfl A1 l.length c1 l rfl HR.out rfl ?_)))
      go_ret
      exact ⟨rfl, HB.out.2.trans hb⟩
end Go.Proofs.YtcjeclddpkinkaaDoor
