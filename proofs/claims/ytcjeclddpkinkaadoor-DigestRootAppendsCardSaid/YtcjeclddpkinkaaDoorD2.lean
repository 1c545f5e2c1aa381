/- SHA-256: the schedule of a block: the contract of the reference's words. -/
import Derived.Test.YtcjeclddpkinkaaDoorD1
import Derived.BigRegion
import Derived.StillTailTactics
set_option linter.unusedSimpArgs false
set_option linter.unusedVariables false
namespace Go.Proofs.YtcjeclddpkinkaaDoor
open Go.RowKit

theorem sl_ro (a b : UInt32) (k : Nat) : sl (ro a b) k = ro (sl a k) (sl b k) := by
  unfold sl ro
  rw [UInt32.shiftLeft_or]
theorem sl_nat (a : UInt32) (k : Nat) (hk : k < 32) : (sl a k).toNat = a.toNat * 2 ^ k % 4294967296 := by
  unfold sl
  rw [UInt32.toNat_shiftLeft, Nat.shiftLeft_eq, UInt32.toNat_ofNat', show k % 2 ^ 32 % 32 = k from by omega]
theorem sl_sl (a : UInt32) (j k : Nat) (h : j + k < 32) : sl (sl a j) k = sl a (j + k) := by
  apply UInt32.toNat_inj.1
  rw [sl_nat _ k (by omega), sl_nat _ j (by omega), sl_nat _ (j + k) h, Nat.mod_mul_mod, Nat.pow_add, Nat.mul_assoc]
theorem wd_four (a b c d : UInt8) : wd [a, b, c, d] = ro (ro (ro (sl (b32 a) 24) (sl (b32 b) 16)) (sl (b32 c) 8)) (b32 d) := by
  have h0 : ro (sl 0 8) (b32 a) = b32 a := by
    unfold ro sl
    rw [show (0 : UInt32) <<< UInt32.ofNat 8 = 0 from by decide, UInt32.zero_or]
  simp only [wd, wdF, List.foldl_cons, List.foldl_nil, h0, sl_ro]
  rw [sl_sl (b32 a) 8 8 (by decide), sl_sl (b32 a) (8 + 8) 8 (by decide), sl_sl (b32 b) 8 8 (by decide)]
theorem shlb (c : UInt8) (k : Nat) (hk : k < 32) : IntKind.u32.wrap ((c.toNat : Int) * 2 ^ k) = ((sl (b32 c) k).toNat : Int) := by rw [← b32_nat, shl32 _ k hk]
theorem take4 (l : List UInt8) (k : Nat) (h : k + 4 ≤ l.length) : (l.drop k).take 4 = [l.getD k 0, l.getD (k + 1) 0, l.getD (k + 2) 0, l.getD (k + 3) 0] := by
  rw [List.drop_eq_getElem_cons (by omega), List.drop_eq_getElem_cons (by omega), List.drop_eq_getElem_cons (by omega), List.drop_eq_getElem_cons (by omega)]
  simp only [List.getD, List.getElem?_eq_getElem (show k < l.length from by omega), List.getElem?_eq_getElem (show k + 1 < l.length from by omega), List.getElem?_eq_getElem (show k + 2 < l.length from by omega), List.getElem?_eq_getElem (show k + 3 < l.length from by omega), Option.getD_some, List.take_succ_cons, List.take_zero]

set_option maxRecDepth 100000 in
/-- the reference's words -/
theorem words_calls (A : Option Addr) (cap : Nat) (l : List UInt8) (w : World) (hr : Rd w A (u8s l)) (hl : l.length = 64) (hcap : 64 ≤ cap) :
    Calls Tryd.prog 86 #[.slice A 64 cap] w (fun e w' => e = .returned (.agg (us (arrW l 64)).toArray) ∧ Below w.heap.size w w') := by
  have HL := Lib.hid hl
  obtain ⟨b, o, rfl, hc⟩ := (RdB.of hr) (by rw [u8s_length, hl]; omega)
  clear hl hr
  go_enter Tryd.func86, Tryd.ntmps86
  go_wp2_with fail
  go_loopg [4] 16 (fun g i wr => ∃ t : Nat, i = .int .i64 (t : Int) ∧ t ≤ 16 ∧ 16 - t ≤ g ∧ Below w.heap.size w wr ∧ Hid (Blk wr (w.heap.size + 1) 139 (us (arrW l t))) ∧ Hid (Blk wr w.heap.size 139 (us arr0)) ∧ w.heap.size + 2 ≤ wr.heap.size)
  case atStart =>
    refine ⟨0, rfl, by omega, by omega, ((Below.refl _ w).alloc (Nat.le_refl _) _).alloc (by simp) _, Lib.hid ?_, Lib.hid ?_, by simp⟩
    · have := Blk.new (w.alloc (.cells (us arr0).toArray 139)) (us arr0) 139
      rw [World.size_alloc] at this
      exact this
    · exact (Blk.new w (us arr0) 139).alloc _
  case round =>
    obtain ⟨t, rfl, ht, hg, hb, HB, HR, hs⟩ := hrel
    by_cases ht16 : t < 16
    · have cl : ∀ k, k < 64 → wr.cell? ⟨b, o + k, none⟩ = some (.int .u8 ((l.getD k 0).toNat : Int)) := fun k hk => (hb.cell (p := ⟨b, o + k, none⟩) hc.1).trans (hc.2 k _ (u8s_at (by rw [HL.out]; exact hk)))
      have hT := take4 l (4 * t) (by rw [HL.out]; omega)
      have HS : Hid (arrW l (t + 1) = (arrW l t).set t (wd ((l.drop (4 * t)).take 4))) := Lib.hid (by rw [arrW, stepW, if_pos ht16])
      rw [hT, wd_four] at HS
      have c0 := cl (4 * t) (by omega)
      have c1 := cl (4 * t + 1) (by omega)
      have c2 := cl (4 * t + 2) (by omega)
      have c3 := cl (4 * t + 3) (by omega)
      have ct := (HB.out.cell t).trans (us_blk t _ (arrW_len l t) (by omega))
      have hfz := HB.out.free t
      obtain ⟨x0, h0⟩ : ∃ x, l.getD (4 * t) 0 = x := ⟨_, rfl⟩
      obtain ⟨x1, h1⟩ : ∃ x, l.getD (4 * t + 1) 0 = x := ⟨_, rfl⟩
      obtain ⟨x2, h2⟩ : ∃ x, l.getD (4 * t + 2) 0 = x := ⟨_, rfl⟩
      obtain ⟨x3, h3⟩ : ∃ x, l.getD (4 * t + 3) 0 = x := ⟨_, rfl⟩
      obtain ⟨z, hz⟩ : ∃ x, (arrW l t).getD t 0 = x := ⟨_, rfl⟩
      rw [h0] at c0 HS; rw [h1] at c1 HS; rw [h2] at c2 HS; rw [h3] at c3 HS; rw [hz] at ct
      clear h0 h1 h2 h3 hz cl hT
      have s0 : IntKind.u32.wrap ((x0.toNat : Int) * 16777216) = _ := shlb x0 24 (by decide)
      have s1 : IntKind.u32.wrap ((x1.toNat : Int) * 65536) = _ := shlb x1 16 (by decide)
      have s2 : IntKind.u32.wrap ((x2.toNat : Int) * 256) = _ := shlb x2 8 (by decide)
      have o1 := or32 (sl (b32 x0) 24) (sl (b32 x1) 16)
      have o2 := or32 (ro (sl (b32 x0) 24) (sl (b32 x1) 16)) (sl (b32 x2) 8)
      have o3 := or32b (ro (ro (sl (b32 x0) 24) (sl (b32 x1) 16)) (sl (b32 x2) 8)) x3
      have u0 := u8_lt x0
      have u1 := u8_lt x1
      have u2 := u8_lt x2
      have u3 := u8_lt x3
      go_wp2_with fail
      go_region
      go_wp2_with fail
      go_roundg (16 - (t + 1))
      case measure => omega
      case rel =>
        refine ⟨t + 1, by go_num, by omega, by omega, (hb.setCell (by simp) _).drew, Lib.hid ?_, Lib.hid ((HR.out.setOther (by simp) _).drew), by simpa using hs⟩
        rw [HS.out, us_set]
        exact (HB.out.set t _).drew
    · have ht' : t = 16 := by omega
      subst ht'
      go_wp2_with fail
      obtain ⟨wo, hwo⟩ : ∃ wo : World, wo = wr := ⟨_, rfl⟩
      subst hwo
      go_loopg [5] 48 (fun g i wr => ∃ t : Nat, i = .int .i64 (t : Int) ∧ 16 ≤ t ∧ t ≤ 64 ∧ 64 - t ≤ g ∧ Below w.heap.size w wr ∧ Hid (Blk wr (w.heap.size + 1) 139 (us (arrW l t))) ∧ Hid (Blk wr w.heap.size 139 (us arr0)) ∧ w.heap.size + 2 ≤ wr.heap.size)
      case atStart => exact ⟨16, rfl, by omega, by omega, by omega, hb, HB, HR, hs⟩
      case round =>
        clear HB HR hs hb
        obtain ⟨t, rfl, ht16, ht, hg2, hb, HB, HR, hs⟩ := hrel
        by_cases ht64 : t < 64
        · have c15 := (HB.out.cell (t - 15)).trans (us_blk (t - 15) _ (arrW_len l t) (by omega))
          have c2 := (HB.out.cell (t - 2)).trans (us_blk (t - 2) _ (arrW_len l t) (by omega))
          have c16 := (HB.out.cell (t - 16)).trans (us_blk (t - 16) _ (arrW_len l t) (by omega))
          have c7 := (HB.out.cell (t - 7)).trans (us_blk (t - 7) _ (arrW_len l t) (by omega))
          have ct := (HB.out.cell t).trans (us_blk t _ (arrW_len l t) (by omega))
          have hfz := HB.out.free t
          have HXL := Lib.hid (arrW_len l t)
          have HS : Hid (arrW l (t + 1) = (arrW l t).set t (ad (ad (ad ((arrW l t).getD (t - 16) 0) (sg0 ((arrW l t).getD (t - 15) 0))) ((arrW l t).getD (t - 7) 0)) (sg1 ((arrW l t).getD (t - 2) 0)))) := Lib.hid (by rw [arrW, stepW, if_neg (by omega)])
          obtain ⟨X, hX⟩ : ∃ X, arrW l t = X := ⟨_, rfl⟩
          rw [hX] at HB HXL HS c15 c2 c16 c7 ct
          clear hX
          obtain ⟨p, hp⟩ : ∃ p, X.getD (t - 15) 0 = p := ⟨_, rfl⟩
          obtain ⟨q, hq⟩ : ∃ q, X.getD (t - 2) 0 = q := ⟨_, rfl⟩
          obtain ⟨a, ha⟩ : ∃ q, X.getD (t - 16) 0 = q := ⟨_, rfl⟩
          obtain ⟨c, hc'⟩ : ∃ q, X.getD (t - 7) 0 = q := ⟨_, rfl⟩
          obtain ⟨z, hz⟩ : ∃ q, X.getD t 0 = q := ⟨_, rfl⟩
          rw [hp] at c15 HS; rw [hq] at c2 HS; rw [ha] at c16 HS; rw [hc'] at c7 HS; rw [hz] at ct
          clear hp hq ha hc' hz
          have x1 := xor32 (rot p 7) (rot p 18)
          have s1 := shr3 p
          have x2 : bits .xor .u32 ((xr (rot p 7) (rot p 18)).toNat : Int) ((sr p 3).toNat : Int) = ((sg0 p).toNat : Int) := xor32 _ _
          have x3 := xor32 (rot q 17) (rot q 19)
          have s2 := shr10 q
          have x4 : bits .xor .u32 ((xr (rot q 17) (rot q 19)).toNat : Int) ((sr q 10).toNat : Int) = ((sg1 q).toNat : Int) := xor32 _ _
          obtain ⟨S0, h0⟩ : ∃ s, sg0 p = s := ⟨_, rfl⟩
          obtain ⟨S1, h1⟩ : ∃ s, sg1 q = s := ⟨_, rfl⟩
          rw [h0] at x2 HS; rw [h1] at x4 HS
          clear h0 h1
          have a1 := add32 a S0
          have a2 := add32 (ad a S0) c
          have a3 := add32 (ad (ad a S0) c) S1
          go_wp2_with fail
          go_quiet (first
            | (with_reducible refine Calls.quiet_of (rotr_lit p 7 7 (by decide) (by decide) (by decide) _))
            | (with_reducible refine Calls.quiet_of (rotr_lit p 18 18 (by decide) (by decide) (by decide) _)))
          go_wp2_with fail
          obtain ⟨w9, hw9⟩ : ∃ v : World, wr.drewN nq = v := ⟨_, rfl⟩
          have d2_9 : w9.cell? ⟨w.heap.size + 1, t - 2, none⟩ = some (.int .u32 (q.toNat : Int)) := by rw [← hw9]; exact c2
          have d16_9 : w9.cell? ⟨w.heap.size + 1, t - 16, none⟩ = some (.int .u32 (a.toNat : Int)) := by rw [← hw9]; exact c16
          have d7_9 : w9.cell? ⟨w.heap.size + 1, t - 7, none⟩ = some (.int .u32 (c.toNat : Int)) := by rw [← hw9]; exact c7
          have dt_9 : w9.cell? ⟨w.heap.size + 1, t, none⟩ = some (.int .u32 (z.toNat : Int)) := by rw [← hw9]; exact ct
          have df_9 : w9.frozen? ⟨w.heap.size + 1, t, none⟩ = false := by rw [← hw9]; exact hfz
          have hb_9 : Below w.heap.size w w9 := by rw [← hw9]; exact below_drewN hb _
          have HB_9 : Hid (Blk w9 (w.heap.size + 1) 139 (us X)) := Lib.hid (by rw [← hw9]; exact HB.out.drewN _)
          have HR_9 : Hid (Blk w9 w.heap.size 139 (us arr0)) := Lib.hid (by rw [← hw9]; exact HR.out.drewN _)
          have hs_9 : w.heap.size + 2 ≤ w9.heap.size := by rw [← hw9]; exact hs
          simp only [hw9]
          clear hw9
          go_quiet (first
            | (with_reducible refine Calls.quiet_of (rotr_lit q 17 17 (by decide) (by decide) (by decide) _))
            | (with_reducible refine Calls.quiet_of (rotr_lit q 19 19 (by decide) (by decide) (by decide) _)))
          go_wp2_with fail
          obtain ⟨w10, hw10⟩ : ∃ v : World, w9.drewN nq = v := ⟨_, rfl⟩
          have d2_10 : w10.cell? ⟨w.heap.size + 1, t - 2, none⟩ = some (.int .u32 (q.toNat : Int)) := by rw [← hw10]; exact d2_9
          have d16_10 : w10.cell? ⟨w.heap.size + 1, t - 16, none⟩ = some (.int .u32 (a.toNat : Int)) := by rw [← hw10]; exact d16_9
          have d7_10 : w10.cell? ⟨w.heap.size + 1, t - 7, none⟩ = some (.int .u32 (c.toNat : Int)) := by rw [← hw10]; exact d7_9
          have dt_10 : w10.cell? ⟨w.heap.size + 1, t, none⟩ = some (.int .u32 (z.toNat : Int)) := by rw [← hw10]; exact dt_9
          have df_10 : w10.frozen? ⟨w.heap.size + 1, t, none⟩ = false := by rw [← hw10]; exact df_9
          have hb_10 : Below w.heap.size w w10 := by rw [← hw10]; exact below_drewN hb_9 _
          have HB_10 : Hid (Blk w10 (w.heap.size + 1) 139 (us X)) := Lib.hid (by rw [← hw10]; exact HB_9.out.drewN _)
          have HR_10 : Hid (Blk w10 w.heap.size 139 (us arr0)) := Lib.hid (by rw [← hw10]; exact HR_9.out.drewN _)
          have hs_10 : w.heap.size + 2 ≤ w10.heap.size := by rw [← hw10]; exact hs_9
          simp only [hw10]
          clear hw10
          go_region
          go_wp2_with fail
          go_roundg (64 - (t + 1))
          case measure => omega
          case rel =>
            refine ⟨t + 1, by go_num, by omega, by omega, by omega, (hb_10.setCell (by simp) _).drew, Lib.hid ?_, Lib.hid ((HR_10.out.setOther (by simp) _).drew), by simpa using hs_10⟩
            rw [HS.out, us_set]
            exact (HB_10.out.set t _).drew
        · have ht' : t = 64 := by omega
          subst ht'
          go_wp2_with (first
            | ((with_reducible show wpList _ _ _ (⟨some 100, _, _, _, _, _⟩ :: _) _ _); go_must (refine wpList_loadAgg agg_w wr rfl (.tmp 3) rfl (w.heap.size + 1) 0 rfl (us (arrW l 64)) (by rw [us_length, arrW_len]) HB.out.agg ?_))
            | ((with_reducible show wpList _ _ _ (⟨Option.none, _, _, _, _, _⟩ :: _) _ _); go_must (refine wpList_storeBlk agg_w wr w.heap.size 139 _ HR.out rfl (.tmp 2) (.tmp 100) rfl rfl (us (arrW l 64)) rfl (by rw [us_length, arrW_len]) (by rw [us_length]; rfl) (us_one _) ?_); intro w2 hB2 hg2))
          refine bodyPost_ret (results_cell rfl agg_w _ w2 w.heap.size rfl (us (arrW l 64)) (by rw [us_length, arrW_len]) 139 hB2) rfl ?_
          exact ⟨rfl, below_grownB hb hg2 (Nat.le_refl _) (by omega)⟩
end Go.Proofs.YtcjeclddpkinkaaDoor
