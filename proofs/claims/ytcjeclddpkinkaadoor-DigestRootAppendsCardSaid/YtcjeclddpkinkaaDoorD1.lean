/- SHA-256: the schedule of a block: the plain law, and the contract of digest.schedule. -/
import Derived.Test.YtcjeclddpkinkaaDoorD0
import Derived.BigQuiet
set_option linter.unusedSimpArgs false
set_option linter.unusedVariables false
namespace Go.Proofs.YtcjeclddpkinkaaDoor
open Go.RowKit

def sg0 (p : UInt32) : UInt32 := xr (xr (rot p 7) (rot p 18)) (sr p 3)
def sg1 (q : UInt32) : UInt32 := xr (xr (rot q 17) (rot q 19)) (sr q 10)
def b32 (c : UInt8) : UInt32 := UInt32.ofNat c.toNat
theorem b32_nat (c : UInt8) : ((b32 c).toNat : Int) = (c.toNat : Int) := by
  have := c.toNat_lt
  unfold b32
  rw [UInt32.toNat_ofNat']; omega
/-- a word of bytes, the highest first -/
def wdF (a : UInt32) (l : List UInt8) : UInt32 := l.foldl (fun a c => ro (sl a 8) (b32 c)) a
def wd (l : List UInt8) : UInt32 := wdF 0 l
theorem wd_snoc (l : List UInt8) (c : UInt8) : wd (l ++ [c]) = ro (sl (wd l) 8) (b32 c) := by simp [wd, wdF]
def arr0 : List UInt32 := List.replicate 64 0
def stepW (l : List UInt8) (X : List UInt32) (t : Nat) : UInt32 :=
  if t < 16 then wd ((l.drop (4 * t)).take 4) else ad (ad (ad (X.getD (t - 16) 0) (sg0 (X.getD (t - 15) 0))) (X.getD (t - 7) 0)) (sg1 (X.getD (t - 2) 0))
/-- the schedule, after t words -/
def arrW (l : List UInt8) : Nat → List UInt32
  | 0 => arr0
  | t + 1 => (arrW l t).set t (stepW l (arrW l t) t)
theorem arrW_len (l : List UInt8) : ∀ t, (arrW l t).length = 64
  | 0 => by simp [arrW, arr0]
  | t + 1 => by rw [arrW, List.length_set, arrW_len l t]
theorem arrW_zero (l : List UInt8) : ∀ t j, t ≤ j → (arrW l t).getD j 0 = 0
  | 0, j, _ => by
    simp only [arrW, arr0, List.getD, List.getElem?_replicate]
    split <;> rfl
  | t + 1, j, h => by
    have := arrW_zero l t j (by omega)
    simp only [arrW, List.getD, List.getElem?_set] at this ⊢
    rw [if_neg (by omega)]
    exact this
theorem set_same {X : List UInt32} {t : Nat} {x : UInt32} (hx : X.getD t 0 = x) (h : t < X.length) : X.set t x = X := by
  rw [← hx, List.getD, List.getElem?_eq_getElem h]
  exact List.set_getElem_self h
theorem set_set (X : List UInt32) (t : Nat) (x y : UInt32) : (X.set t x).set t y = X.set t y := by simp

theorem shl8 (a : UInt32) : IntKind.u32.wrap ((a.toNat : Int) * 256) = ((sl a 8).toNat : Int) := shl32 a 8 (by decide)
theorem shr3 (a : UInt32) : (a.toNat : Int) / 8 = ((sr a 3).toNat : Int) := shr32 a 3 (by decide)
theorem shr10 (a : UInt32) : (a.toNat : Int) / 1024 = ((sr a 10).toNat : Int) := shr32 a 10 (by decide)
theorem or32b (a : UInt32) (c : UInt8) : bits .or .u32 (a.toNat : Int) (c.toNat : Int) = ((ro a (b32 c)).toNat : Int) := by rw [← b32_nat, or32]
theorem us_blk (t : Nat) (X : List UInt32) (h : X.length = 64) (ht : t < 64) : (us X)[t]? = some (.int .u32 ((X.getD t 0).toNat : Int)) := us_at (by omega)
theorem agg_w : AggOf Tryd.prog 139 64 := ⟨by kernel_rfl, by kernel_rfl⟩

set_option maxRecDepth 100000 in
/-- digest.schedule -/
theorem schedule_calls (A : Option Addr) (cap : Nat) (l : List UInt8) (w : World) (hr : Rd w A (u8s l)) (hl : l.length = 64) (hcap : 64 ≤ cap) :
    Calls Tryd.prog 131 #[.slice A 64 cap] w (fun e w' => e = .returned (.agg (us (arrW l 64)).toArray) ∧ Below w.heap.size w w') := by
  have HL := Lib.hid hl
  clear hl
  go_enter Tryd.func131, Tryd.ntmps131
  go_wp2_with fail
  go_loopg [11] 64 (fun g i wr => ∃ t : Nat, i = .int .i64 (t : Int) ∧ t ≤ 64 ∧ 64 - t ≤ g ∧ Below w.heap.size w wr ∧ Hid (Blk wr (w.heap.size + 1) 139 (us (arrW l t))) ∧ Hid (Blk wr w.heap.size 139 (us arr0)) ∧ w.heap.size + 2 ≤ wr.heap.size)
  case atStart =>
    refine ⟨0, rfl, by omega, by omega, ((Below.refl _ w).alloc (Nat.le_refl _) _).alloc (by simp) _, Lib.hid ?_, Lib.hid ?_, by simp⟩
    · have := Blk.new (w.alloc (.cells (us arr0).toArray 139)) (us arr0) 139
      rw [World.size_alloc] at this
      exact this
    · exact (Blk.new w (us arr0) 139).alloc _
  case round =>
    obtain ⟨t, rfl, ht, hg, hb, HB, HR, hs⟩ := hrel
    by_cases ht64 : t < 64
    · by_cases ht16 : t < 16
      · have hr1 := hr.below hb
        have h4 : ((4 * t : Nat) : Int) = 4 * (t : Int) := by omega
        obtain ⟨i0, hi, hz0, hz1, hz2⟩ := info_parts info_u8
        go_wp2_with (first | ((with_reducible show wpList _ _ _ (⟨some 22, _, _, _, _, _⟩ :: _) _ _); go_must (refine wpList_sliceB wr rfl (.tmp 16) (some (.tmp 18)) (some (.tmp 21)) 34 rfl 5 i0 1 Tryd.underlying34 hi hz1 A 64 cap (u8s l) rfl hr1 hcap (4 * t) (4 * t + 4) (.inr ⟨_, .i64, rfl, rfl⟩) (.inr ⟨_, .i64, rfl, rfl⟩) (by omega) (by omega) ?_); intro A' hrA hAA))
        obtain ⟨b, hbb⟩ : ∃ b, (l.drop (4 * t)).take 4 = b := ⟨_, rfl⟩
        have hb4 : b.length = 4 := by rw [← hbb, List.length_take, List.length_drop, HL.out]; omega
        have hrB : RdB wr w.heap.size A' (u8s b) := by
          have e : ((u8s l).drop (4 * t * 1)).take ((4 * t + 4 - 4 * t) * 1) = u8s b := by
            rw [← hbb, Nat.mul_one, Nat.mul_one, Nat.add_sub_cancel_left]
            simp [u8s, List.map_drop, List.map_take]
          rw [e] at hrA
          exact ((RdB.of hr).kept hb.block).cut hrA hAA fun _ => by rw [u8s_length, HL.out]; omega
        have hX0 := arrW_zero l t t (Nat.le_refl _)
        have HXL := Lib.hid (arrW_len l t)
        have HS : Hid (arrW l (t + 1) = (arrW l t).set t (wd b)) := Lib.hid (by rw [arrW, stepW, if_pos ht16, hbb])
        obtain ⟨X, hX⟩ : ∃ X, arrW l t = X := ⟨_, rfl⟩
        rw [hX] at HB hX0 HXL HS
        have HX0 : Hid (X.set t (wd (b.take 0)) = X) := Lib.hid (by rw [List.take_zero]; exact set_same hX0 (by rw [HXL.out]; exact ht64))
        clear hX hrA hbb hX0
        have HB4 := Lib.hid hb4
        clear hb4
        obtain ⟨wo, hwo⟩ : ∃ wo : World, wo = wr := ⟨_, rfl⟩
        subst hwo
        go_loopg [24] 4 (fun g i wr => ∃ j : Nat, i = .int .i64 (j : Int) ∧ j ≤ 4 ∧ 4 - j ≤ g ∧ Below w.heap.size w wr ∧ Hid (Blk wr (w.heap.size + 1) 139 (us (X.set t (wd (b.take j))))) ∧ Hid (Blk wr w.heap.size 139 (us arr0)) ∧ w.heap.size + 2 ≤ wr.heap.size ∧ Hid (RdB wr w.heap.size A' (u8s b)))
        case atStart => exact ⟨0, rfl, by omega, by omega, hb, by rw [HX0.out]; exact HB, HR, hs, Lib.hid hrB⟩
        case round =>
          obtain ⟨j, rfl, hj, hjg, hb2, HB2, HR2, hs2, HRB⟩ := hrel
          by_cases hj4 : j < 4
          · obtain ⟨B', o, rfl, hBB, hc⟩ := HRB.out (by rw [u8s_length, HB4.out]; omega)
            have hcb := hc j _ (u8s_at (by rw [HB4.out]; exact hj4))
            have hcw := (HB2.out.cell t).trans (us_blk t _ (by rw [List.length_set, HXL.out]) ht64)
            rw [show (X.set t (wd (b.take j))).getD t 0 = wd (b.take j) from by rw [List.getD, List.getElem?_set_self (by rw [HXL.out]; exact ht64)]; rfl] at hcw
            have hfz := HB2.out.free t
            have hs8 := shl8 (wd (b.take j))
            have hor := or32b (sl (wd (b.take j)) 8) (b.getD j 0)
            have hw8 := u8_lt (b.getD j 0)
            obtain ⟨c, hcc⟩ : ∃ c, b.getD j 0 = c := ⟨_, rfl⟩
            rw [hcc] at hcb hor hw8
            have HN : Hid (ro (sl (wd (b.take j)) 8) (b32 c) = wd (b.take (j + 1))) := Lib.hid (by
              rw [← wd_snoc, ← hcc]
              congr 1
              rw [List.take_add_one, List.getD, List.getElem?_eq_getElem (by rw [HB4.out]; exact hj4)]; rfl)
            rw [HN.out] at hor
            clear hcc HN hc
            obtain ⟨y, hy⟩ : ∃ y, wd (b.take j) = y := ⟨_, rfl⟩
            obtain ⟨z, hz⟩ : ∃ z, wd (b.take (j + 1)) = z := ⟨_, rfl⟩
            rw [hy] at HB2
            rw [hy] at hcw hs8 hor
            rw [hz] at hor
            have HZ := Lib.hid hz
            clear hy hz
            go_wp2_with fail
            go_roundg (4 - (j + 1))
            case measure => omega
            case rel =>
              refine ⟨j + 1, by go_num, by omega, by omega, hb2.setCell (by simp) _, Lib.hid ?_, Lib.hid (HR2.out.setOther (by simp) _), by simpa using hs2, Lib.hid (HRB.out.kept fun b hbl => Below.heap_setCell _ _ _ _ (by show b ≠ w.heap.size + 1; omega))⟩
              rw [HZ.out]
              have := HB2.out.set t (u z)
              rw [← us_set, set_set] at this
              exact this
          · have hj4' : j = 4 := by omega
            subst hj4'
            go_wp2_with fail
            go_roundg (64 - (t + 1))
            case measure => omega
            case rel =>
              refine ⟨t + 1, by go_num, by omega, by omega, hb2, ?_, HR2, hs2⟩
              rw [HS.out]
              have := HB2
              rw [List.take_of_length_le (by rw [HB4.out]; omega)] at this
              exact this
      · have hb16 : 16 ≤ t := by omega
        have c15 := (HB.out.cell (t - 15)).trans (us_blk (t - 15) _ (arrW_len l t) (by omega))
        have c2 := (HB.out.cell (t - 2)).trans (us_blk (t - 2) _ (arrW_len l t) (by omega))
        have c16 := (HB.out.cell (t - 16)).trans (us_blk (t - 16) _ (arrW_len l t) (by omega))
        have c7 := (HB.out.cell (t - 7)).trans (us_blk (t - 7) _ (arrW_len l t) (by omega))
        have ct := (HB.out.cell t).trans (us_blk t _ (arrW_len l t) (by omega))
        have hfz := HB.out.free t
        have HXL := Lib.hid (arrW_len l t)
        have HS : Hid (arrW l (t + 1) = (arrW l t).set t (ad (ad (ad ((arrW l t).getD (t - 16) 0) (sg0 ((arrW l t).getD (t - 15) 0))) ((arrW l t).getD (t - 7) 0)) (sg1 ((arrW l t).getD (t - 2) 0)))) := Lib.hid (by rw [arrW, stepW, if_neg ht16])
        obtain ⟨X, hX⟩ : ∃ X, arrW l t = X := ⟨_, rfl⟩
        rw [hX] at HB HXL HS c15 c2 c16 c7 ct
        clear hX
        obtain ⟨p, hp⟩ : ∃ p, X.getD (t - 15) 0 = p := ⟨_, rfl⟩
        obtain ⟨q, hq⟩ : ∃ q, X.getD (t - 2) 0 = q := ⟨_, rfl⟩
        obtain ⟨a, ha⟩ : ∃ q, X.getD (t - 16) 0 = q := ⟨_, rfl⟩
        obtain ⟨c, hc⟩ : ∃ q, X.getD (t - 7) 0 = q := ⟨_, rfl⟩
        obtain ⟨z, hz⟩ : ∃ q, X.getD t 0 = q := ⟨_, rfl⟩
        rw [hp] at c15 HS; rw [hq] at c2 HS; rw [ha] at c16 HS; rw [hc] at c7 HS; rw [hz] at ct
        clear hp hq ha hc hz
        have x1 := xor32 (rot p 7) (rot p 18)
        have s1 := shr3 p
        have x2 : bits .xor .u32 ((xr (rot p 7) (rot p 18)).toNat : Int) ((sr p 3).toNat : Int) = ((sg0 p).toNat : Int) := xor32 _ _
        have x3 := xor32 (rot q 17) (rot q 19)
        have s2 := shr10 q
        have x4 : bits .xor .u32 ((xr (rot q 17) (rot q 19)).toNat : Int) ((sr q 10).toNat : Int) = ((sg1 q).toNat : Int) := xor32 _ _
        obtain ⟨S0, h0⟩ : ∃ s, sg0 p = s := ⟨_, rfl⟩
        obtain ⟨S1, h1⟩ : ∃ s, sg1 q = s := ⟨_, rfl⟩
        rw [h0] at x2 HS; rw [h1] at x4 HS
        clear h0 h1
        have a1 := add32 a S0
        have a2 := add32 (ad a S0) c
        have a3 := add32 (ad (ad a S0) c) S1
        go_wp2_with fail
        go_quiet (fail)
        go_wp2_with (first
          | ((with_reducible refine (rotl_lit p (-7) 7 (by decide) (by decide) (by decide) _).mono ?_); rintro e wX ⟨rfl, rfl⟩)
          | ((with_reducible refine (rotl_lit p (-18) 18 (by decide) (by decide) (by decide) _).mono ?_); rintro e wX ⟨rfl, rfl⟩)
          | ((with_reducible refine (rotl_lit q (-17) 17 (by decide) (by decide) (by decide) _).mono ?_); rintro e wX ⟨rfl, rfl⟩)
          | ((with_reducible refine (rotl_lit q (-19) 19 (by decide) (by decide) (by decide) _).mono ?_); rintro e wX ⟨rfl, rfl⟩))
        go_region
        go_wp2_with fail
        go_roundg (64 - (t + 1))
        case measure => omega
        case rel =>
          refine ⟨t + 1, by go_num, by omega, by omega, (below_drewN hb _).setCell (by simp) _, Lib.hid ?_, Lib.hid ((HR.out.drewN _).setOther (by simp) _), by simpa using hs⟩
          rw [HS.out, us_set]
          exact (HB.out.drewN _).set t _
    · have ht' : t = 64 := by omega
      subst ht'
      go_wp2_with (first
        | ((with_reducible show wpList _ _ _ (⟨some 78, _, _, _, _, _⟩ :: _) _ _); go_must (refine wpList_loadAgg agg_w wr rfl (.tmp 3) rfl (w.heap.size + 1) 0 rfl (us (arrW l 64)) (by rw [us_length, arrW_len]) HB.out.agg ?_))
        | ((with_reducible show wpList _ _ _ (⟨Option.none, _, _, _, _, _⟩ :: _) _ _); go_must (refine wpList_storeBlk agg_w wr w.heap.size 139 _ HR.out rfl (.tmp 2) (.tmp 78) rfl rfl (us (arrW l 64)) rfl (by rw [us_length, arrW_len]) (by rw [us_length]; rfl) (us_one _) ?_); intro w2 hB2 hg2))
      refine bodyPost_ret (results_cell rfl agg_w _ w2 w.heap.size rfl (us (arrW l 64)) (by rw [us_length, arrW_len]) 139 hB2) rfl ?_
      exact ⟨rfl, below_grownB hb hg2 (Nat.le_refl _) (by omega)⟩
end Go.Proofs.YtcjeclddpkinkaaDoor
