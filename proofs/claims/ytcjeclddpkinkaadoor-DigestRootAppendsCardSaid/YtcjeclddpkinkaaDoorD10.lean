/- The contracts of Of, and of the reference's Short and Of. -/
import Derived.Test.YtcjeclddpkinkaaDoorD9
set_option linter.unusedSimpArgs false
set_option linter.unusedVariables false
namespace Go.Proofs.YtcjeclddpkinkaaDoor
open Go.RowKit
open Wz (Dg)

set_option maxRecDepth 100000 in
set_option maxHeartbeats 400000 in
/-- digest.Of -/
theorem of_calls (tag : Int) (A : Option Addr) (N c : Nat) (ps : List (List UInt8)) (w : World) (hr : Rd w A (strs ps)) (hN : ps.length = N) (hN2 : N ≤ 1000) (hps : ∀ p ∈ ps, p.length ≤ 1000000) (hG : Glo w) :
    Calls Tryd.prog 26 #[.int .i64 tag, .slice A N c] w (RetDg w (ofF tag ps)) := by
  have HD : Hid (ofF tag ps = shF (inpI tag ps)) := Lib.hid rfl
  have hil := inpI_len tag ps hps
  have HC := Lib.hid fun w hr => input_calls tag A N c ps w hr hN hN2 hps
  obtain ⟨I, hI⟩ : ∃ I, inpI tag ps = I := ⟨_, rfl⟩
  rw [hI] at hil HD HC
  have hil2 : I.length ≤ 100000000000 := by omega
  obtain ⟨d, hd⟩ : ∃ d, ofF tag ps = d := ⟨_, rfl⟩
  rw [hd] at HD ⊢
  clear hil hI hd hN hps
  go_enter Tryd.func26, Tryd.ntmps26
  go_upto_region 1 with fail
  generalize hW0 : w.alloc _ = W0
  have E0 : Ext w W0 := hW0 ▸ (Ext.refl w).alloc _
  have R0 : Blk W0 w.heap.size 45 (u8s (List.replicate 16 0)) := hW0 ▸ Blk.new w (u8s (List.replicate 16 0)) 45
  have HR0 := Lib.hid R0
  have HE0 := Lib.hid E0
  have HGG := Lib.hid (hG.ext E0)
  have HRR := Lib.hid (hr.ext E0)
  obtain ⟨n, hn⟩ : ∃ n, w.heap.size = n := ⟨_, rfl⟩
  have HNn := Lib.hid hn
  simp only [hn] at HR0 ⊢
  clear hW0 E0 R0 hr hn hG
  go_wp2_with (first
    | ((with_reducible refine (HC.out _ HRR.out).mono ?_); rintro e w1 ⟨v1, rfl, ho1, hb1⟩; obtain ⟨A1, c1, rfl, hc1, hm1, hr1⟩ := ho1.slice; have E1 : Ext W0 w1 := hb1; have HR1 := Lib.hid hr1; clear ho1 hr1 hc1 hm1)
    | ((with_reducible refine (short_calls A1 I.length c1 I _ HR1.out rfl hil2 (HGG.out.ext E1)).mono ?_); rintro e w2 ⟨rfl, E2⟩; rw [← HD.out])
    | ((with_reducible show wpList _ _ _ (⟨Option.none, .store _ (.tmp 4) _, _, _, _, _⟩ :: _) _ _); go_must (refine wpList_storeBlk agg_dg _ n 45 _ ((HR0.out.below E1).below E2) rfl (.tmp 4) (.tmp 8) rfl rfl (u8s d.1) rfl (dg_len d) rfl (u8s_one _) ?_); intro w3 hB3 hg3)
    | fail)
  refine bodyPost_ret (results_cell rfl agg_dg _ w3 n rfl (u8s d.1) (dg_len d) 45 hB3) rfl ?_
  exact ⟨rfl, Below.grown ((HE0.out.trans E1).trans E2) hg3 ((HE0.out.trans E1).trans E2).size (fun k hk => by have := Option.some.inj hk; have := HNn.out; omega)⟩

set_option maxRecDepth 100000 in
set_option maxHeartbeats 400000 in
/-- the reference's Short -/
theorem refshort_calls (A : Option Addr) (N c : Nat) (l : List UInt8) (w : World) (hr : Rd w A (u8s l)) (hl : l.length = N) (hN : N ≤ 100000000000) (hG : GloR w) :
    Calls Tryd.prog 44 #[.slice A N c] w (RetDg w (shF l)) := by
  have HD := Lib.hid (shF_val l)
  have hsl := sha_length l
  have HC := fun w hr hG => refsum_calls A N c l w hr hl hN hG
  obtain ⟨d, hd⟩ : ∃ d, shF l = d := ⟨_, rfl⟩
  rw [hd] at HD
  obtain ⟨S, hS⟩ : ∃ S, sha l = S := ⟨_, rfl⟩
  rw [hS] at HD hsl
  simp only [hS] at HC
  rw [hd]
  have HL := Lib.hid hsl
  have HCC := Lib.hid HC
  clear hl HC hd hS hsl
  go_enter Tryd.func44, Tryd.ntmps44
  go_upto_region 1 with fail
  generalize hW0 : w.alloc _ = W0
  have E0 : Ext w W0 := hW0 ▸ (Ext.refl w).alloc _
  have R0 : Blk W0 w.heap.size 45 (u8s (List.replicate 16 0)) := hW0 ▸ Blk.new w (u8s (List.replicate 16 0)) 45
  have HR0 := Lib.hid R0
  have HE0 := Lib.hid E0
  have HGG := Lib.hid (hG.ext E0)
  have HRR := Lib.hid (hr.ext E0)
  obtain ⟨n, hn⟩ : ∃ n, w.heap.size = n := ⟨_, rfl⟩
  have HNn := Lib.hid hn
  simp only [hn] at HR0 ⊢
  clear hW0 E0 R0 hr hn
  go_upto_region 2 with (first
    | ((with_reducible refine (HCC.out _ HRR.out HGG.out).mono ?_); rintro e w1 ⟨rfl, E1⟩)
    | ((with_reducible show wpList _ _ _ (⟨Option.none, .store _ (.tmp 3) _, _, _, _, _⟩ :: _) _ _); go_must (refine wpList_storeNew agg_32 w1 _ 41 rfl (.tmp 3) (.tmp 7) rfl rfl (u8s S) rfl (by rw [u8s_length, HL.out]) rfl (u8s_one _) ?_))
    | fail)
  have HW2 : Hid (Blk (w1.alloc (Obj.cells (u8s S).toArray 41)) n 45 (u8s (List.replicate 16 0)) ∧ Blk (w1.alloc (Obj.cells (u8s S).toArray 41)) w1.heap.size 41 (u8s S) ∧ Ext w (w1.alloc (Obj.cells (u8s S).toArray 41))) :=
    Lib.hid ⟨(HR0.out.below E1).alloc _, Blk.new _ _ _, (HE0.out.trans E1).alloc _⟩
  have hn1 : n < w1.heap.size := (HR0.out.below E1).lt
  have hz2 : (w1.alloc (Obj.cells (u8s S).toArray 41)).heap.size = w1.heap.size + 1 := by simp
  generalize w1.alloc (Obj.cells (u8s S).toArray 41) = w2 at HW2 hz2 ⊢
  generalize w1.heap.size = q at HW2 hn1 hz2 ⊢
  clear E1 HGG HRR HE0 HR0 hG
  go_upto_block 0 with fail
  generalize hw3 : w2.alloc _ = w3
  have HW3 : Hid (Blk w3 n 45 (u8s (List.replicate 16 0)) ∧ Blk w3 q 41 (u8s S) ∧ Ext w w3 ∧ Blk w3 (q + 1) 45 (u8s (List.replicate 16 0))) :=
    Lib.hid (by rw [← hw3]; exact ⟨HW2.out.1.alloc _, HW2.out.2.1.alloc _, HW2.out.2.2.alloc _, by rw [← hz2]; exact Blk.new w2 (u8s (List.replicate 16 0)) 45⟩)
  try simp only [hz2]
  clear hw3 HW2 hz2
  go_wp2_with fail
  go_loopg [5] 16 (fun g i wr => ∃ j : Nat, i = .int .i64 (j : Int) ∧ j ≤ 16 ∧ 16 - j ≤ g ∧ Hid (w3.grownBy wr (some (q + 1)) ∧ Blk wr (q + 1) 45 (u8s (S.take j ++ List.replicate (16 - j) 0))))
  case atStart => exact ⟨0, rfl, by omega, by omega, Lib.hid ⟨World.grownBy.refl _ _, HW3.out.2.2.2⟩⟩
  case round =>
    obtain ⟨j, rfl, hj, hjg, HI⟩ := hrel
    by_cases hj16 : j < 16
    · have hjS : j < S.length := by rw [HL.out]; omega
      have b0 := ((HW3.out.2.1.grown HI.out.1 (by simp)).cell j).trans (u8s_at hjS)
      have f0 := HI.out.2.free j
      have hc0 : wr.cell? ⟨q + 1, j, none⟩ = some (.int .u8 0) := by
        rw [HI.out.2.cell]
        simp only [u8s, List.getElem?_map]
        rw [List.getElem?_append_right (by rw [List.length_take, HL.out]; omega), List.length_take, HL.out, show j - min j 32 = 0 from by omega, show 16 - j = (16 - j - 1) + 1 from by omega, List.replicate_succ]
        rfl
      have HSJ : Hid (S.take (j + 1) = S.take j ++ [S.getD j 0]) := Lib.hid (by rw [List.take_add_one, List.getD, List.getElem?_eq_getElem hjS]; rfl)
      obtain ⟨d', hd'⟩ : ∃ d, S.getD j 0 = d := ⟨_, rfl⟩
      rw [hd'] at b0 HSJ
      clear hd'
      go_wp2_with fail
      go_roundg (16 - (j + 1))
      case measure => omega
      case rel =>
        refine ⟨j + 1, by go_num, by omega, by omega, Lib.hid ⟨grownBy_trans HI.out.1 (grownBy_setCell _ _ _ _), ?_⟩⟩
        have h1 := HI.out.2.set j (.int .u8 (d'.toNat : Int))
        rw [← u8s_set] at h1
        have h2 : (S.take j ++ List.replicate (16 - j) 0).set j d' = S.take (j + 1) ++ List.replicate (16 - (j + 1)) 0 := by
          have hl : (S.take j).length = j := by rw [List.length_take]; omega
          rw [List.set_append_right _ _ (by omega), hl, Nat.sub_self, show 16 - j = (16 - (j + 1)) + 1 from by omega, List.replicate_succ, List.set_cons_zero, HSJ.out, List.append_assoc]
          rfl
        rw [h2] at h1
        exact h1
    · have hj8' : j = 16 := by omega
      subst hj8'
      have hB := HI.out.2
      rw [Nat.sub_self, List.replicate_zero, List.append_nil, ← HD.out] at hB
      have HB := Lib.hid hB
      have HNB := Lib.hid (HW3.out.1.grown HI.out.1 (by simp; omega))
      clear hB
      go_wp2_with (first
        | ((with_reducible show wpList _ _ _ (⟨some 18, _, _, _, _, _⟩ :: _) _ _); go_must (refine wpList_loadAgg agg_dg wr rfl (.tmp 4) rfl (q + 1) 0 rfl (u8s d.1) (dg_len d) HB.out.agg ?_))
        | ((with_reducible show wpList _ _ _ (⟨Option.none, _, _, _, _, _⟩ :: _) _ _); go_must (refine wpList_storeBlk agg_dg wr n 45 _ HNB.out rfl (.tmp 2) (.tmp 18) rfl rfl (u8s d.1) rfl (dg_len d) rfl (u8s_one _) ?_); intro w9 hB9 hg9))
      refine bodyPost_ret (results_cell rfl agg_dg _ w9 n rfl (u8s d.1) (dg_len d) 45 hB9) rfl ?_
      have E8 : Ext w wr := Below.grown HW3.out.2.2.1 HI.out.1 HW3.out.2.2.1.size (fun k hk => by have := Option.some.inj hk; have := HNn.out; omega)
      exact ⟨rfl, Below.grown E8 hg9 E8.size (fun k hk => by have := Option.some.inj hk; have := HNn.out; omega)⟩

set_option maxRecDepth 100000 in
set_option maxHeartbeats 400000 in
/-- the reference's Of -/
theorem refof_calls (tag : Int) (A : Option Addr) (N c : Nat) (ps : List (List UInt8)) (w : World) (hr : Rd w A (strs ps)) (hN : ps.length = N) (hN2 : N ≤ 1000) (hps : ∀ p ∈ ps, p.length ≤ 1000000) (hG : GloR w) :
    Calls Tryd.prog 27 #[.int .i64 tag, .slice A N c] w (RetDg w (ofF tag ps)) := by
  have HD : Hid (ofF tag ps = shF (inpI tag ps)) := Lib.hid rfl
  have hil := inpI_len tag ps hps
  have HC := Lib.hid fun w hr => refinput_calls tag A N c ps w hr hN hN2 hps
  obtain ⟨I, hI⟩ : ∃ I, inpI tag ps = I := ⟨_, rfl⟩
  rw [hI] at hil HD HC
  have hil2 : I.length ≤ 100000000000 := by omega
  obtain ⟨d, hd⟩ : ∃ d, ofF tag ps = d := ⟨_, rfl⟩
  rw [hd] at HD ⊢
  clear hil hI hd hN hps
  go_enter Tryd.func27, Tryd.ntmps27
  go_upto_region 1 with fail
  generalize hW0 : w.alloc _ = W0
  have E0 : Ext w W0 := hW0 ▸ (Ext.refl w).alloc _
  have R0 : Blk W0 w.heap.size 45 (u8s (List.replicate 16 0)) := hW0 ▸ Blk.new w (u8s (List.replicate 16 0)) 45
  have HR0 := Lib.hid R0
  have HE0 := Lib.hid E0
  have HGG := Lib.hid (hG.ext E0)
  have HRR := Lib.hid (hr.ext E0)
  obtain ⟨n, hn⟩ : ∃ n, w.heap.size = n := ⟨_, rfl⟩
  have HNn := Lib.hid hn
  simp only [hn] at HR0 ⊢
  clear hW0 E0 R0 hr hn hG
  go_wp2_with (first
    | ((with_reducible refine (HC.out _ HRR.out).mono ?_); rintro e w1 ⟨v1, rfl, ho1, hb1⟩; obtain ⟨A1, c1, rfl, hc1, hm1, hr1⟩ := ho1.slice; have E1 : Ext W0 w1 := hb1; have HR1 := Lib.hid hr1; clear ho1 hr1 hc1 hm1)
    | ((with_reducible refine (refshort_calls A1 I.length c1 I _ HR1.out rfl hil2 (HGG.out.ext E1)).mono ?_); rintro e w2 ⟨rfl, E2⟩; rw [← HD.out])
    | ((with_reducible show wpList _ _ _ (⟨Option.none, .store _ (.tmp 4) _, _, _, _, _⟩ :: _) _ _); go_must (refine wpList_storeBlk agg_dg _ n 45 _ ((HR0.out.below E1).below E2) rfl (.tmp 4) (.tmp 8) rfl rfl (u8s d.1) rfl (dg_len d) rfl (u8s_one _) ?_); intro w3 hB3 hg3)
    | fail)
  refine bodyPost_ret (results_cell rfl agg_dg _ w3 n rfl (u8s d.1) (dg_len d) 45 hB3) rfl ?_
  exact ⟨rfl, Below.grown ((HE0.out.trans E1).trans E2) hg3 ((HE0.out.trans E1).trans E2).size (fun k hk => by have := Option.some.inj hk; have := HNn.out; omega)⟩
end Go.Proofs.YtcjeclddpkinkaaDoor
