/- The contract of the reference's Root. -/
import Derived.Test.YtcjeclddpkinkaaDoorD13
set_option linter.unusedSimpArgs false
set_option linter.unusedVariables false
namespace Go.Proofs.YtcjeclddpkinkaaDoor
open Go.RowKit
open Wz (Dg)

set_option maxRecDepth 100000 in
set_option maxHeartbeats 1000000 in
/-- the reference's Root -/
theorem refroot_calls : ∀ (N : Nat) (A : Option Addr) (c : Nat) (L : List Dg) (w : World), Rd w A (dgs L) → L.length = N → N ≤ c → N ≤ 1000000000 → GloR w →
    Calls Tryd.prog 39 #[.slice A N c] w (RetDg w (Mk.rootF shF L)) := by
  intro N
  induction N using Nat.strongRecOn with
  | ind N ih =>
    intro A c L w hr hL hNc hN hG
    by_cases h0 : N = 0
    · subst h0
      have hL0 : L = [] := List.eq_nil_of_length_eq_zero hL
      subst hL0
      rw [Mk.root_zero]
      have HO : Hid (∀ w, GloR w → Calls Tryd.prog 27 #[.int .i64 1, .slice none 0 0] w (RetDg w (shF (Mk.inp 1 [])))) := Lib.hid fun w hG => refof_calls 1 none 0 0 [] w (Rd.nil _ _) rfl (by decide) (fun p hp => by simp at hp) hG
      obtain ⟨R, hR⟩ : ∃ R, shF (Mk.inp 1 []) = R := ⟨_, rfl⟩
      rw [hR] at HO ⊢
      have HGG := Lib.hid hG
      clear hR hG ih
      go_enter Tryd.func39, Tryd.ntmps39
      go_upto_region 1 with fail
      generalize hw1 : w.alloc _ = w1
      have HB : Hid (Blk w1 w.heap.size 45 (u8s (List.replicate 16 0)) ∧ Ext w w1) := Lib.hid (by rw [← hw1]; exact ⟨Blk.new w (u8s (List.replicate 16 0)) 45, (Ext.refl w).alloc _⟩)
      clear hw1
      go_wp2_with (first
        | ((with_reducible refine (HO.out _ (HGG.out.ext HB.out.2)).mono ?_); rintro e w2 ⟨rfl, E2⟩)
        | ((with_reducible show wpList _ _ _ (⟨Option.none, .store _ (.tmp 2) _, _, _, _, _⟩ :: _) _ _); go_must (refine wpList_storeBlk agg_dg _ w.heap.size 45 _ (HB.out.1.below E2) rfl (.tmp 2) (.tmp 7) rfl rfl (u8s R.1) rfl (dg_len R) rfl (u8s_one _) ?_); intro w4 hB4 hg4)
        | fail)
      refine bodyPost_ret (results_cell rfl agg_dg _ w4 w.heap.size rfl (u8s R.1) (dg_len R) 45 hB4) rfl ?_
      exact ⟨rfl, Below.grown (HB.out.2.trans E2) hg4 (HB.out.2.trans E2).size (fun k hk => by have := Option.some.inj hk; omega)⟩
    · by_cases h1 : N = 1
      · subst h1
        obtain ⟨d, rfl⟩ : ∃ d, L = [d] := List.length_eq_one_iff.1 hL
        rw [Mk.root_one]
        have HC := Lib.hid fun w hG => refleaf_calls d w hG
        obtain ⟨R, hR⟩ : ∃ R, shF (Mk.leafIn d) = R := ⟨_, rfl⟩
        rw [hR] at HC ⊢
        obtain ⟨b, o, rfl, hc⟩ := hr (by rw [dgs_length]; simp)
        have hcd := dg_cells hc (i := 0) (by simp)
        simp only [List.getElem_cons_zero, Nat.zero_mul, Nat.add_zero] at hcd
        have HCD := Lib.hid hcd
        have HGG := Lib.hid hG
        have hbl : b < w.heap.size := lt_of_cell (hc 0 _ (by rw [dgs_one]; exact List.getElem?_eq_getElem (by rw [dg_len]; decide)))
        clear hR hG ih hc hcd hL hr h0
        go_enter Tryd.func39, Tryd.ntmps39
        go_upto_region 1 with fail
        generalize hw1 : w.alloc _ = w1
        have HB : Hid (Blk w1 w.heap.size 45 (u8s (List.replicate 16 0)) ∧ Ext w w1) := Lib.hid (by rw [← hw1]; exact ⟨Blk.new w (u8s (List.replicate 16 0)) 45, (Ext.refl w).alloc _⟩)
        clear hw1
        go_wp2_with (first
          | ((with_reducible show wpList _ _ _ (⟨some 13, _, _, _, _, _⟩ :: _) _ _); go_must (refine wpList_loadAgg agg_dg _ rfl (.tmp 12) rfl b o rfl (u8s d.1) (dg_len d) (fun j u hu => (HB.out.2.cell (p := ⟨b, o + j, none⟩) hbl).trans (HCD.out j u hu)) ?_))
          | ((with_reducible refine (HC.out _ (HGG.out.ext HB.out.2)).mono ?_); rintro e w2 ⟨rfl, E2⟩)
          | ((with_reducible show wpList _ _ _ (⟨Option.none, .store _ (.tmp 2) _, _, _, _, _⟩ :: _) _ _); go_must (refine wpList_storeBlk agg_dg _ w.heap.size 45 _ (HB.out.1.below E2) rfl (.tmp 2) (.tmp 14) rfl rfl (u8s R.1) rfl (dg_len R) rfl (u8s_one _) ?_); intro w4 hB4 hg4)
          | fail)
        refine bodyPost_ret (results_cell rfl agg_dg _ w4 w.heap.size rfl (u8s R.1) (dg_len R) 45 hB4) rfl ?_
        have E5 := HB.out.2.trans E2
        exact ⟨rfl, Below.grown E5 hg4 E5.size (fun k hk => by have := Option.some.inj hk; omega)⟩
      · have h2 : 2 ≤ N := by omega
        have hkl := Mk.sp_lt h2
        have hkp := Mk.sp_pos N
        have hRT := Mk.root_two shF (l := L) (by omega)
        rw [hL] at hRT
        have HSP := Lib.hid fun w => refsplit_calls N h2 (by omega) w
        obtain ⟨k, hk⟩ : ∃ k, Mk.sp N = k := ⟨_, rfl⟩
        rw [hk] at hkl hkp hRT
        simp only [hk] at HSP
        obtain ⟨A1, hs1, hr1, hA1⟩ := run_sliceD hr hL hNc none (some (.int .i64 (k : Int))) 0 k (.inl ⟨rfl, rfl⟩) (.inr ⟨_, rfl⟩) (by omega) (by omega)
        obtain ⟨A2, hs2, hr2, hA2⟩ := run_sliceD hr hL hNc (some (.int .i64 (k : Int))) none k N (.inr ⟨_, rfl⟩) (.inl ⟨rfl, rfl⟩) (by omega) (by omega)
        rw [List.drop_zero, Nat.sub_zero] at hr1
        simp only [Nat.sub_zero] at hs1
        have e2 : (L.drop k).take (N - k) = L.drop k := List.take_of_length_le (by rw [List.length_drop]; omega)
        rw [e2] at hr2
        have hl1 : (L.take k).length = k := by rw [List.length_take]; omega
        have hl2 : (L.drop k).length = N - k := by rw [List.length_drop]; omega
        have HI1 := Lib.hid fun w' (E : Ext w w') (g : GloR w') => ih k hkl A1 c (L.take k) w' (hr1.ext E) hl1 (by omega) (by omega) g
        have HI2 := Lib.hid fun w' (E : Ext w w') (g : GloR w') => ih (N - k) (by omega) A2 (c - k) (L.drop k) w' (hr2.ext E) hl2 (by omega) (by omega) g
        obtain ⟨x, hx⟩ : ∃ x, Mk.rootF shF (L.take k) = x := ⟨_, rfl⟩
        obtain ⟨y, hy⟩ : ∃ x, Mk.rootF shF (L.drop k) = x := ⟨_, rfl⟩
        rw [hx, hy] at hRT
        rw [hx] at HI1
        rw [hy] at HI2
        rw [hRT]
        have HC := Lib.hid fun w hG => refnode_calls x y w hG
        obtain ⟨R, hR⟩ : ∃ R, Mk.nd shF x y = R := ⟨_, rfl⟩
        rw [hR] at HC ⊢
        have HGG := Lib.hid hG
        have hNe0 : ((N : Int) == 0) = false := by rw [beq_eq_false_iff_ne]; omega
        have hNe1 : ((N : Int) == 1) = false := by rw [beq_eq_false_iff_ne]; omega
        clear hR hG ih hL hr h0 h1 hk hRT hx hy hr1 hr2 hA1 hA2 hl1 hl2 e2
        go_enter Tryd.func39, Tryd.ntmps39
        go_upto_region 1 with fail
        generalize hw1 : w.alloc _ = w1
        have HB : Hid (Blk w1 w.heap.size 45 (u8s (List.replicate 16 0)) ∧ Ext w w1) := Lib.hid (by rw [← hw1]; exact ⟨Blk.new w (u8s (List.replicate 16 0)) 45, (Ext.refl w).alloc _⟩)
        clear hw1
        go_upto_region 6 with ((with_reducible refine (HSP.out _).mono ?_); rintro e w2 ⟨rfl, rfl⟩)
        refine wp_region_quiet_tail (fun w' => Ext w1 w') 8 (by kernel_rfl) (by kernel_rfl) (Ext.refl w1).drew ?_
        simp only [List.take_succ_cons, List.take_zero, List.drop_succ_cons, List.drop_zero]
        refine wpQuiet_one rfl (quiet_val (v := .slice A N c) (fun w' _ => by go_simp) ?_)
        refine wpQuiet_one rfl (quiet_val (v := .int .i64 k) (fun w' _ => by go_simp) ?_)
        refine wpQuiet_one rfl (quiet_val (v := .slice A1 k c) (fun w' _ => by go_simp) ?_)
        refine wpQuiet_one rfl (quiet_call (f := 39) (args := #[.slice A1 k c]) (v := dgV x) (fun w' _ => by go_simp) (fun w' E => (HI1.out w' (HB.out.2.trans E) (HGG.out.ext (HB.out.2.trans E))).mono fun e w'' h => ⟨h.1, E.trans h.2⟩) ?_)
        refine wpQuiet_one rfl (quiet_val (v := .slice A N c) (fun w' _ => by go_simp) ?_)
        refine wpQuiet_one rfl (quiet_val (v := .int .i64 k) (fun w' _ => by go_simp) ?_)
        refine wpQuiet_one rfl (quiet_val (v := .slice A2 (N - k) (c - k)) (fun w' _ => by go_simp) ?_)
        refine wpQuiet_one rfl (quiet_call (f := 39) (args := #[.slice A2 (N - k) (c - k)]) (v := dgV y) (fun w' _ => by go_simp) (fun w' E => (HI2.out w' (HB.out.2.trans E) (HGG.out.ext (HB.out.2.trans E))).mono fun e w'' h => ⟨h.1, E.trans h.2⟩) ?_)
        refine wpQuiet_nil ?_
        intro w2 E1
        go_wp2_with (first
          | ((with_reducible refine (HC.out _ (HGG.out.ext (HB.out.2.trans E1))).mono ?_); rintro e w4 ⟨rfl, E3⟩)
          | ((with_reducible show wpList _ _ _ (⟨Option.none, .store _ (.tmp 2) _, _, _, _, _⟩ :: _) _ _); go_must (refine wpList_storeBlk agg_dg _ w.heap.size 45 _ ((HB.out.1.below E1).below E3) rfl (.tmp 2) (.tmp 26) rfl rfl (u8s R.1) rfl (dg_len R) rfl (u8s_one _) ?_); intro w5 hB5 hg5)
          | fail)
        refine bodyPost_ret (results_cell rfl agg_dg _ w5 w.heap.size rfl (u8s R.1) (dg_len R) 45 hB5) rfl ?_
        have E5 := (HB.out.2.trans E1).trans E3
        exact ⟨rfl, Below.grown E5 hg5 E5.size (fun k hk => by have := Option.some.inj hk; omega)⟩
end Go.Proofs.YtcjeclddpkinkaaDoor
