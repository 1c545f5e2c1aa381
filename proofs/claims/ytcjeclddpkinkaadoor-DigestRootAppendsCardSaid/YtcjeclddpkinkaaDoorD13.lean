/- The contracts of Root, of both sides. -/
import Derived.Test.YtcjeclddpkinkaaDoorD12
set_option linter.unusedSimpArgs false
set_option linter.unusedVariables false
namespace Go.Proofs.YtcjeclddpkinkaaDoor
open Go.RowKit
open Wz (Dg)

/-- the cells of a list of digests -/
def dgs (l : List Dg) : List Value := u8s (Wz.flat l)
theorem dgs_length (l : List Dg) : (dgs l).length = 16 * l.length := by rw [dgs, u8s_length, Wz.flat_length]
theorem dgs_append (l m : List Dg) : dgs (l ++ m) = dgs l ++ dgs m := by rw [dgs, Wz.flat_append, u8s_append]; rfl
theorem dgs_drop (l : List Dg) (k : Nat) (h : k ≤ l.length) : (dgs l).drop (k * 16) = dgs (l.drop k) := by
  conv => lhs; rw [← List.take_append_drop k l]
  rw [dgs_append, List.drop_append_of_le_length (by rw [dgs_length, List.length_take]; omega), List.drop_of_length_le (by rw [dgs_length, List.length_take]; omega), List.nil_append]
theorem dgs_take (l : List Dg) (k : Nat) (h : k ≤ l.length) : (dgs l).take (k * 16) = dgs (l.take k) := by
  conv => lhs; rw [← List.take_append_drop k l]
  rw [dgs_append, List.take_append_of_le_length (by rw [dgs_length, List.length_take]; omega), List.take_of_length_le (by rw [dgs_length, List.length_take]; omega)]
theorem dgs_part (l : List Dg) (i n : Nat) (h : i + n ≤ l.length) : ((dgs l).drop (i * 16)).take (n * 16) = dgs ((l.drop i).take n) := by
  rw [dgs_drop l i (by omega), dgs_take _ _ (by rw [List.length_drop]; omega)]
theorem dgs_one (d : Dg) : dgs [d] = u8s d.1 := by simp [dgs, Wz.flat]
theorem dgs_at {l : List Dg} {i : Nat} (h : i < l.length) (j : Nat) (u : Value) (hu : (u8s l[i].1)[j]? = some u) : (dgs l)[i * 16 + j]? = some u := by
  have hj : j < 16 := by have := (List.getElem?_eq_some_iff.1 hu).1; rw [dg_len] at this; exact this
  have h1 := dgs_part l i 1 (by omega)
  have h2 : (l.drop i).take 1 = [l[i]] := by rw [List.drop_eq_getElem_cons h]; rfl
  rw [h2, dgs_one, Nat.one_mul] at h1
  have h3 := congrArg (fun m => m[j]?) h1
  rw [List.getElem?_take, if_pos hj, List.getElem?_drop] at h3
  rw [h3, hu]
theorem dgs_one' (l : List Dg) : ∀ u ∈ dgs l, u.oneCell' = true := u8s_one _
theorem info_dg : (Tryd.prog.info? 45).map (fun i => (i.zero, i.size, i.bytes)) = some (some (.agg (u8s (List.replicate 16 0)).toArray), 16, 16) := by kernel_rfl
theorem und_ds : Tryd.prog.underlying 63 = some (.slice 45) := by kernel_rfl
/-- an element of a list of digests lies there -/
theorem dg_cells {w : World} {b o : Nat} {l : List Dg} (hc : ∀ j u, (dgs l)[j]? = some u → w.cell? ⟨b, o + j, none⟩ = some u) {i : Nat} (h : i < l.length) : ∀ j u, (u8s l[i].1)[j]? = some u → w.cell? ⟨b, o + i * 16 + j, none⟩ = some u := fun j u hu => by
  have := hc (i * 16 + j) u (dgs_at h j u hu)
  rwa [← Nat.add_assoc] at this

/-- x[l:h] of a slice whose elements are digests, as the model runs it -/
theorem run_sliceD {w : World} {A : Option Addr} {n cap : Nat} {L : List Dg} (hr : Rd w A (dgs L)) (hL : L.length = n) (hn : n ≤ cap) (lo hi' : Option Value) (l h : Nat)
    (hlo : (lo = none ∧ l = 0) ∨ ∃ k, lo = some (.int k (l : Int))) (hhi : (hi' = none ∧ h = n) ∨ ∃ k, hi' = some (.int k (h : Int))) (hlh : l ≤ h) (hhn : h ≤ n) :
    ∃ A', (∀ w', (Instr.sliceAt 63 (.slice A n cap) lo hi' none).run Tryd.prog w' = .ok (.slice A' (h - l) (cap - l)) w') ∧ Rd w A' (dgs ((L.drop l).take (h - l))) ∧ (∀ q' : Addr, A' = some q' → ∃ q : Addr, A = some q ∧ q.block = q'.block) := by
  obtain ⟨i0, hi, hz0, hz1, hz2⟩ := info_parts info_dg
  refine ⟨_, fun w' => run_slice_all3 (P := Tryd.prog) w' 63 45 i0 und_ds hi A n cap lo hi' l h hlo hhi hlh (by omega), ?_, ?_⟩
  · rw [hz1]
    have := hr.cut (n := n) (l := l) (m := h - l) (cap := cap) (s := 16) (by omega) hn
    rwa [dgs_part L l (h - l) (by omega)] at this
  · intro q' hA
    split at hA
    · exact ⟨q', hA, rfl⟩
    · cases A with
      | none => cases hA
      | some q =>
        simp only [Option.map_some, Option.some.injEq] at hA
        subst hA
        refine ⟨q, rfl, ?_⟩
        unfold Addr.add
        split <;> rfl

set_option maxRecDepth 100000 in
set_option maxHeartbeats 1000000 in
/-- digest.Root -/
theorem root_calls : ∀ (N : Nat) (A : Option Addr) (c : Nat) (L : List Dg) (w : World), Rd w A (dgs L) → L.length = N → N ≤ c → N ≤ 1000000000 → Glo w →
    Calls Tryd.prog 38 #[.slice A N c] w (RetDg w (Mk.rootF shF L)) := by
  intro N
  induction N using Nat.strongRecOn with
  | ind N ih =>
    intro A c L w hr hL hNc hN hG
    by_cases h0 : N = 0
    · subst h0
      have hL0 : L = [] := List.eq_nil_of_length_eq_zero hL
      subst hL0
      rw [Mk.root_zero]
      have HO : Hid (∀ w, Glo w → Calls Tryd.prog 26 #[.int .i64 1, .slice none 0 0] w (RetDg w (shF (Mk.inp 1 [])))) := Lib.hid fun w hG => of_calls 1 none 0 0 [] w (Rd.nil _ _) rfl (by decide) (fun p hp => by simp at hp) hG
      obtain ⟨R, hR⟩ : ∃ R, shF (Mk.inp 1 []) = R := ⟨_, rfl⟩
      rw [hR] at HO ⊢
      have HGG := Lib.hid hG
      clear hR hG ih
      go_enter Tryd.func38, Tryd.ntmps38
      go_upto_region 1 with fail
      generalize hw1 : w.alloc _ = w1
      have HB : Hid (Blk w1 w.heap.size 45 (u8s (List.replicate 16 0)) ∧ Ext w w1) := Lib.hid (by rw [← hw1]; exact ⟨Blk.new w (u8s (List.replicate 16 0)) 45, (Ext.refl w).alloc _⟩)
      clear hw1
      go_wp2_with (first
        | ((with_reducible refine (HO.out _ (HGG.out.ext HB.out.2)).mono ?_); rintro e w2 ⟨rfl, E2⟩)
        | ((with_reducible show wpList _ _ _ (⟨Option.none, .store _ (.tmp 2) _, _, _, _, _⟩ :: _) _ _); go_must (refine wpList_storeBlk agg_dg _ w.heap.size 45 _ (HB.out.1.below E2) rfl (.tmp 2) (.tmp 8) rfl rfl (u8s R.1) rfl (dg_len R) rfl (u8s_one _) ?_); intro w4 hB4 hg4)
        | fail)
      refine bodyPost_ret (results_cell rfl agg_dg _ w4 w.heap.size rfl (u8s R.1) (dg_len R) 45 hB4) rfl ?_
      exact ⟨rfl, Below.grown (HB.out.2.trans E2) hg4 (HB.out.2.trans E2).size (fun k hk => by have := Option.some.inj hk; omega)⟩
    · by_cases h1 : N = 1
      · subst h1
        obtain ⟨d, rfl⟩ : ∃ d, L = [d] := List.length_eq_one_iff.1 hL
        rw [Mk.root_one]
        have HC := Lib.hid fun w => leaf_calls d w
        have hll : (Mk.leafIn d).length ≤ 100000000000 := by
          have := inpI_len 1 [d.1] (fun p hp => by simp at hp; rw [hp]; exact dg_small d)
          rw [inpI_leaf] at this
          simp at this; omega
        have HS := Lib.hid fun A c w hr hG => short_calls A (Mk.leafIn d).length c (Mk.leafIn d) w hr rfl hll hG
        obtain ⟨I, hI⟩ : ∃ I, Mk.leafIn d = I := ⟨_, rfl⟩
        rw [hI] at HC HS ⊢
        obtain ⟨R, hR⟩ : ∃ R, shF I = R := ⟨_, rfl⟩
        rw [hR] at HS ⊢
        obtain ⟨b, o, rfl, hc⟩ := hr (by rw [dgs_length]; simp)
        have hcd := dg_cells hc (i := 0) (by simp)
        simp only [List.getElem_cons_zero, Nat.zero_mul, Nat.add_zero] at hcd
        have HCD := Lib.hid hcd
        have HGG := Lib.hid hG
        have hbl : b < w.heap.size := lt_of_cell (hc 0 _ (by rw [dgs_one]; exact List.getElem?_eq_getElem (by rw [dg_len]; decide)))
        clear hR hG ih hI hll hc hcd hL hr h0
        go_enter Tryd.func38, Tryd.ntmps38
        go_upto_region 1 with fail
        generalize hw1 : w.alloc _ = w1
        have HB : Hid (Blk w1 w.heap.size 45 (u8s (List.replicate 16 0)) ∧ Ext w w1) := Lib.hid (by rw [← hw1]; exact ⟨Blk.new w (u8s (List.replicate 16 0)) 45, (Ext.refl w).alloc _⟩)
        clear hw1
        go_wp2_with (first
          | ((with_reducible show wpList _ _ _ (⟨some 13, _, _, _, _, _⟩ :: _) _ _); go_must (refine wpList_loadAgg agg_dg _ rfl (.tmp 12) rfl b o rfl (u8s d.1) (dg_len d) (fun j u hu => (HB.out.2.cell (p := ⟨b, o + j, none⟩) hbl).trans (HCD.out j u hu)) ?_))
          | ((with_reducible refine (HC.out _).mono ?_); rintro e w2 ⟨v2, rfl, ho2, hb2⟩; obtain ⟨A2, c2, rfl, _, _, hr2⟩ := ho2.slice; have E2 : Ext w1 w2 := hb2)
          | ((with_reducible refine (HS.out _ _ _ hr2 (HGG.out.ext (HB.out.2.trans E2))).mono ?_); rintro e w3 ⟨rfl, E3⟩)
          | ((with_reducible show wpList _ _ _ (⟨Option.none, .store _ (.tmp 2) _, _, _, _, _⟩ :: _) _ _); go_must (refine wpList_storeBlk agg_dg _ w.heap.size 45 _ ((HB.out.1.below E2).below E3) rfl (.tmp 2) (.tmp 15) rfl rfl (u8s R.1) rfl (dg_len R) rfl (u8s_one _) ?_); intro w4 hB4 hg4)
          | fail)
        refine bodyPost_ret (results_cell rfl agg_dg _ w4 w.heap.size rfl (u8s R.1) (dg_len R) 45 hB4) rfl ?_
        have E5 := (HB.out.2.trans E2).trans E3
        exact ⟨rfl, Below.grown E5 hg4 E5.size (fun k hk => by have := Option.some.inj hk; omega)⟩
      · have h2 : 2 ≤ N := by omega
        have hkl := Mk.sp_lt h2
        have hkp := Mk.sp_pos N
        have hRT := Mk.root_two shF (l := L) (by omega)
        rw [hL] at hRT
        have HSP := Lib.hid fun w => split_calls N h2 (by omega) w
        obtain ⟨k, hk⟩ : ∃ k, Mk.sp N = k := ⟨_, rfl⟩
        rw [hk] at hkl hkp hRT
        simp only [hk] at HSP
        obtain ⟨A1, hs1, hr1, hA1⟩ := run_sliceD hr hL hNc none (some (.int .i64 (k : Int))) 0 k (.inl ⟨rfl, rfl⟩) (.inr ⟨_, rfl⟩) (by omega) (by omega)
        obtain ⟨A2, hs2, hr2, hA2⟩ := run_sliceD hr hL hNc (some (.int .i64 (k : Int))) none k N (.inr ⟨_, rfl⟩) (.inl ⟨rfl, rfl⟩) (by omega) (by omega)
        rw [List.drop_zero, Nat.sub_zero] at hr1
        simp only [Nat.sub_zero] at hs1
        have e2 : (L.drop k).take (N - k) = L.drop k := List.take_of_length_le (by rw [List.length_drop]; omega)
        rw [e2] at hr2
        have hl1 : (L.take k).length = k := by rw [List.length_take]; omega
        have hl2 : (L.drop k).length = N - k := by rw [List.length_drop]; omega
        have HI1 := Lib.hid fun w' (E : Ext w w') (g : Glo w') => ih k hkl A1 c (L.take k) w' (hr1.ext E) hl1 (by omega) (by omega) g
        have HI2 := Lib.hid fun w' (E : Ext w w') (g : Glo w') => ih (N - k) (by omega) A2 (c - k) (L.drop k) w' (hr2.ext E) hl2 (by omega) (by omega) g
        obtain ⟨x, hx⟩ : ∃ x, Mk.rootF shF (L.take k) = x := ⟨_, rfl⟩
        obtain ⟨y, hy⟩ : ∃ x, Mk.rootF shF (L.drop k) = x := ⟨_, rfl⟩
        rw [hx, hy] at hRT
        rw [hx] at HI1
        rw [hy] at HI2
        rw [hRT]
        have HC := Lib.hid fun w => node_calls x y w
        have hll : (Mk.nodeIn x y).length ≤ 100000000000 := by
          have := inpI_len 2 [x.1, y.1] (fun p hp => by simp at hp; rcases hp with rfl | rfl <;> exact dg_small _)
          rw [inpI_node] at this
          simp at this; omega
        have HS := Lib.hid fun A c w hr hG => short_calls A (Mk.nodeIn x y).length c (Mk.nodeIn x y) w hr rfl hll hG
        have HD : Hid (Mk.nd shF x y = shF (Mk.nodeIn x y)) := Lib.hid rfl
        obtain ⟨I, hI⟩ : ∃ I, Mk.nodeIn x y = I := ⟨_, rfl⟩
        rw [hI] at HC HS HD
        obtain ⟨R, hR⟩ : ∃ R, shF I = R := ⟨_, rfl⟩
        rw [hR] at HS HD
        rw [HD.out]
        have HGG := Lib.hid hG
        have hNe0 : ((N : Int) == 0) = false := by rw [beq_eq_false_iff_ne]; omega
        have hNe1 : ((N : Int) == 1) = false := by rw [beq_eq_false_iff_ne]; omega
        clear hR hG ih hI hll hL hr h0 h1 hk hRT hx hy hr1 hr2 hA1 hA2 hl1 hl2 e2 HD
        go_enter Tryd.func38, Tryd.ntmps38
        go_upto_region 1 with fail
        generalize hw1 : w.alloc _ = w1
        have HB : Hid (Blk w1 w.heap.size 45 (u8s (List.replicate 16 0)) ∧ Ext w w1) := Lib.hid (by rw [← hw1]; exact ⟨Blk.new w (u8s (List.replicate 16 0)) 45, (Ext.refl w).alloc _⟩)
        clear hw1
        go_upto_region 7 with ((with_reducible refine (HSP.out _).mono ?_); rintro e w2 ⟨rfl, rfl⟩)
        refine wp_region_quiet_tail (fun w' => Ext w1 w') 8 (by kernel_rfl) (by kernel_rfl) (Ext.refl w1).drew ?_
        simp only [List.take_succ_cons, List.take_zero, List.drop_succ_cons, List.drop_zero]
        refine wpQuiet_one rfl (quiet_val (v := .slice A N c) (fun w' _ => by go_simp) ?_)
        refine wpQuiet_one rfl (quiet_val (v := .int .i64 k) (fun w' _ => by go_simp) ?_)
        refine wpQuiet_one rfl (quiet_val (v := .slice A1 k c) (fun w' _ => by go_simp) ?_)
        refine wpQuiet_one rfl (quiet_call (f := 38) (args := #[.slice A1 k c]) (v := dgV x) (fun w' _ => by go_simp) (fun w' E => (HI1.out w' (HB.out.2.trans E) (HGG.out.ext (HB.out.2.trans E))).mono fun e w'' h => ⟨h.1, E.trans h.2⟩) ?_)
        refine wpQuiet_one rfl (quiet_val (v := .slice A N c) (fun w' _ => by go_simp) ?_)
        refine wpQuiet_one rfl (quiet_val (v := .int .i64 k) (fun w' _ => by go_simp) ?_)
        refine wpQuiet_one rfl (quiet_val (v := .slice A2 (N - k) (c - k)) (fun w' _ => by go_simp) ?_)
        refine wpQuiet_one rfl (quiet_call (f := 38) (args := #[.slice A2 (N - k) (c - k)]) (v := dgV y) (fun w' _ => by go_simp) (fun w' E => (HI2.out w' (HB.out.2.trans E) (HGG.out.ext (HB.out.2.trans E))).mono fun e w'' h => ⟨h.1, E.trans h.2⟩) ?_)
        refine wpQuiet_nil ?_
        intro w2 E1
        go_wp2_with (first
          | ((with_reducible refine (HC.out _).mono ?_); rintro e w3 ⟨v2, rfl, ho2, hb2⟩; obtain ⟨A3, c3, rfl, _, _, hr3⟩ := ho2.slice; have E2 : Ext w2 w3 := hb2)
          | ((with_reducible refine (HS.out _ _ _ hr3 (HGG.out.ext ((HB.out.2.trans E1).trans E2))).mono ?_); rintro e w4 ⟨rfl, E3⟩)
          | ((with_reducible show wpList _ _ _ (⟨Option.none, .store _ (.tmp 2) _, _, _, _, _⟩ :: _) _ _); go_must (refine wpList_storeBlk agg_dg _ w.heap.size 45 _ (((HB.out.1.below E1).below E2).below E3) rfl (.tmp 2) (.tmp 28) rfl rfl (u8s R.1) rfl (dg_len R) rfl (u8s_one _) ?_); intro w5 hB5 hg5)
          | fail)
        refine bodyPost_ret (results_cell rfl agg_dg _ w5 w.heap.size rfl (u8s R.1) (dg_len R) 45 hB5) rfl ?_
        have E5 := ((HB.out.2.trans E1).trans E2).trans E3
        exact ⟨rfl, Below.grown E5 hg5 E5.size (fun k hk => by have := Option.some.inj hk; omega)⟩
end Go.Proofs.YtcjeclddpkinkaaDoor
