/- digest.inputs: what it answers when the lengths are the same. -/
import Derived.Test.YtcjeclddpkinkaaDoorD23
set_option linter.unusedSimpArgs false
set_option linter.unusedVariables false
namespace Go.Proofs.YtcjeclddpkinkaaDoor
open Go.RowKit
open Wz (Dg)

theorem Blk.at0 {w : World} {b : Nat} {t : TypeId} {cs : List Value} (h : Blk w b t cs) : ∀ j u, cs[j]? = some u → w.cell? ⟨b, 0 + j, none⟩ = some u := fun j u hu => by rw [Nat.zero_add, h.cell]; exact hu
theorem leafIn_len (d : Dg) : (Mk.leafIn d).length ≤ 3000000 := by
  have := inpI_len 1 [d.1] (fun p hp => by simp at hp; rw [hp]; exact dg_small d)
  rw [inpI_leaf] at this
  simp at this; omega
theorem nodeIn_len (a b : Dg) : (Mk.nodeIn a b).length ≤ 3000000 := by
  have := inpI_len 2 [a.1, b.1] (fun p hp => by simp at hp; rcases hp with rfl | rfl <;> exact dg_small _)
  rw [inpI_node] at this
  simp at this; omega
theorem ins_small (H : List UInt8 → Dg) (d : Dg) (l : List (Bool × Dg)) : ∀ x ∈ Mk.insF H d l, x.length ≤ 3000000 := by
  refine Wz.snoc_ind (P := fun l => ∀ x ∈ Mk.insF H d l, x.length ≤ 3000000) ?_ ?_ l
  · intro x hx
    simp [Mk.insF] at hx
    subst hx
    exact leafIn_len d
  · intro l a ih x hx
    rw [Mk.ins_snoc, Mk.stepIn, List.mem_append] at hx
    rcases hx with hx | hx
    · exact ih x hx
    · rw [List.mem_singleton] at hx
      subst hx
      split <;> exact nodeIn_len _ _
/-- what a round of inputs keeps -/
structure InR (w wr : World) (B : Nat) (vD : Value) (D : List Bool) (v : Value) (xs : List (List UInt8)) : Prop where
  bo : Boxed wr (B + 1) 156 vD
  dz : OwnZ wr (B + 2) vD D
  ins : Ins wr (B + 2) v xs
  ext : Ext w wr
theorem Own8.new34 {w : World} {base : Nat} {v : Value} {l : List UInt8} (h : Own8 w base v l) (o : Obj) : Own8 (w.alloc o) base v l := h.alloc o
theorem OwnZ.same {w w' : World} {base : Nat} {v : Value} {l : List Bool} (h : OwnZ w base v l) (hs : ∀ (b : Nat) (e : TypeId) (cur : Array Value), w.heap[b]? = some (Obj.cells cur e (0, 0)) → e ≠ 34 → w'.heap[b]? = w.heap[b]?) : OwnZ w' base v l := by
  refine ⟨h.1, ?_⟩
  rcases h.2 with h1 | ⟨g, cap, cur, h1, h2, h3, h4⟩
  · exact .inl h1
  · exact .inr ⟨g, cap, cur, h1, h2, (hs g 4 cur h3 (by decide)).trans h3, h4⟩

set_option maxRecDepth 100000 in
set_option maxHeartbeats 1000000 in
theorem inputs_yes (n i : Nat) (d : Dg) (A : Option Addr) (N c : Nat) (L : List Dg) (w : World) (hr : Rd w A (dgs L)) (hL : L.length = N) (hc : N ≤ c) (hN : N ≤ 1000) (hi : i < n) (hn : n ≤ 9223372036854775807) (hne : (Mk.dirs n i).length = N) (hG : Glo w) :
    Calls Tryd.prog 102 #[.int .i64 (n : Int), .int .i64 (i : Int), dgV d, .slice A N c] w (fun e w' => ∃ v, e = .returned v ∧ Ins w' w.heap.size v (Mk.insF shF d ((Mk.dirs n i).zip L)) ∧ Ext w w') := by
  have hd : decide ((i : Int) < 0) = false := by rw [decide_eq_false_iff_not]; omega
  have hd2 : decide ((i : Int) ≥ (n : Int)) = false := by rw [decide_eq_false_iff_not]; omega
  have hd2n : decide (n ≤ i) = false := by rw [decide_eq_false_iff_not]; omega
  obtain ⟨B, hB⟩ : ∃ B, w.heap.size = B := ⟨_, rfl⟩
  have HI := Lib.hid (In0.mk' w d B hB)
  have HB := Lib.hid hB
  have HRD := Lib.hid hr
  have HL := Lib.hid hL
  have HG := Lib.hid hG
  have HDF := Lib.hid fun w1 h => dirs_descend n i B hi hn w1 w1 h (Below.refl _ _)
  obtain ⟨D, hD⟩ : ∃ D, Mk.dirs n i = D := ⟨_, rfl⟩
  rw [hD] at HDF hne ⊢
  clear hr hL hG hD
  go_enter Tryd.func102, Tryd.ntmps102
  go_upto_region 4 with ((with_reducible show wpList _ _ _ (⟨some 6, _, _, _, _, _⟩ :: _) _ _); go_must (refine wpList_boxAgg 45 _ rfl (.tmp 2) rfl _ rfl ?_))
  generalize (w.alloc (Obj.cells (u8s d.1).toArray 45)).alloc (Obj.cells #[.slice none 0 0] 156) = w1 at HI ⊢
  have HD := Lib.hid (HDF.out w1 HI.out.di)
  clear hB HDF
  go_upto_region 5 with ((with_reducible refine HD.out.mono ?_); rintro e w2 ⟨⟨v0, rfl⟩, v, out, hP, hb, he⟩)
  have hcell := hP.bo.cell
  have hon : out.length = N := by
    have := congrArg List.length he
    rw [List.length_reverse] at this
    omega
  have HRV := Lib.hid (reverseb_own (B + 2) v out w2 hP.own (by omega))
  rw [he] at HRV
  obtain ⟨A2, c2, rfl, _, _, _⟩ := hP.own.slice
  rw [hon] at hcell HRV
  have HX := Lib.hid (below_ext HI.out.ext (by rw [HI.out.size]; omega) hb)
  have HBK : Hid (Blk w2 B 45 (u8s d.1)) := Lib.hid ((hb.block B (by omega)).trans HI.out.blk)
  have HP := Lib.hid hP
  have hsz : B + 2 ≤ w2.heap.size := hP.bo.lt
  have HLF := Lib.hid fun w => leaf_calls d w
  obtain ⟨x0, hx0⟩ : ∃ x, Mk.leafIn d = x := ⟨_, rfl⟩
  have HX0 := Lib.hid hx0
  rw [hx0] at HLF
  have hNe : (((N : Nat) : Int) == ((N : Nat) : Int)) = true := by rw [beq_iff_eq]
  have hwB : w.heap.size ≤ B := by rw [HB.out]; exact Nat.le_refl _
  clear he hb hP HD HI hx0 HB
  go_upto_region 9 with (first
    | ((with_reducible refine HRV.out.mono ?_); rintro e w3 ⟨⟨v1, rfl⟩, ho3, hg3⟩
       have bo3 := HP.out.bo.kept hg3 (by have := HP.out.bo.not_row (by decide) HP.out.own; rw [hon] at this; exact this)
       have hbk3 : Blk w3 B 45 (u8s d.1) := HBK.out.grown hg3 (by intro e; have := (HP.out.own.base_le B (by rw [hon]; exact e.symm)).1; omega)
       have E3 : Ext w w3 := HX.out.grown hg3 HX.out.size (fun k hk => by have := (HP.out.own.base_le k (by rw [hon]; exact hk)).1; have := HX.out.size; omega)
       have hsz3 : B + 2 ≤ w3.heap.size := Nat.le_trans hsz hg3.size)
    | ((with_reducible show wpList _ _ _ (⟨some 32, _, _, _, _, _⟩ :: _) _ _); go_must (refine wpList_loadAgg agg_dg w3 rfl (.tmp 6) rfl B 0 rfl (u8s d.1) (dg_len d) hbk3.at0 ?_))
    | ((with_reducible refine (HLF.out w3).mono ?_); rintro e w4 ⟨v4, rfl, ho4, E4⟩; have ho4' := ho4; obtain ⟨A4, c4, rfl, _, _, _⟩ := ho4.slice)
    | ((with_reducible show wpList _ _ _ (⟨some 34, _, _, _, _, _⟩ :: _) _ _); go_must (refine wpList_value rfl (exec_build rfl rfl (run_buildS A4 _ c4 w4)) ?_))
    | fail)
  have HR0 : Hid (InR w (w4.alloc (.cells #[.slice A4 x0.length c4] 34)) B (.slice A2 N c2) D (.slice (some ⟨w4.heap.size, 0, none⟩) 1 1) [x0]) := Lib.hid
    ⟨(by rw [hon] at bo3; exact (boxed_ext bo3 E4).alloc _), (ho3.below E4).alloc _, Ins.one (ho4'.rebase (by omega)) (by have := E4.size; omega), (E3.trans E4).alloc _⟩
  have hw5 : ∃ w5, w5 = w4.alloc (.cells #[.slice A4 x0.length c4] 34) := ⟨_, rfl⟩
  obtain ⟨w5, hw5⟩ := hw5
  rw [← hw5] at HR0 ⊢
  obtain ⟨g4, hg4⟩ : ∃ g, w4.heap.size = g := ⟨_, rfl⟩
  rw [hg4] at HR0 ⊢
  clear hg4 hw5 bo3 hbk3 E3 E4 ho3 ho4 ho4' hsz3 hg3 hcell hNe HRV HX HBK HP HLF
  go_wp2_with fail
  go_loopg [10, 37] N (fun gk s10 s37 wr => ∃ k : Nat, s37 = .int .i64 (k : Int) ∧ k ≤ N ∧ N - k ≤ gk ∧ Hid (InR w wr B (.slice A2 N c2) D s10 (Mk.insF shF d ((D.zip L).take k))))
  case atStart => exact ⟨0, rfl, by omega, by omega, Lib.hid (by have := HR0.out; rw [← HX0.out] at this; simpa [Mk.insF] using this)⟩
  case round =>
    obtain ⟨k, rfl, hkN, hgk, HI⟩ := hrel
    have hzl : (D.zip L).length = N := by rw [List.length_zip, hne, HL.out, Nat.min_self]
    by_cases hk : k < N
    · have hxl : (Mk.insF shF d ((D.zip L).take k)).length = k + 1 := by rw [Mk.ins_len, List.length_take, hzl]; omega
      have hdk : D[k]? = some (D[k]'(by omega)) := List.getElem?_eq_getElem _
      have hlk := HL.out
      have hst : Mk.insF shF d ((D.zip L).take (k + 1)) = Mk.stepIn shF (Mk.insF shF d ((D.zip L).take k)) (D[k]'(by omega), L[k]'(by omega)) := by
        rw [List.take_succ_eq_append_getElem (by omega), Mk.ins_snoc, List.getElem_zip]
      have hsm := ins_small shF d ((D.zip L).take k)
      obtain ⟨xs, hxs⟩ : ∃ xs, Mk.insF shF d ((D.zip L).take k) = xs := ⟨_, rfl⟩
      rw [hxs] at hxl hst HI hsm
      obtain ⟨bk, hbk⟩ : ∃ b, D[k]'(by omega) = b := ⟨_, rfl⟩
      rw [hbk] at hdk hst
      have hkL : k < L.length := by omega
      obtain ⟨p, hp⟩ : ∃ p : Dg, L[k]'hkL = p := ⟨_, rfl⟩
      rw [hp] at hst
      -- the proof's element
      obtain ⟨b, o, hA, hcp⟩ := (HRD.out.ext HI.out.ext) (by rw [dgs_length]; omega)
      subst hA
      have hcpk := dg_cells hcp (i := k) (by omega)
      rw [hp] at hcpk
      have HCP := Lib.hid hcpk
      -- the side
      obtain ⟨A9, c9, e9, _, _, hr9⟩ := HI.out.dz.slice
      simp only [Value.slice.injEq] at e9
      obtain ⟨rfl, -, rfl⟩ := e9
      obtain ⟨bD, oD, hA2, hcD⟩ := hr9 (by rw [bls_length]; omega)
      subst hA2
      have hcd := hcD k _ (bls_at hdk)
      -- the last input
      obtain ⟨g3, cap3, u3, hs10, hcap3, hg3, hc3, ho3⟩ := HI.out.ins.at (i := k) (by omega)
      subst hs10
      have hxk : xs[k]'(by omega) = xs.getLastD [] := by
        rw [List.getLastD_eq_getLast?, List.getLast?_eq_getElem?, show xs.length - 1 = k from by omega, List.getElem?_eq_getElem (by omega)]; rfl
      rw [hxk] at ho3
      have hsx : (xs.getLastD []).length ≤ 3000000 := by rw [← hxk]; exact hsm _ (List.getElem_mem _)
      obtain ⟨x, hx⟩ : ∃ x, xs.getLastD [] = x := ⟨_, rfl⟩
      rw [hx] at ho3 hsx
      obtain ⟨A4, c4, rfl, _, _, hr4⟩ := ho3.slice
      have HSC : Hid (∀ w', Ext wr w' → Calls Tryd.prog 88 #[.slice A4 x.length c4] w' (RetDg w' (shF x))) := Lib.hid fun w' E => short_calls A4 x.length c4 x w' (hr4.ext E) rfl (by omega) (HG.out.ext (HI.out.ext.trans E))
      unfold Mk.stepIn at hst
      rw [hx] at hst
      obtain ⟨q, hq⟩ : ∃ q, shF x = q := ⟨_, rfl⟩
      rw [hq] at HSC
      simp only [hq] at hst
      have HST := Lib.hid hst
      have HIo := HI.out.ins
      rw [hxl] at HIo
      have HINS := Lib.hid HI.out.ins
      rw [hxl] at HINS
      have hboc := HI.out.bo
      have HBO := Lib.hid HI.out.bo
      have HDZ := Lib.hid HI.out.dz
      have HEX := Lib.hid HI.out.ext
      have HC3 := Lib.hid hc3
      have HCD := Lib.hid hcd
      have hbs : B + 2 ≤ wr.heap.size := HI.out.bo.lt
      have hbw : b < wr.heap.size := lt_of_cell (hcpk 0 _ (List.getElem?_eq_getElem (by rw [dg_len]; decide)))
      have hlt3 : g3 < wr.heap.size := lt_of_cell hc3
      have hltD : bD < wr.heap.size := lt_of_cell hcd
      have hk0 : (0 : Int) ≤ (k : Int) := by omega
      simp only [hxl]
      clear hq hx hst hxs hbk hp hsm hkL hxk hr4 ho3 hc3 hcd hcD hr9 hcp hcpk HIo hboc hdk hzl HI
      cases bk with
      | true =>
        have HND := Lib.hid fun w => node_calls p q w
        have HST2 := Lib.hid (HST.out)
        simp only [Bool.false_eq_true, if_true, if_false] at HST2
        obtain ⟨R, hR⟩ : ∃ R, Mk.nodeIn p q = R := ⟨_, rfl⟩
        rw [hR] at HND HST2
        clear hR HST
        go_wp2_with (first
          | ((with_reducible show wpList _ _ _ (⟨some 41, _, _, _, _, _⟩ :: _) _ _); go_must (refine wpList_loadAgg agg_dg _ rfl (.tmp 40) rfl b (o + k * 16) rfl (u8s p.1) (dg_len p) HCP.out ?_))
          | ((with_reducible show wpList _ _ _ (⟨Option.none, .store _ (.tmp 12) _, _, _, _, _⟩ :: _) _ _); go_must (refine wpList_storeNew agg_dg wr _ 45 rfl (.tmp 12) (.tmp 41) rfl rfl (u8s p.1) rfl (dg_len p) rfl (u8s_one _) ?_)
             have HB1 : Hid (Blk (wr.alloc (.cells (u8s p.1).toArray 45)) wr.heap.size 45 (u8s p.1) ∧ Ext wr (wr.alloc (.cells (u8s p.1).toArray 45))) := Lib.hid ⟨Blk.new _ _ _, (Ext.refl wr).alloc _⟩
             generalize wr.alloc (.cells (u8s p.1).toArray 45) = w1 at HB1 ⊢
             have hcs1 : w1.cell? ⟨g3, k, none⟩ = some (.slice A4 x.length c4) := (HB1.out.2.cell (p := ⟨g3, k, none⟩) hlt3).trans HC3.out)
          | ((with_reducible refine (HSC.out _ HB1.out.2).mono ?_); rintro e w3 ⟨rfl, E3⟩; clear hcs1)
          | ((with_reducible show wpList _ _ _ (⟨Option.none, .store _ (.tmp 13) _, _, _, _, _⟩ :: _) _ _); go_must (refine wpList_storeNew agg_dg w3 _ 45 rfl (.tmp 13) (.tmp 46) rfl rfl (u8s q.1) rfl (dg_len q) rfl (u8s_one _) ?_)
             have HB2 : Hid (Blk (w3.alloc (.cells (u8s q.1).toArray 45)) w3.heap.size 45 (u8s q.1) ∧ Ext w3 (w3.alloc (.cells (u8s q.1).toArray 45))) := Lib.hid ⟨Blk.new _ _ _, (Ext.refl w3).alloc _⟩
             generalize w3.alloc (.cells (u8s q.1).toArray 45) = w4 at HB2 ⊢
             have E4 := (HB1.out.2.trans E3).trans HB2.out.2
             have hb14 := (HB1.out.1.below E3).below HB2.out.2
             have hcb4 := (boxed_ext HBO.out E4).cell
             have hcd4 : w4.cell? ⟨bD, oD + k, none⟩ = some (.bool true) := (E4.cell (p := ⟨bD, oD + k, none⟩) hltD).trans HCD.out)
          | ((with_reducible show wpList _ _ _ (⟨some 52, _, _, _, _, _⟩ :: _) _ _); go_must (refine wpList_loadAgg agg_dg w4 rfl (.tmp 12) rfl wr.heap.size 0 rfl (u8s p.1) (dg_len p) (hb14).at0 ?_))
          | ((with_reducible show wpList _ _ _ (⟨some 53, _, _, _, _, _⟩ :: _) _ _); go_must (refine wpList_loadAgg agg_dg w4 rfl (.tmp 13) rfl w3.heap.size 0 rfl (u8s q.1) (dg_len q) (HB2.out.1).at0 ?_))
          | ((with_reducible refine (HND.out w4).mono ?_); rintro e w5 ⟨v5, rfl, ho5, E5⟩
             have E45 := E4.trans (show Ext w4 w5 from E5)
             have ho5' := ho5.rebase (base' := B + 2) (by have := E4.size; omega)
             obtain ⟨A5, c5, rfl, _, _, _⟩ := ho5.slice
             have HIN6 := Lib.hid ((HINS.out.below E45).alloc (.cells #[.slice A5 R.length c5] 34))
             have HO6 := Lib.hid (ho5'.alloc (.cells #[.slice A5 R.length c5] 34))
             have HRD6 := Lib.hid (Rd.one w5 (.slice A5 R.length c5) 34)
             have E6 := E45.alloc (.cells #[.slice A5 R.length c5] 34)
             have hb6 := E6.size
             clear hcb4 hcd4 hb14)
          | ((with_reducible show wpList _ _ _ (⟨some 55, _, _, _, _, _⟩ :: _) _ _); go_must (refine wpList_value rfl (exec_build rfl rfl (run_buildS A5 _ c5 w5)) ?_))
          | ((with_reducible show wpList _ _ _ (⟨some 56, _, _, _, _, _⟩ :: _) _ _); go_must (refine wpList_appS _ rfl (.tmp 51) (.tmp 55) rfl (B + 2) _ xs rfl HIN6.out _ (.slice A5 R.length c5) R rfl HRD6.out rfl HO6.out (by omega) (by omega) ?_)
             intro v7 w7 hi7 hg7 hb7 hs7
             have HR7 : Hid (InR w w7 B (.slice (some ⟨bD, oD, none⟩) N c2) D v7 (xs ++ [R])) := Lib.hid ⟨(hs7 (B + 1) 156 _ (boxed_ext HBO.out E6) (by decide)).trans (boxed_ext HBO.out E6), (HDZ.out.below E6).same hs7, hi7, hb7 _ _ (by have := HEX.out.size; omega) (HEX.out.trans E6)⟩
             obtain ⟨A7, c7, rfl, _, _⟩ := hi7.slice
             rw [List.length_append, List.length_singleton, hxl] at HR7)
          | fail)
        go_roundg (N - (k + 1))
        case measure => omega
        case rel => exact ⟨k + 1, by go_num, by omega, by omega, by rw [HST2.out]; exact HR7⟩
      | false =>
        have HND := Lib.hid fun w => node_calls q p w
        have HST2 := Lib.hid (HST.out)
        simp only [Bool.false_eq_true, if_true, if_false] at HST2
        obtain ⟨R, hR⟩ : ∃ R, Mk.nodeIn q p = R := ⟨_, rfl⟩
        rw [hR] at HND HST2
        clear hR HST
        go_wp2_with (first
          | ((with_reducible show wpList _ _ _ (⟨some 41, _, _, _, _, _⟩ :: _) _ _); go_must (refine wpList_loadAgg agg_dg _ rfl (.tmp 40) rfl b (o + k * 16) rfl (u8s p.1) (dg_len p) HCP.out ?_))
          | ((with_reducible show wpList _ _ _ (⟨Option.none, .store _ (.tmp 12) _, _, _, _, _⟩ :: _) _ _); go_must (refine wpList_storeNew agg_dg wr _ 45 rfl (.tmp 12) (.tmp 41) rfl rfl (u8s p.1) rfl (dg_len p) rfl (u8s_one _) ?_)
             have HB1 : Hid (Blk (wr.alloc (.cells (u8s p.1).toArray 45)) wr.heap.size 45 (u8s p.1) ∧ Ext wr (wr.alloc (.cells (u8s p.1).toArray 45))) := Lib.hid ⟨Blk.new _ _ _, (Ext.refl wr).alloc _⟩
             generalize wr.alloc (.cells (u8s p.1).toArray 45) = w1 at HB1 ⊢
             have hcs1 : w1.cell? ⟨g3, k, none⟩ = some (.slice A4 x.length c4) := (HB1.out.2.cell (p := ⟨g3, k, none⟩) hlt3).trans HC3.out)
          | ((with_reducible refine (HSC.out _ HB1.out.2).mono ?_); rintro e w3 ⟨rfl, E3⟩; clear hcs1)
          | ((with_reducible show wpList _ _ _ (⟨Option.none, .store _ (.tmp 13) _, _, _, _, _⟩ :: _) _ _); go_must (refine wpList_storeNew agg_dg w3 _ 45 rfl (.tmp 13) (.tmp 46) rfl rfl (u8s q.1) rfl (dg_len q) rfl (u8s_one _) ?_)
             have HB2 : Hid (Blk (w3.alloc (.cells (u8s q.1).toArray 45)) w3.heap.size 45 (u8s q.1) ∧ Ext w3 (w3.alloc (.cells (u8s q.1).toArray 45))) := Lib.hid ⟨Blk.new _ _ _, (Ext.refl w3).alloc _⟩
             generalize w3.alloc (.cells (u8s q.1).toArray 45) = w4 at HB2 ⊢
             have E4 := (HB1.out.2.trans E3).trans HB2.out.2
             have hb14 := (HB1.out.1.below E3).below HB2.out.2
             have hcb4 := (boxed_ext HBO.out E4).cell
             have hcd4 : w4.cell? ⟨bD, oD + k, none⟩ = some (.bool false) := (E4.cell (p := ⟨bD, oD + k, none⟩) hltD).trans HCD.out)
          | ((with_reducible show wpList _ _ _ (⟨some 58, _, _, _, _, _⟩ :: _) _ _); go_must (refine wpList_loadAgg agg_dg w4 rfl (.tmp 13) rfl w3.heap.size 0 rfl (u8s q.1) (dg_len q) (HB2.out.1).at0 ?_))
          | ((with_reducible show wpList _ _ _ (⟨some 59, _, _, _, _, _⟩ :: _) _ _); go_must (refine wpList_loadAgg agg_dg w4 rfl (.tmp 12) rfl wr.heap.size 0 rfl (u8s p.1) (dg_len p) (hb14).at0 ?_))
          | ((with_reducible refine (HND.out w4).mono ?_); rintro e w5 ⟨v5, rfl, ho5, E5⟩
             have E45 := E4.trans (show Ext w4 w5 from E5)
             have ho5' := ho5.rebase (base' := B + 2) (by have := E4.size; omega)
             obtain ⟨A5, c5, rfl, _, _, _⟩ := ho5.slice
             have HIN6 := Lib.hid ((HINS.out.below E45).alloc (.cells #[.slice A5 R.length c5] 34))
             have HO6 := Lib.hid (ho5'.alloc (.cells #[.slice A5 R.length c5] 34))
             have HRD6 := Lib.hid (Rd.one w5 (.slice A5 R.length c5) 34)
             have E6 := E45.alloc (.cells #[.slice A5 R.length c5] 34)
             have hb6 := E6.size
             clear hcb4 hcd4 hb14)
          | ((with_reducible show wpList _ _ _ (⟨some 61, _, _, _, _, _⟩ :: _) _ _); go_must (refine wpList_value rfl (exec_build rfl rfl (run_buildS A5 _ c5 w5)) ?_))
          | ((with_reducible show wpList _ _ _ (⟨some 62, _, _, _, _, _⟩ :: _) _ _); go_must (refine wpList_appS _ rfl (.tmp 57) (.tmp 61) rfl (B + 2) _ xs rfl HIN6.out _ (.slice A5 R.length c5) R rfl HRD6.out rfl HO6.out (by omega) (by omega) ?_)
             intro v7 w7 hi7 hg7 hb7 hs7
             have HR7 : Hid (InR w w7 B (.slice (some ⟨bD, oD, none⟩) N c2) D v7 (xs ++ [R])) := Lib.hid ⟨(hs7 (B + 1) 156 _ (boxed_ext HBO.out E6) (by decide)).trans (boxed_ext HBO.out E6), (HDZ.out.below E6).same hs7, hi7, hb7 _ _ (by have := HEX.out.size; omega) (HEX.out.trans E6)⟩
             obtain ⟨A7, c7, rfl, _, _⟩ := hi7.slice
             rw [List.length_append, List.length_singleton, hxl] at HR7)
          | fail)
        go_roundg (N - (k + 1))
        case measure => omega
        case rel => exact ⟨k + 1, by go_num, by omega, by omega, by rw [HST2.out]; exact HR7⟩
    · have hkn : k = N := by omega
      subst hkn
      have hd5 : decide ((k : Int) < (k : Int)) = false := by simp
      obtain ⟨A7, c7, rfl, _, _⟩ := HI.out.ins.slice
      go_wp2_with fail
      go_ret
      refine ⟨_, rfl, ?_, HI.out.ext⟩
      have h1 := HI.out.ins
      rw [List.take_of_length_le (by omega)] at h1
      rw [List.take_of_length_le (by omega)]
      exact h1.rebase (by have := HI.out.ext.size; omega)
end Go.Proofs.YtcjeclddpkinkaaDoor
