/- IndexEvictsTheOldest: the walk. -/
import Derived.Test.YtcjeclddpkinkaaJ3
set_option linter.unusedSimpArgs false
set_option linter.unusedVariables false
namespace Go.Proofs.Ytcjeclddpkinkaa
open Go.RowKit Go.ChangeMaps Ix

theorem quiet_eqEn {C : World → Prop} {o : Oper} {a : Act} {K : Act → Prop} (p q : Operand) (r : TypeId) (ho : o.op = .binOp .eql 39 p q r) (x y : En) (hp : a.eval p = enV x) (hq : a.eval q = enV y) (z : Bool) (hz : decide (x = y) = z) (hk : K (a.put o.dst (.bool z))) : o.quiet Try.prog a C K := by
  subst hz
  refine quiet_any _ ?_ hk
  intro w _
  have h := run_eqEn w x y
  unfold enV at hp hq h
  unfold execOp
  rw [ho]
  simp only [Sem.run_bind, Sem.run_pure, hp, hq, run_eqGuard_agg w BinOp.eql 39 p q _ _ en_guard, binOp, h, Result.andThen]

set_option maxRecDepth 100000 in
set_option maxHeartbeats 2000000 in
theorem evicts_bad (cap : Int) (A : Option Addr) (N c : Nat) (md : Bool) (mp mc : Int) (w : World) (hb : (cap < 1 ∨ cap > 4096) ∨ N > 80) (hNb : N ≤ 100000000000000) :
    Calls Try.prog 5 #[.int .i64 cap, .slice A N c, .agg #[.bool md, .int .u32 mp, .int .i64 mc]] w (RetT w) := by
  have C1 := Lib.hid fun w => play_bad cap A N c w hb (by omega)
  clear hb
  go_enter Try.func5, Try.ntmps5
  go_wp2_with fail
  refine (sanity23_calls _).mono ?_
  rintro e w1 ⟨rfl, E1⟩
  go_wp2_with fail
  refine (C1.out _).mono ?_
  rintro e w2 ⟨rfl, F2⟩
  go_wp2
  go_ret
  exact ⟨rfl, (((Ext.refl w).alloc _).trans E1).trans F2⟩

set_option maxRecDepth 100000 in
set_option maxHeartbeats 2000000 in
theorem evicts_none (cap : Nat) (A : Option Addr) (N c : Nat) (l : List Op3) (md : Bool) (mp mc : Int) (w : World) (h1 : 1 ≤ cap) (h2 : cap ≤ 4096) (hA : Rd w A (opCells l)) (hN : l.length = N) (h80 : N ≤ 80) (hok : ∀ o ∈ l, OkO o) (hmc : mc < 1 ∨ mc > 65536) :
    Calls Try.prog 5 #[.int .i64 (cap : Int), .slice A N c, .agg #[.bool md, .int .u32 mp, .int .i64 mc]] w (RetT w) := by
  have C1 := Lib.hid fun w (h : Rd w A (opCells l)) => play_calls cap A N c l w h1 h2 h hN h80 hok
  have g : decide (mc < 1) = true ∨ (decide (mc < 1) = false ∧ decide (mc > 65536) = true) := by
    by_cases h : mc < 1
    · exact .inl (decide_eq_true h)
    · exact .inr ⟨decide_eq_false h, decide_eq_true (hmc.resolve_left h)⟩
  clear hok hmc
  obtain ⟨W, hW⟩ : ∃ W, w.alloc (.cells #[.bool md, .int .u32 mp, .int .i64 mc] 34) = W := ⟨_, rfl⟩
  have HB : Blk W w.heap.size 34 [.bool md, .int .u32 mp, .int .i64 mc] := hW ▸ Blk.new w _ 34
  have E0 : Ext w W := hW ▸ (Ext.refl w).alloc _
  rcases g with g | ⟨g, g'⟩
  all_goals
    go_enter Try.func5, Try.ntmps5
    go_wp2_with fail
    try simp only [hW]
    refine (sanity23_calls _).mono ?_
    rintro e w1 ⟨rfl, E1⟩
    go_wp2_with fail
    refine (C1.out _ (hA.ext (E0.trans E1))).mono ?_
    rintro e w2 ⟨p, r, rfl, hp, hr, hx, F2⟩
    have k2 : w2.cell? ⟨w.heap.size, 2, none⟩ = some (.int .i64 mc) := ((HB.below E1).below F2).cell 2
    go_wp2
    go_ret
    exact ⟨rfl, (E0.trans E1).trans F2⟩

set_option maxRecDepth 100000 in
set_option maxHeartbeats 2000000 in
theorem evicts_good (cap : Nat) (A : Option Addr) (N c : Nat) (l : List Op3) (md : Bool) (mp mc : Int) (w : World) (h1 : 1 ≤ cap) (h2 : cap ≤ 4096) (hA : Rd w A (opCells l)) (hN : l.length = N) (h80 : N ≤ 80) (hok : ∀ o ∈ l, OkO o) (hm : OkE (mp, mc)) :
    Calls Try.prog 5 #[.int .i64 (cap : Int), .slice A N c, .agg #[.bool md, .int .u32 mp, .int .i64 mc]] w (RetT w) := by
  have C1 := Lib.hid fun w (h : Rd w A (opCells l)) => play_calls cap A N c l w h1 h2 h hN h80 hok
  have g1 : decide (mc < 1) = false := by rw [decide_eq_false_iff_not]; have := hm.2.2.1; omega
  have g2 : decide (mc > 65536) = false := by rw [decide_eq_false_iff_not]; have := hm.2.2.2; omega
  have hwf : (Lit.int .i64 mc).wf = true := (show In mc from ⟨by have := hm.2.2.1; omega, hm.2.2.2⟩).wf
  have hlen := playL_len cap l
  have hcap := play_cap h1 l
  rw [hN] at hlen
  obtain ⟨L, hL⟩ : ∃ L, playL cap l = L := ⟨_, rfl⟩
  rw [hL] at hlen hcap
  have HL := Lib.hid hL
  obtain ⟨L1, hL1⟩ : ∃ L1, dropL mc L = L1 := ⟨_, rfl⟩
  have hlen1 : L1.length ≤ L.length := hL1 ▸ dropL_len mc L
  have hno : ∀ y ∈ L1, y.2 ≠ mc := hL1 ▸ dropL_no L mc
  have HL1 := Lib.hid hL1; have HNO := Lib.hid hno; have HM := Lib.hid hm
  clear hok hL hL1 hno hm
  obtain ⟨W, hW⟩ : ∃ W, w.alloc (.cells #[.bool md, .int .u32 mp, .int .i64 mc] 34) = W := ⟨_, rfl⟩
  have HB : Blk W w.heap.size 34 [.bool md, .int .u32 mp, .int .i64 mc] := hW ▸ Blk.new w _ 34
  have E0 : Ext w W := hW ▸ (Ext.refl w).alloc _
  go_enter Try.func5, Try.ntmps5
  go_wp2_with fail
  try simp only [hW]
  refine (sanity23_calls _).mono ?_
  rintro e w1 ⟨rfl, E1⟩
  go_wp2_with fail
  refine (C1.out _ (hA.ext (E0.trans E1))).mono ?_
  rintro e w2 ⟨p, r, rfl, hp, hr, hx, F2⟩
  rw [HL.out] at hx
  have B2 := (HB.below E1).below F2
  have hsz := HB.lt
  have hsz1 := E1.size
  have k1 : w2.cell? ⟨w.heap.size, 1, none⟩ = some (.int .u32 mp) := B2.cell 1
  have k2 : w2.cell? ⟨w.heap.size, 2, none⟩ = some (.int .i64 mc) := B2.cell 2
  have E2 := (E0.trans E1).trans F2
  clear hW
  go_wp2_with fail
  refine (drop_calls p r cap L mc w2 hx hwf).mono ?_
  rintro e w3 ⟨rfl, hx3, hk3⟩
  rw [HL1.out] at hx3
  have B3 : Blk w3 w.heap.size 34 [.bool md, .int .u32 mp, .int .i64 mc] := (hk3.block w.heap.size B2.lt (by omega) (by omega)).trans B2
  have E3 := E2.keep hk3 (by omega) (by omega)
  clear hx hk3 k1 k2 B2 E2
  go_wp2_with fail
  refine (all_calls p r cap L1 (by omega) w3 hx3).mono ?_
  rintro e w4 ⟨v4, rfl, hown4, F4⟩
  have hx4 := hx3.ext F4
  have B4 := B3.below F4
  have E4 := E3.trans F4
  have hp3 := hx3.1.lt
  have hr3 := hx3.1.2.lt
  have k1 : w4.cell? ⟨w.heap.size, 1, none⟩ = some (.int .u32 mp) := B4.cell 1
  have k2 : w4.cell? ⟨w.heap.size, 2, none⟩ = some (.int .i64 mc) := B4.cell 2
  clear hx3 B3 E3 F4
  go_wp2_with fail
  refine (put_calls p r cap L1 mp mc w4 hx4 HM.out).mono ?_
  rintro e w5 ⟨rfl, hx5, hk5⟩
  have hown5 : OwnE w5 w3.heap.size v4 L1 := ownsRow_keep hown4 hk5 hp3 hr3
  have B5 : Blk w5 w.heap.size 34 [.bool md, .int .u32 mp, .int .i64 mc] := (hk5.block w.heap.size B4.lt (by omega) (by omega)).trans B4
  have E5 := E4.keep hk5 (by omega) (by omega)
  have hput : putL cap mp mc L1 = if L1.length = cap then ((mp, mc) :: L1.dropLast, lstOf 0 L1) else ((mp, mc) :: L1, 0) := by
    unfold putL
    rw [dropL_none HNO.out]
    by_cases h : L1.length = cap
    · rw [if_pos ⟨rfl, h⟩, if_pos h]
    · rw [if_neg (fun e => h e.2), if_neg h]
  rw [hput] at hx5 ⊢
  clear hown4 hx4 hk5 B4 E4 k1 k2 hput
  obtain ⟨A5, c5, rfl, hc5, hm5, hr5⟩ := OwnE.slice hown5
  clear hown5
  by_cases hfull : L1.length = cap
  · rw [if_pos hfull] at hx5 ⊢
    have hlen2 : ((mp, mc) :: L1.dropLast).length ≤ 1000000 := by simp only [List.length_cons, List.length_dropLast]; omega
    go_wp2_with fail
    refine (all_calls p r cap ((mp, mc) :: L1.dropLast) hlen2 w5 hx5).mono ?_
    rintro e w6 ⟨v6, rfl, hown6, F6⟩
    have B6 := B5.below F6
    have E6 := E5.trans F6
    have hr6 := hr5.ext F6
    obtain ⟨A6, c6, rfl, hc6, hm6, hr6'⟩ := OwnE.slice hown6
    clear hown6 hr5 B5 E5 F6 hx5
    obtain ⟨A0, z, hAz⟩ : ∃ A0 z, L1 = A0 ++ [z] := by
      rcases List.eq_nil_or_concat L1 with h | ⟨A0, z, h⟩
      · rw [h] at hfull; simp at hfull; omega
      · exact ⟨A0, z, by rw [h, List.concat_eq_append]⟩
    have hA0 : A0.length = cap - 1 := by rw [← hfull, hAz]; simp
    have hdl : L1.dropLast = A0 := by rw [hAz, List.dropLast_concat]
    have hls : lstOf 0 L1 = z.2 := by rw [hAz, lstOf_append]; rfl
    rw [hdl] at hr6' hc6 hlen2
    simp only [hdl, hls]
    obtain ⟨b5, o5, rfl, hcell⟩ := hr6 (by rw [enCells_length]; omega)
    have hzl : cap - 1 < L1.length := by omega
    have hz0 : L1[cap - 1] = z := by simp [hAz, hA0]
    have hzc := en_cell hzl hcell 1 (.int .i64 z.2) (by rw [hz0]; rfl)
    have hrA : Rd w6 (some ⟨b5, o5, none⟩) (enCells A0) := fun _ => ⟨b5, o5, rfl, fun j u hu => hcell j u (by rw [hAz, enCells_append, List.getElem?_append_left (List.getElem?_eq_some_iff.1 hu).1]; exact hu)⟩
    have i1 : (0 : Int) ≤ (cap : Int) - 1 := by omega
    have i2 : (cap : Int) - 1 < (cap : Int) := by omega
    have i3 : ((cap : Int) - 1).toNat = cap - 1 := by omega
    have HAZ := Lib.hid hAz; have HA0 := Lib.hid hA0
    clear hcell hAz hdl hls hz0 hA0 hzl
    have k1 : w6.cell? ⟨w.heap.size, 1, none⟩ = some (.int .u32 mp) := B6.cell 1
    have k2 : w6.cell? ⟨w.heap.size, 2, none⟩ = some (.int .i64 mc) := B6.cell 2
    obtain ⟨b6, o6, rfl, hcell6⟩ := hr6' (by rw [enCells_length]; simp)
    have hn0 := hcell6
    have q0 : w6.cell? ⟨b6, o6, none⟩ = some (.int .u32 mp) := hcell6 0 _ rfl
    have q1 : w6.cell? ⟨b6, o6 + 1, none⟩ = some (.int .i64 mc) := hcell6 1 _ rfl
    have HC6 := Lib.hid hcell6
    have hcq2 : ((A0.length : Int) + 1 == ((cap - 1 : Nat) : Int) + 1) = true := by rw [beq_iff_eq, HA0.out]
    have hcq : ((cap : Int) == ((cap - 1 : Nat) : Int) + 1) = true := by rw [beq_iff_eq]; omega
    clear hcell6 hn0
    go_wp2_with fail
    refine wp_region_quiet_lit (by kernel_rfl) (by kernel_rfl) ?_
    repeat (first
      | go_big_quiet_skip
      | (go_big_quiet_want; refine quiet_eqEn (.tmp 92) (.tmp 97) _ rfl (mp, mc) (mp, mc) rfl rfl true (by simp) ?_; go_simp; go_big_quiet_on)
      | (go_big_quiet_want; go_big_quiet_op; go_big_quiet_on))
    have hrN : Rd w6 (if c6 = 1 then some ⟨b6, o6, none⟩ else some ⟨b6, o6 + 2, none⟩) (enCells A0) := by
      intro hpos
      rw [enCells_length] at hpos
      rw [if_neg (by simp only [List.length_cons] at hc6; omega)]
      refine ⟨b6, o6 + 2, rfl, fun j u hu => ?_⟩
      have := HC6.out (j + 2) u (by show ([.int .u32 mp, .int .i64 mc] ++ enCells A0)[j + 2]? = some u; rw [List.getElem?_append_right (by simp)]; simpa using hu)
      rw [show o6 + 2 + j = o6 + (j + 2) from by omega]
      exact this
    go_big_quiet_want
    refine quiet_call (f := 20) (args := #[.slice (if c6 = 1 then some ⟨b6, o6, none⟩ else some ⟨b6, o6 + 2, none⟩) A0.length (c6 - 1), .slice (some ⟨b5, o5, none⟩) (cap - 1) c5]) (v := .bool true) ?h1 ?h2 ?_
    case h1 => (intro w3 hw; go_simp)
    case h2 =>
      rintro w3 ⟨n, rfl⟩
      refine (sameen_calls _ _ A0.length (cap - 1) _ _ A0 A0 _ (hrN.drewN n) (hrA.drewN n) rfl HA0.out (by rw [HA0.out]; omega) (by omega) true (by simp)).mono ?_
      rintro e w4 ⟨rfl, m, rfl⟩
      exact ⟨rfl, n + m, World.drewN_drewN ..⟩
    go_simp
    go_big_quiet_on
    repeat (first | go_big_quiet_skip | (go_big_quiet_want; go_big_quiet_op; go_big_quiet_on))
    refine wpQuiet_nil ?_
    rintro _ ⟨nq, rfl⟩
    go_wp2
    all_goals (go_ret; exact ⟨rfl, E6.drawn ((Drawn.refl _).step nq)⟩)
  · rw [if_neg hfull] at hx5 ⊢
    have hlen2 : ((mp, mc) :: L1).length ≤ 1000000 := by simp only [List.length_cons]; omega
    obtain ⟨n1, hn1⟩ : ∃ n, L1.length = n := ⟨_, rfl⟩
    have hne0 : ((n1 : Int) == (cap : Int)) = false := by rw [beq_eq_false_iff_ne]; omega
    have hne1 : ¬ ((n1 : Int) = (cap : Int)) := by omega
    rw [hn1] at hlen1 hfull hc5
    simp only [hn1]
    have HN1 := Lib.hid hn1
    clear hn1 hfull
    go_wp2_with fail
    refine (all_calls p r cap ((mp, mc) :: L1) hlen2 w5 hx5).mono ?_
    rintro e w6 ⟨v6, rfl, hown6, F6⟩
    have B6 := B5.below F6
    have E6 := E5.trans F6
    have hr6 := hr5.ext F6
    obtain ⟨A6, c6, rfl, hc6, hm6, hr6'⟩ := OwnE.slice hown6
    clear hown6 hr5 B5 E5 F6 hx5
    have k1 : w6.cell? ⟨w.heap.size, 1, none⟩ = some (.int .u32 mp) := B6.cell 1
    have k2 : w6.cell? ⟨w.heap.size, 2, none⟩ = some (.int .i64 mc) := B6.cell 2
    obtain ⟨b6, o6, rfl, hcell6⟩ := hr6' (by rw [enCells_length]; simp)
    have q0 : w6.cell? ⟨b6, o6, none⟩ = some (.int .u32 mp) := hcell6 0 _ rfl
    have q1 : w6.cell? ⟨b6, o6 + 1, none⟩ = some (.int .i64 mc) := hcell6 1 _ rfl
    have HC6 := Lib.hid hcell6
    have hl6 : ((mp, mc) :: L1).length = n1 + 1 := by rw [List.length_cons, HN1.out]
    rw [hl6] at hc6 hlen2
    simp only [hl6]
    have hcq2 : ((n1 : Int) + 1 == (n1 : Int) + 1) = true := by rw [beq_iff_eq]
    clear hcell6 hl6
    go_wp2_with fail
    refine wp_region_quiet_lit (by kernel_rfl) (by kernel_rfl) ?_
    repeat (first
      | go_big_quiet_skip
      | (go_big_quiet_want; refine quiet_eqEn (.tmp 92) (.tmp 97) _ rfl (mp, mc) (mp, mc) rfl rfl true (by simp) ?_; go_simp; go_big_quiet_on)
      | (go_big_quiet_want; go_big_quiet_op; go_big_quiet_on))
    have hrN : Rd w6 (if c6 = 1 then some ⟨b6, o6, none⟩ else some ⟨b6, o6 + 2, none⟩) (enCells L1) := by
      intro hpos
      rw [enCells_length, HN1.out] at hpos
      rw [if_neg (by omega)]
      refine ⟨b6, o6 + 2, rfl, fun j u hu => ?_⟩
      have := HC6.out (j + 2) u (by show ([.int .u32 mp, .int .i64 mc] ++ enCells L1)[j + 2]? = some u; rw [List.getElem?_append_right (by simp)]; simpa using hu)
      rw [show o6 + 2 + j = o6 + (j + 2) from by omega]
      exact this
    go_big_quiet_want
    refine quiet_call (f := 20) (args := #[.slice (if c6 = 1 then some ⟨b6, o6, none⟩ else some ⟨b6, o6 + 2, none⟩) n1 (c6 - 1), .slice A5 n1 c5]) (v := .bool true) ?h1 ?h2 ?_
    case h1 => (intro w3 hw; go_simp)
    case h2 =>
      rintro w3 ⟨n, rfl⟩
      refine (sameen_calls _ _ n1 n1 _ _ L1 L1 _ (hrN.drewN n) (hr6.drewN n) HN1.out HN1.out (by omega) (by omega) true (by simp)).mono ?_
      rintro e w4 ⟨rfl, m, rfl⟩
      exact ⟨rfl, n + m, World.drewN_drewN ..⟩
    go_simp
    go_big_quiet_on
    repeat (first | go_big_quiet_skip | (go_big_quiet_want; go_big_quiet_op; go_big_quiet_on))
    refine wpQuiet_nil ?_
    rintro _ ⟨nq, rfl⟩
    go_wp2
    all_goals (go_ret; exact ⟨rfl, E6.drawn ((Drawn.refl _).step nq)⟩)

theorem evicts_law (cap : Int) (A : Option Addr) (N c : Nat) (l : List Op3) (md : Bool) (mp mc : Int) (w : World) (hA : Rd w A (opCells l)) (hN : l.length = N) (hNb : N ≤ 100000000000000) (hok : ∀ o ∈ l, OkO o) (hm : OkO ⟨md, mp, mc⟩) :
    Calls Try.prog 5 #[.int .i64 cap, .slice A N c, .agg #[.bool md, .int .u32 mp, .int .i64 mc]] w (RetT w) := by
  by_cases hb : (cap < 1 ∨ cap > 4096) ∨ N > 80
  · exact evicts_bad cap A N c md mp mc w hb hNb
  · obtain ⟨m, rfl⟩ : ∃ m : Nat, cap = (m : Int) := ⟨cap.toNat, by omega⟩
    by_cases hmc : mc < 1 ∨ mc > 65536
    · exact evicts_none m A N c l md mp mc w (by omega) (by omega) hA hN (by omega) hok hmc
    · exact evicts_good m A N c l md mp mc w (by omega) (by omega) hA hN (by omega) hok ⟨hm.1, hm.2.1, by simp only; omega, by simp only; omega⟩

end Go.Proofs.Ytcjeclddpkinkaa
