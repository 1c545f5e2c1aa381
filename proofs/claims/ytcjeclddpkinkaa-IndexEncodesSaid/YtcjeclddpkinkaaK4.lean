/- The contract of the reference's Put. -/
import Derived.IntWalk
import Derived.Test.YtcjeclddpkinkaaK3
set_option linter.unusedSimpArgs false
set_option linter.unusedVariables false
namespace Go.Proofs.Ytcjeclddpkinkaa
open Go.RowKit Go.ChangeMaps Ix

theorem putL_full {cap : Nat} {p c : Int} {L : List En} (h : lk 0 L c = none) (hl : L.length = cap) : dropL c L = L ∧ putL cap p c L = ((p, c) :: L.dropLast, lstOf 0 L) := by
  have e : dropL c L = L := dropL_none fun x hx e => by
    have := (lk_isSome (L := L) (c := c) 0).2 ⟨x, hx, e⟩
    rw [h] at this
    cases this
  refine ⟨e, ?_⟩
  unfold putL
  rw [e, if_pos ⟨rfl, hl⟩]
theorem putL_room {cap : Nat} {p c : Int} {L : List En} (hw : Wf L) (h : ¬ ((lk 0 L c).isSome = false ∧ (dropL c L).length = cap)) : putL cap p c L = ((p, c) :: dropL c L, 0) := by
  unfold putL
  rw [if_neg]
  rintro ⟨h1, h2⟩
  refine h ⟨?_, by rw [h1]; exact h2⟩
  rw [lk_drop_len hw, decide_eq_false_iff_not]
  omega
theorem last_chunk {L : List En} {n : Nat} (hn : L.length = n + 1) : ∃ (h : n < L.length), L[n].2 = lstOf 0 L ∧ L.dropLast = L.take n := by
  refine ⟨by omega, ?_, ?_⟩
  · rcases List.eq_nil_or_concat L with rfl | ⟨A, x, rfl⟩
    · simp at hn
    · simp only [List.concat_eq_append] at hn ⊢
      have : A.length = n := by simpa using hn
      subst this
      rw [lstOf_append]
      simp [lstOf]
  · rw [List.dropLast_eq_take, hn]; rfl
theorem OwnE.one (w : World) (base : Nat) (hb : base ≤ w.heap.size) (p c : Int) : OwnE (w.alloc (.cells #[.int .u32 p, .int .i64 c] 39)) base (.slice (some ⟨w.heap.size, 0, none⟩) 1 1) [(p, c)] :=
  ⟨rfl, .inr ⟨w.heap.size, 1, #[.int .u32 p, .int .i64 c], rfl, hb, heap_alloc_new w _, Nat.le_refl _, by simp [maxLen], rfl, rfl⟩⟩

/-- a block of the reference's index whose list is stored anew -/
theorem Rix.put {w wr : World} {base q cap n m cA : Nat} {A A5 : Option Addr} {c5 : Nat} {L' : List En} (hb : base ≤ w.heap.size) (hq : q < w.heap.size) (hblk : Blk wr q 80 [.int .i64 cap, .slice A n cA]) (ho : OwnE wr w.heap.size (.slice A5 m c5) L') (hm : L'.length = m) (hc5 : m ≤ c5) (hm5 : c5 ≤ maxLen) (hr5 : Rd wr A5 (enCells L')) :
    Rix (wr.setCell ⟨q, 1, none⟩ (.slice A5 m c5)) base q cap L' := by
  subst hm
  refine ⟨A5, c5, hblk.set 1 _, hc5, hm5, hr5.of_block fun b o e hlt => ?_, ?_⟩
  · subst e
    have hbb : b ≠ q := by
      rcases ho.2 with ⟨h1, _⟩ | ⟨g, cap', cur, h1, h2, _⟩
      · simp at h1
      · simp only [Value.slice.injEq, Option.some.injEq, Addr.mk.injEq] at h1
        omega
    exact Below.heap_setCell _ _ _ _ (by exact hbb)
  · intro b o e
    subst e
    rcases ho.2 with ⟨h1, _⟩ | ⟨g, cap', cur, h1, h2, _⟩
    · simp at h1
    · simp only [Value.slice.injEq, Option.some.injEq, Addr.mk.injEq] at h1
      omega

set_option maxRecDepth 100000 in
set_option maxHeartbeats 1000000 in
theorem refput_bad (q : Nat) (p c : Int) (w : World) (hc : okC c = false) :
    Calls Try.prog 31 #[.pointer (some ⟨q, 0, none⟩), .int .u32 p, .int .i64 c] w fun e w' => e = .returned (.tuple #[.int .i64 0, .int .i64 1]) ∧ w = w' := by
  by_cases h1 : c < 1
  · have g1 : decide (c < 1) = true := decide_eq_true h1
    clear hc
    go_enter Try.func31, Try.ntmps31
    go_wp2
    go_ret2
    exact ⟨rfl, rfl⟩
  · have g1 : decide (c < 1) = false := decide_eq_false h1
    have g2 : decide (c > 65536) = true := by
      unfold okC at hc
      simp only [Bool.and_eq_false_iff, decide_eq_false_iff_not] at hc
      rw [decide_eq_true_iff]; omega
    clear hc
    go_enter Try.func31, Try.ntmps31
    go_wp2
    go_ret2
    exact ⟨rfl, rfl⟩

theorem Rd.front {w : World} {b o m : Nat} {L : List En} (h : Rd w (some ⟨b, o, none⟩) (enCells L)) : Rd w (some ⟨b, o, none⟩) (enCells (L.take m)) := by
  rw [← enCells_take]
  have := h.part 0 (m * 2)
  rw [List.drop_zero] at this
  exact this.congr fun _ => by simp [Addr.add_lit]
/-- an append into a row of the call's own: what lay below w stands -/
theorem Keep2.ofApp {w a b : World} {q : Nat} {row : Option Nat} (hg : a.grownBy b row) (hr : ∀ k, row = some k → w.heap.size ≤ k ∧ k < a.heap.size) (k : Keep2 q q w a) : Keep2 q q w b :=
  ⟨hg.os.trans k.os, hg.tape.trans k.tape, hg.output.trans k.output, Nat.le_trans k.size hg.size, fun i hi h1 h2 => (hg.block i (Nat.lt_of_lt_of_le hi k.size) (by
    intro e
    have := (hr i e.symm).1
    omega)).trans (k.block i hi h1 h2)⟩

set_option maxRecDepth 100000 in
set_option maxHeartbeats 2000000 in
theorem refput_calls (base q cap : Nat) (L : List En) (p c : Int) (h1 : 1 ≤ cap) (hcap : L.length ≤ cap) (hlen : cap ≤ 1000000) (w : World) (hw : Wf L) (hb : base ≤ w.heap.size) (h : Rix w base q cap L) (hx : OkE (p, c)) :
    Calls Try.prog 31 #[.pointer (some ⟨q, 0, none⟩), .int .u32 p, .int .i64 c] w fun e w' => e = .returned (.tuple #[.int .i64 (putL cap p c L).2, .int .i64 0]) ∧ Rix w' base q cap (putL cap p c L).1 ∧ Keep2 q q w w' := by
  have g1 : decide (c < 1) = false := by rw [decide_eq_false_iff_not]; have := hx.2.2.1; omega
  have g2 : decide (c > 65536) = false := by rw [decide_eq_false_iff_not]; have := hx.2.2.2; omega
  have hql := h.lt
  have hd := refdrop_calls base q cap L c (by omega) w hw hb h
  obtain ⟨L1, hL1⟩ : ∃ L1, dropL c L = L1 := ⟨_, rfl⟩
  obtain ⟨D, hD⟩ : ∃ D : Bool, (lk 0 L c).isSome = D := ⟨_, rfl⟩
  have hl1 : L1.length ≤ L.length := hL1 ▸ dropL_len c L
  rw [hL1, hD] at hd
  have HD := Lib.hid hd; have HW := Lib.hid hw; have HL1 := Lib.hid hL1; have HDD := Lib.hid hD; have HC := Lib.hid hcap
  clear hd hw hL1 hD h hx hcap
  go_enter Try.func31, Try.ntmps31
  go_wp2_with fail
  refine HD.out.mono ?_
  rintro e w1 ⟨rfl, ⟨A, cA, hx1⟩, hk1⟩
  have hb1 : Blk w1 q 80 [.int .i64 cap, .slice A L1.length cA] := hx1.1
  obtain ⟨W1, hW1⟩ : ∃ W, w1.alloc (.cells #[.int .u32 p, .int .i64 c] 39) = W := ⟨_, rfl⟩
  have hown : OwnE W1 w.heap.size (.slice (some ⟨w1.heap.size, 0, none⟩) 1 1) [(p, c)] := hW1 ▸ OwnE.one w1 _ hk1.size p c
  have hbW : Blk W1 q 80 [.int .i64 cap, .slice A L1.length cA] := hW1 ▸ hb1.alloc _
  have hrW : Rd W1 A (enCells L1) := hW1 ▸ hx1.2.2.2.1.alloc _
  have hkW : Keep2 q q w W1 := hW1 ▸ hk1.alloc _
  have hcA := hx1.2.1
  have hmA := hx1.2.2.1
  obtain ⟨n, hn⟩ : ∃ n, L1.length = n := ⟨_, rfl⟩
  rw [hn] at hbW hcA hl1
  have HN := Lib.hid hn
  have c0 := hbW.cell 0
  have c1 := hbW.cell 1
  have c2 := hbW.free 1
  have HOWN := Lib.hid hown; have HB := Lib.hid hbW; have HR := Lib.hid hrW; have HK := Lib.hid hkW
  clear hb1 hx1 hk1 hown hbW hrW hkW HD
  by_cases hfull : D = false ∧ n = cap
  · obtain ⟨rfl, rfl⟩ := hfull
    have hz1 : ((n : Int) == (n : Int)) = true := by simp
    have HLK : Hid (lk 0 L c = none) := Lib.hid (by have := HDD.out; cases h : lk 0 L c with | none => rfl | some _ => rw [h] at this; cases this)
    obtain ⟨m, rfl⟩ : ∃ m, n = m + 1 := ⟨n - 1, by omega⟩
    have hL1L : L1 = L := by rw [← HL1.out]; exact (putL_full (p := p) (cap := L.length) HLK.out rfl).1
    obtain ⟨hml, hlast, hdl⟩ := last_chunk HN.out
    obtain ⟨b, o, rfl, hc⟩ := HR.out (by rw [enCells_length, HN.out]; omega)
    have e1 : W1.cell? ⟨b, o + m * 2 + 1, none⟩ = some (.int .i64 L1[m].2) := en_cell hml hc 1 _ rfl
    rw [hlast] at e1
    obtain ⟨last, hlastE⟩ : ∃ x, lstOf 0 L1 = x := ⟨_, rfl⟩
    rw [hlastE] at e1
    have HLAST := Lib.hid hlastE; have HDL := Lib.hid hdl; have HLL := Lib.hid hL1L
    have i1 : (0 : Int) ≤ (m : Int) := by omega
    have i2 : (m : Int) < (m : Int) + 1 := by omega
    have i3 : (m : Int) ≤ (cA : Int) := by omega
    have i4 : IntKind.i64.wrap ((m : Int) + 1 - 1) = (m : Int) := by rw [Int.add_sub_cancel]; exact IntWalk.i64_in _ (by omega)
    have i5 : IntKind.i64.wrap (m : Int) = (m : Int) := IntWalk.i64_in _ (by omega)
    have htl : (L1.take m).length = m := by rw [List.length_take]; omega
    have HTL := Lib.hid htl
    clear hlast hdl hc hlastE hL1L hml htl
    go_wp2_with fail
    refine wp_region_quiet_lit (by kernel_rfl) (by kernel_rfl) ?_
    repeat (first | go_big_quiet_skip | (go_big_quiet_want; go_big_quiet_op; go_big_quiet_on))
    refine wpQuiet_nil ?_
    rintro _ ⟨n1, rfl⟩
    go_wp2_with fail
    refine wp_region_quiet_lit (by kernel_rfl) (by kernel_rfl) ?_
    repeat (first | go_big_quiet_skip | (go_big_quiet_want; go_big_quiet_op; go_big_quiet_on))
    refine wpQuiet_nil ?_
    rintro _ ⟨n2, rfl⟩
    go_wp2_with fail
    refine wp_region_still_tail 11 (by kernel_rfl) (by kernel_rfl) ?_
    simp only [List.take_succ_cons, List.take_zero, List.drop_succ_cons, List.drop_zero]
    obtain ⟨Wd, hWd⟩ : ∃ W, ((W1.drewN n1).drewN n2).drew = W := ⟨_, rfl⟩
    have e2 : (World.mk ((W1.drewN n1).drewN n2).heap ((W1.drewN n1).drewN n2).tape (((W1.drewN n1).drewN n2).drawn + 1) ((W1.drewN n1).drewN n2).os ((W1.drewN n1).drewN n2).output) = Wd := hWd
    simp only [e2]
    have ED : Ext W1 Wd := hWd ▸ (((Ext.refl W1).drawn ((Drawn.refl W1).step n1)).drawn ((Drawn.refl _).step n2)).drew
    have BD := HB.out.below ED
    have d0 := BD.cell 0
    have d1 := BD.cell 1
    have d2 := BD.free 1
    have OD := Lib.hid (HOWN.out.ext ED); have RR := Lib.hid (HR.out.ext ED); have KD := Lib.hid (HK.out.ext ED)
    have hbase : w.heap.size ≤ Wd.heap.size := KD.out.size
    have HBD := Lib.hid BD
    clear hWd e2 ED BD c0 c1 c2 e1
    repeat still_step
    refine wpStill_nil ?_
    go_wp2_with (first
      | ((with_reducible show wpList _ _ _ (⟨some 61, _, _, _, _, _⟩ :: _) _ _); go_must (refine wpList_appE Wd rfl (.tmp 50) (.tmp 60) rfl w.heap.size _ [(p, c)] rfl OD.out (some ⟨b, o, none⟩) m cA (L1.take m) rfl HTL.out (Rd.front RR.out)  (by simp; omega) hbase ?_); intro v3 W3 hown3 hgr3 hbel3
         clear d0 d1 d2
         have BD3 : Blk W3 q 80 [.int .i64 ((m + 1 : Nat) : Int), .slice (some ⟨b, o, none⟩) (m + 1) cA] := HBD.out.grown hgr3 fun e => by have := (OD.out.base_le q e.symm).1; omega
         have d0 := BD3.cell 0
         have d1 := BD3.cell 1
         have d2 := BD3.free 1
         have K3 : Keep2 q q w W3 := Keep2.ofApp hgr3 OD.out.base_le KD.out
         obtain ⟨A7, c7, rfl, hc7, hm7, hr7⟩ := OwnE.slice hown3
         have hl7 : ([(p, c)] ++ L1.take m).length = m + 1 := by rw [List.length_append, HTL.out, List.length_singleton]; omega
         rw [hl7] at hc7 hown3
         simp only [hl7]
         have HO3 := Lib.hid hown3; have HB3 := Lib.hid BD3; have HR7 := Lib.hid hr7; have HK3 := Lib.hid K3; have HL7 := Lib.hid hl7
         clear hgr3 hbel3 BD3 hown3 hr7 hl7 K3)
      | fail)
    go_ret2
    have e := (putL_full (p := p) (cap := m + 1) HLK.out (by rw [← HLL.out]; exact HN.out)).2
    rw [← HLL.out, HDL.out, HLAST.out] at e
    rw [← HLL.out, e]
    exact ⟨rfl, Rix.put hb hql HB3.out HO3.out HL7.out hc7 hm7 HR7.out, HK3.out.grown (grownBy_setCell _ _ _ _)⟩
  · have hroom : putL cap p c L = ((p, c) :: L1, 0) := by
      have e := putL_room (p := p) (cap := cap) HW.out (L := L) (c := c) (by rw [HDD.out, HL1.out, HN.out]; exact hfull)
      rw [HL1.out] at e
      exact e
    have HROOM := Lib.hid hroom
    have hnc : n ≤ cap := Nat.le_trans hl1 HC.out
    have hz1 : D = false → ((n : Int) == (cap : Int)) = false := fun h => by rw [beq_eq_false_iff_ne]; intro e; exact hfull ⟨h, by omega⟩
    clear hfull hroom
    cases D
    case' false => have hz2 := hz1 rfl
    case' true => have hz2 := trivial
    all_goals
      clear hz1
      go_wp2_with fail
      refine wp_region_quiet_lit (by kernel_rfl) (by kernel_rfl) ?_
      repeat (first | go_big_quiet_skip | (go_big_quiet_want; go_big_quiet_op; go_big_quiet_on))
      refine wpQuiet_nil ?_
      rintro _ ⟨n1, rfl⟩
      obtain ⟨Wd, hWd⟩ : ∃ W, W1.drewN n1 = W := ⟨_, rfl⟩
      simp only [hWd]
      have ED : Ext W1 Wd := hWd ▸ ((Ext.refl W1).drawn ((Drawn.refl W1).step n1))
      have BD := HB.out.below ED
      have d0 := BD.cell 0
      have d1 := BD.cell 1
      have d2 := BD.free 1
      have OD := Lib.hid (HOWN.out.ext ED); have RR := Lib.hid (HR.out.ext ED); have KD := Lib.hid (HK.out.ext ED)
      have hbase : w.heap.size ≤ Wd.heap.size := KD.out.size
      have HBD := Lib.hid BD
      clear hWd ED BD c0 c1 c2
      go_wp2_with (first
        | ((with_reducible show wpList _ _ _ (⟨some 72, _, _, _, _, _⟩ :: _) _ _); go_must (refine wpList_appE Wd rfl (.tmp 67) (.tmp 71) rfl w.heap.size _ [(p, c)] rfl OD.out A n cA L1 rfl HN.out RR.out (by simp; omega) hbase ?_); intro v3 W3 hown3 hgr3 hbel3
           clear d0 d1 d2
           have BD3 : Blk W3 q 80 [.int .i64 (cap : Int), .slice A n cA] := HBD.out.grown hgr3 fun e => by have := (OD.out.base_le q e.symm).1; omega
           have d0 := BD3.cell 0
           have d1 := BD3.cell 1
           have d2 := BD3.free 1
           have K3 : Keep2 q q w W3 := Keep2.ofApp hgr3 OD.out.base_le KD.out
           obtain ⟨A7, c7, rfl, hc7, hm7, hr7⟩ := OwnE.slice hown3
           have hl7 : ([(p, c)] ++ L1).length = n + 1 := by rw [List.length_append, HN.out, List.length_singleton]; omega
           rw [hl7] at hc7 hown3
           simp only [hl7]
           have HO3 := Lib.hid hown3; have HB3 := Lib.hid BD3; have HR7 := Lib.hid hr7; have HK3 := Lib.hid K3; have HL7 := Lib.hid hl7
           clear hgr3 hbel3 BD3 hown3 hr7 hl7 K3)
        | fail)
      go_ret2
      rw [HROOM.out]
      exact ⟨rfl, Rix.put hb hql HB3.out HO3.out HL7.out hc7 hm7 HR7.out, HK3.out.grown (grownBy_setCell _ _ _ _)⟩

end Go.Proofs.Ytcjeclddpkinkaa
