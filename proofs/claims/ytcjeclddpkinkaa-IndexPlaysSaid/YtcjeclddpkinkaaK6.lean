/- IndexPlays: the walk. -/
import Derived.Test.YtcjeclddpkinkaaK5
import Derived.Test.YtcjeclddpkinkaaJ2
import Derived.Deep.DeepCutAuto
set_option linter.unusedSimpArgs false
set_option linter.unusedVariables false
namespace Go.Proofs.Ytcjeclddpkinkaa
open Go.RowKit Go.ChangeMaps Ix
attribute [local go_sem ↓] Go.wp_at_zero Go.wp_at_succ

theorem cell_ext {a b : World} {g o : Nat} {v : Value} (h : Ext a b) (c : a.cell? ⟨g, o, none⟩ = some v) : b.cell? ⟨g, o, none⟩ = some v := (cell_same (h.block g (lt_of_cell c))).trans c
theorem cell_keep2 {a b : World} {g o p r : Nat} {v : Value} (k : Keep2 p r a b) (h1 : g ≠ p) (h2 : g ≠ r) (c : a.cell? ⟨g, o, none⟩ = some v) : b.cell? ⟨g, o, none⟩ = some v := (cell_same (k.block g (lt_of_cell c) h1 h2)).trans c

/-- the index and the reference's side by side, and a copy of both -/
structure Two (w : World) (p r q base cap : Nat) (L : List En) (p1 r1 q1 b1 : Nat) (M : List En) : Prop where
  x : Ixd w p r cap L
  y : Rix w base q cap L
  a : Ixd w p1 r1 cap M
  b : Rix w b1 q1 cap M
  op : p < base
  or : r < base
  oq : base ≤ q
  o1 : q < p1
  o2 : q < r1
  o3 : q < q1
  o4 : q < b1
section
variable {w w' w1 w2 : World} {p r q base cap p1 r1 q1 b1 : Nat} {L L' M : List En}
theorem Two.ext (h : Two w p r q base cap L p1 r1 q1 b1 M) (k : Ext w w') : Two w' p r q base cap L p1 r1 q1 b1 M :=
  ⟨h.x.ext k, h.y.ext k, h.a.ext k, h.b.ext k, h.op, h.or, h.oq, h.o1, h.o2, h.o3, h.o4⟩
theorem Two.yAt (h : Two w p r q base cap L p1 r1 q1 b1 M) (k : Keep2 p r w w1) : Rix w1 base q cap L :=
  h.y.keep k h.op h.or (by have := h.op; have := h.oq; omega) (by have := h.or; have := h.oq; omega)
theorem Two.step (h : Two w p r q base cap L p1 r1 q1 b1 M) (k1 : Keep2 p r w w1) (x1 : Ixd w1 p r cap L') (k2 : Keep2 q q w1 w2) (y2 : Rix w2 base q cap L') : Two w2 p r q base cap L' p1 r1 q1 b1 M := by
  have e1 := h.op; have e2 := h.or; have e3 := h.oq; have e4 := h.o1; have e5 := h.o2; have e6 := h.o3; have e7 := h.o4
  refine ⟨x1.keep k2 (by omega) (by omega) (by omega) (by omega), y2, ?_, ?_, h.op, h.or, h.oq, h.o1, h.o2, h.o3, h.o4⟩
  · exact (h.a.keep k1 (by omega) (by omega) (by omega) (by omega)).keep k2 (by omega) (by omega) (by omega) (by omega)
  · exact (h.b.keep k1 (by omega) (by omega) (by omega) (by omega)).keep k2 (by omega) (by omega) (by omega) (by omega)
end
theorem agg_op : AggOf Try.prog 34 3 := ⟨by kernel_rfl, by kernel_rfl⟩
theorem Blk.keep2 {a b : World} {g p r : Nat} {t : TypeId} {cs : List Value} (h : Blk a g t cs) (k : Keep2 p r a b) (h1 : g ≠ p) (h2 : g ≠ r) : Blk b g t cs := (k.block g h.lt h1 h2).trans h
theorem playL_cap {c : Nat} (h1 : 1 ≤ c) (l : List Op3) : (playL c l).length ≤ c := play_cap h1 l

set_option maxRecDepth 100000 in
set_option maxHeartbeats 2000000 in
theorem plays_long (cap : Int) (A : Option Addr) (N c : Nat) (at_ : Int) (w : World) (h80 : N > 80) (hNb : N ≤ 100000000000000) :
    Calls Try.prog 6 #[.int .i64 cap, .slice A N c, .int .u8 at_] w (RetT w) := by
  have g : decide ((N : Int) > 80) = true := by rw [decide_eq_true_iff]; omega
  go_enter Try.func6, Try.ntmps6
  go_wp2_with fail
  refine (sanity23_calls _).mono ?_
  rintro e w1 ⟨rfl, E1⟩
  go_wp2
  go_ret
  exact ⟨rfl, E1⟩

set_option maxRecDepth 100000 in
set_option maxHeartbeats 2000000 in
theorem plays_bad (cap : Int) (A : Option Addr) (N c : Nat) (at_ : Int) (w : World) (h80 : N ≤ 80) (hb : cap < 1 ∨ cap > 4096) :
    Calls Try.prog 6 #[.int .i64 cap, .slice A N c, .int .u8 at_] w (RetT w) := by
  have g : decide ((N : Int) > 80) = false := by rw [decide_eq_false_iff_not]; omega
  have C1 := Lib.hid fun w => new_bad cap w hb
  have C2 := Lib.hid fun w => refnew_bad cap w hb
  clear hb
  go_enter Try.func6, Try.ntmps6
  go_wp2_with fail
  refine (sanity23_calls _).mono ?_
  rintro e w1 ⟨rfl, E1⟩
  go_wp2_with fail
  refine (C1.out _).mono ?_
  rintro e _ ⟨rfl, rfl⟩
  go_wp2_with fail
  refine (C2.out _).mono ?_
  rintro e _ ⟨rfl, rfl⟩
  go_wp2
  go_ret
  exact ⟨rfl, E1⟩

set_option maxRecDepth 100000 in
set_option maxHeartbeats 8000000 in
theorem plays_good (cap : Nat) (A : Option Addr) (N c : Nat) (l : List Op3) (at_ : Int) (w : World) (h1 : 1 ≤ cap) (h2 : cap ≤ 4096) (hA : Rd w A (opCells l)) (hN : l.length = N) (h80 : N ≤ 80) (hok : ∀ o ∈ l, OkO o) (ha0 : 0 ≤ at_) (ha1 : at_ ≤ 255) :
    Calls Try.prog 6 #[.int .i64 (cap : Int), .slice A N c, .int .u8 at_] w (RetT w) := by
  have g : decide ((N : Int) > 80) = false := by rw [decide_eq_false_iff_not]; omega
  have HN := Lib.hid hN; have HOK := Lib.hid hok
  clear hN hok
  go_enter Try.func6, Try.ntmps6
  go_wp2_with fail
  refine (sanity23_calls _).mono ?_
  rintro e w1 ⟨rfl, E1⟩
  go_wp2_with fail
  refine (new_calls cap _ h1 h2).mono ?_
  rintro e w2 ⟨p, r, rfl, hp, hr, hx2, F2⟩
  have E2 := E1.trans F2
  have hpl := hx2.1.lt
  have hrl := hx2.1.2.lt
  have hsz1 := E1.size
  go_wp2_with fail
  refine (refnew_calls cap _ h1 h2).mono ?_
  rintro e w3 ⟨rfl, hy3, F3⟩
  have E3 := E2.trans F3
  have hx3 := hx2.ext F3
  have hq3 := hy3.lt
  obtain ⟨q, hq⟩ : ∃ q, w2.heap.size = q := ⟨_, rfl⟩
  rw [hq] at hy3 hpl hrl hq3
  have hqw : w.heap.size ≤ q := by rw [← hq]; exact E2.size
  simp only [hq]
  clear hx2 E1 F2 F3 E2 hq
  go_wp2_with fail
  refine (clone_calls p r cap [] h1 h2 (Nat.zero_le _) _ hx3).mono ?_
  rintro e w4 ⟨p1, r1, rfl, hp1, hr1, ha4, F4⟩
  have hsz4 := F4.size
  go_wp2_with fail
  refine (refclone_calls q q cap [] (Nat.zero_le _) _ (hy3.ext F4)).mono ?_
  rintro e w5 ⟨q1, rfl, hq1, hb5, F5⟩
  have E5 := E3.trans (F4.trans F5)
  have T5 : Two w5 p r q q cap [] p1 r1 q1 w4.heap.size [] := ⟨hx3.ext (F4.trans F5), hy3.ext (F4.trans F5), ha4.ext F5, hb5, hpl, hrl, Nat.le_refl _, by omega, by omega, by omega, by omega⟩
  have HT5 := Lib.hid T5
  clear hx3 hy3 ha4 hb5 F4 F5 T5
  go_wp2_with fail
  go_loopg [12, 13, 14] N (fun g s12 s13 i wr => ∃ (k p1 r1 q1 b1 : Nat) (M : List En), i = .int .i64 (k : Int) ∧ k ≤ N ∧ N - k ≤ g ∧ s12 = .pointer (some ⟨p1, 0, none⟩) ∧ s13 = .pointer (some ⟨q1, 0, none⟩) ∧ Hid (Two wr p r q q cap (playL cap (l.take k)) p1 r1 q1 b1 M) ∧ M.length ≤ cap ∧ Ext w wr)
  case atStart => exact ⟨0, p1, r1, q1, w4.heap.size, [], rfl, by omega, by omega, rfl, rfl, HT5, Nat.zero_le _, E5⟩
  case round =>
    clear HT5 hp1 hr1 hq1 E5 hsz4 E3 hq3
    obtain ⟨k, p1, r1, q1, b1, M, rfl, hk, hg, rfl, rfl, HT, hM, hE⟩ := hrel
    by_cases hkN : k < N
    · have hkl : k < l.length := by rw [HN.out]; exact hkN
      obtain ⟨b, o, rfl, hc⟩ := hA.ext hE (by rw [opCells_length]; omega)
      obtain ⟨k0, k1, k2⟩ := op_cell hkl hc
      have hok := HOK.out (l[k]) (List.getElem_mem _)
      have ht : l.take (k + 1) = l.take k ++ [l[k]] := by rw [List.take_add_one, List.getElem?_eq_getElem hkl]; rfl
      obtain ⟨op, hop⟩ : ∃ op, l[k] = op := ⟨_, rfl⟩
      rw [hop] at k0 k1 k2 hok ht
      obtain ⟨dr, pr, ch⟩ := op
      simp only at k0 k1 k2
      have hcs : ∀ j u, ([.bool dr, .int .u32 pr, .int .i64 ch] : List Value)[j]? = some u → wr.cell? ⟨b, o + k * 3 + j, none⟩ = some u := by
        intro j u hu
        have hj : j < 3 := (List.getElem?_eq_some_iff.1 hu).1
        rcases (show j = 0 ∨ j = 1 ∨ j = 2 by omega) with rfl | rfl | rfl
        · rw [← hu]; exact k0
        · rw [← hu]; exact k1
        · rw [← hu]; exact k2
      have HCS := Lib.hid hcs; have HTK := Lib.hid ht; have HOKO := Lib.hid hok
      have hlen := playL_cap h1 (l.take k)
      have hlen' := playL_cap h1 (l.take (k + 1))
      rw [ht] at hlen'
      obtain ⟨L, hL⟩ : ∃ L, playL cap (l.take k) = L := ⟨_, rfl⟩
      rw [playL_snoc] at hlen'
      rw [hL] at hlen hlen' HT
      have HL := Lib.hid hL
      obtain ⟨W1, hW1⟩ : ∃ W, wr.alloc (.cells #[.bool dr, .int .u32 pr, .int .i64 ch] 34) = W := ⟨_, rfl⟩
      have EW : Ext wr W1 := hW1 ▸ (Ext.refl wr).alloc _
      obtain ⟨ob, hob⟩ : ∃ n, wr.heap.size = n := ⟨_, rfl⟩
      have BW : Blk W1 ob 34 [.bool dr, .int .u32 pr, .int .i64 ch] := by rw [← hob]; exact hW1 ▸ Blk.new wr _ 34
      have hT1 := HT.out.ext EW
      have hobs : q < ob ∧ p < ob ∧ r < ob ∧ q1 < ob := by
        have := HT.out.y.lt; have := HT.out.b.lt; have := HT.out.x.1.lt; have := HT.out.x.1.2.lt; omega
      have HT1 := Lib.hid hT1
      have hE1 := hE.trans EW
      have HBW := Lib.hid BW
      clear ht hok hop hc hcs k0 k1 k2 hL hT1 BW EW HT hE
      have i1 : (0 : Int) ≤ (k : Int) := by omega
      have i2 : (k : Int) < (N : Int) := by omega
      go_upto_if 71 with (first
        | ((with_reducible show wpList _ _ _ (⟨some 67, _, _, _, _, _⟩ :: _) _ _); go_must (refine wpList_loadAgg agg_op _ rfl (.tmp 66) rfl b (o + k * 3) rfl [.bool dr, .int .u32 pr, .int .i64 ch] rfl HCS.out ?_))
        | ((with_reducible show wpList _ _ _ (⟨Option.none, .store _ _ _, _, _, _, _⟩ :: _) _ _); go_must (refine wpList_storeNew agg_op _ _ 34 rfl (.tmp 15) (.tmp 67) rfl (by first | rfl | (rw [hob]; rfl)) [.bool dr, .int .u32 pr, .int .i64 ch] rfl rfl rfl (by intro u hu; simp at hu; rcases hu with rfl | rfl | rfl <;> rfl) ?_))
        | fail)
      try simp only [hW1, hob]
      go_cut [12, 13] from 58 to 145 (fun s12 s13 wc => ∃ (p1 r1 q1 b1 : Nat) (M : List En), s12 = .pointer (some ⟨p1, 0, none⟩) ∧ s13 = .pointer (some ⟨q1, 0, none⟩) ∧ Hid (Two wc p r q q cap L p1 r1 q1 b1 M) ∧ M.length ≤ cap ∧ Hid (Blk wc ob 34 [.bool dr, .int .u32 pr, .int .i64 ch]) ∧ Ext w wc)
      case first =>
        cases hka : ((k : Int) == at_) with
        | true =>
          go_wp2_with fail
          refine (clone_calls p r cap L h1 h2 hlen W1 HT1.out.x).mono ?_
          rintro e w6 ⟨p2, r2, rfl, hp2, hr2, ha6, F6⟩
          go_wp2_with fail
          refine (refclone_calls q q cap L (by omega) w6 (HT1.out.y.ext F6)).mono ?_
          rintro e w7 ⟨q2, rfl, hq2, hb7, F7⟩
          go_wp2_with fail
          go_meet
          case rel =>
            have T := HT1.out
            have e1 := T.y.lt
            have e2 := F6.size
            exact ⟨p2, r2, q2, w6.heap.size, L, rfl, rfl, Lib.hid ⟨T.x.ext (F6.trans F7), T.y.ext (F6.trans F7), ha6.ext F7, hb7, T.op, T.or, T.oq, by omega, by omega, by omega, by omega⟩, hlen, Lib.hid ((HBW.out.below F6).below F7), hE1.trans (F6.trans F7)⟩
        | false =>
          go_wp2_with fail
          go_meet
          case rel => exact ⟨p1, r1, q1, b1, M, rfl, rfl, HT1, hM, HBW, hE1⟩
      case rest =>
        clear HT1 hM HBW hE1 hW1
        obtain ⟨p1, r1, q1, b1, M, rfl, rfl, HT, hM, HB, hE⟩ := hcut
        have k0 : wc.cell? ⟨ob, 0, none⟩ = some (.bool dr) := HB.out.cell 0
        go_upto_if 77 with fail
        obtain ⟨L2, hL2⟩ : ∃ L2, stepL cap L ⟨dr, pr, ch⟩ = L2 := ⟨_, rfl⟩
        rw [hL2] at hlen'
        have HL2 := Lib.hid hL2
        clear hL2
        go_cut [] from 58 to 145 (fun wd => Hid (Two wd p r q q cap L2 p1 r1 q1 b1 M) ∧ Hid (Blk wd ob 34 [.bool dr, .int .u32 pr, .int .i64 ch]) ∧ Ext w wd)
        case first =>
          have hwf : (Lit.int .i64 ch).wf = true := by
            have h1 : IntKind.i64.min = -9223372036854775808 := rfl
            have h2 : IntKind.i64.max = 9223372036854775807 := rfl
            have := HOKO.out.2.2
            simp only at this
            simp only [Lit.wf, Bool.and_eq_true, decide_eq_true_eq]
            omega
          have T := HT.out
          have eo1 := T.o1; have eo2 := T.o2; have eo3 := T.o3; have eo4 := T.o4
          have eob : ob ≠ p ∧ ob ≠ r ∧ ob ≠ q := by omega
          obtain ⟨ep, er, eq⟩ := eob
          clear T
          cases dr with
          | true =>
            have hd1 := fun w' (h : Ixd w' p r cap L) => drop_calls p r cap L ch w' h hwf
            have hd2 := fun w' (hz : q ≤ w'.heap.size) (h : Rix w' q q cap L) => refdrop_calls q q cap L ch (by omega) w' HT.out.x.2 hz h
            have hdl : dropL ch L = L2 := by rw [← HL2.out]; unfold stepL; rw [if_pos rfl]
            obtain ⟨D, hD⟩ : ∃ D : Bool, (lk 0 L ch).isSome = D := ⟨_, rfl⟩
            rw [hdl, hD] at hd1 hd2
            have HD1 := Lib.hid hd1; have HD2 := Lib.hid hd2
            have k2 : wc.cell? ⟨ob, 2, none⟩ = some (.int .i64 ch) := HB.out.cell 2
            clear hd1 hd2 hdl hD k0
            have hne : (D != D) = false := by cases D <;> rfl
            go_wp2_with fail
            go_region_held3 (fun w' => w'.cell? ⟨ob, 2, none⟩ = some (.int .i64 ch)) (first | go_keep | assumption)
              (first
                | (go_at_call 24; refine (HD1.out _ ?_).mono ?_; (exact HT.out.x.ext (Ext.refl _).drew); rintro e w6 ⟨rfl, hx6, hk6⟩; have c6 := cell_keep2 hk6 ep er k2)
                | (go_at_call 30; refine (HD2.out _ ?_ ?_).mono ?_; (have := HT.out.y.lt; have := hk6.size; simp at this; omega); (exact HT.out.yAt ((Keep2.refl p r wc).drew.trans hk6)); rintro e w7 ⟨rfl, hy7, hk7⟩; have c7 := cell_keep2 hk7 eq eq c6))
            have K6 := (Keep2.refl p r wc).drew.trans hk6
            have TF := HT.out.step K6 hx6 hk7 hy7
            have BF := (HB.out.keep2 K6 ep er).keep2 hk7 eq eq
            have EF := (hE.keep K6 (by omega) (by omega)).keep hk7 (by omega) (by omega)
            have HTF := Lib.hid TF; have HBF := Lib.hid BF
            clear TF BF K6 c6 c7 hx6 hy7 hk6 hk7 k2
            go_wp2_with fail
            go_meet
            case rel => exact ⟨HTF, HBF, EF⟩
          | false =>
            have k1 : wc.cell? ⟨ob, 1, none⟩ = some (.int .u32 pr) := HB.out.cell 1
            have k2 : wc.cell? ⟨ob, 2, none⟩ = some (.int .i64 ch) := HB.out.cell 2
            clear k0
            cases hoc : okC ch with
            | true =>
              have hoc' := okC_iff.1 hoc
              have hxe : OkE (pr, ch) := ⟨HOKO.out.1, HOKO.out.2.1, hoc'.1, hoc'.2⟩
              have hpl2 : (putL cap pr ch L).1 = L2 := by rw [← HL2.out]; unfold stepL; rw [if_neg (by simp), if_pos hoc]
              have hd1 := fun w' (h : Ixd w' p r cap L) => put_calls p r cap L pr ch w' h hxe
              have hd2 := fun w' (hz : q ≤ w'.heap.size) (h : Rix w' q q cap L) => refput_calls q q cap L pr ch h1 hlen (by omega) w' HT.out.x.2 hz h hxe
              obtain ⟨z, hz⟩ : ∃ z, (putL cap pr ch L).2 = z := ⟨_, rfl⟩
              rw [hpl2, hz] at hd1 hd2
              have HD1 := Lib.hid hd1; have HD2 := Lib.hid hd2
              have hne : (z != z) = false := by simp
              clear hd1 hd2 hpl2 hz hoc hoc' hxe
              go_wp2_with fail
              refine (HD1.out _ HT.out.x).mono ?_
              rintro e w6 ⟨rfl, hx6, hk6⟩
              have c1 := cell_keep2 hk6 ep er k1
              have c2 := cell_keep2 hk6 ep er k2
              have BW6 := HB.out.keep2 hk6 ep er
              have hy6 := HT.out.yAt hk6
              have hq6 : q ≤ w6.heap.size := by have := hy6.lt; omega
              clear k1 k2
              go_wp2_with fail
              refine (HD2.out _ hq6 hy6).mono ?_
              rintro e w7 ⟨rfl, hy7, hk7⟩
              have HTF := Lib.hid (HT.out.step hk6 hx6 hk7 hy7)
              have HBF := Lib.hid (BW6.keep2 hk7 eq eq)
              have EF := (hE.keep hk6 (by omega) (by omega)).keep hk7 (by omega) (by omega)
              clear hx6 hk6 hy6 hy7 hk7 c1 c2 BW6
              go_wp2_with fail
              go_meet
              case rel => exact ⟨HTF, HBF, EF⟩
            | false =>
              have hL2e : L = L2 := by rw [← HL2.out]; unfold stepL; rw [if_neg (by simp), if_neg (by rw [hoc]; simp)]
              have hd1 := fun w' (h : Ixd w' p r cap L) => put_bad p r cap L pr ch w' h hoc
              have hd2 := fun w' => refput_bad q pr ch w' hoc
              have HD1 := Lib.hid hd1; have HD2 := Lib.hid hd2; have HLE := Lib.hid hL2e
              clear hd1 hd2 hL2e hoc
              go_wp2_with fail
              refine (HD1.out _ HT.out.x).mono ?_
              rintro e _ ⟨rfl, rfl⟩
              go_wp2_with fail
              refine (HD2.out _).mono ?_
              rintro e _ ⟨rfl, rfl⟩
              go_wp2_with fail
              go_meet
              case rel => exact ⟨by rw [← HLE.out]; exact HT, HB, hE⟩
        case rest =>
          clear HT HB hE k0
          obtain ⟨HT, HB, hE⟩ := hcut
          obtain ⟨q', hq'⟩ : ∃ q', q = q' := ⟨_, rfl⟩
          have k1 : wc.cell? ⟨ob, 1, none⟩ = some (.int .u32 pr) := HB.out.cell 1
          have hf1 := fun w' (h : Ixd w' p r cap L2) => find_calls p r cap pr L2 (by omega) w' h
          have hf2 := fun w' (h : Rix w' q q cap L2) => reffind_calls q q cap pr L2 (by omega) w' h
          have hfl := findL_len pr L2
          obtain ⟨fl, hfle⟩ : ∃ f, findL pr L2 = f := ⟨_, rfl⟩
          rw [hfle] at hfl
          simp only [hfle] at hf1 hf2
          obtain ⟨nf, hnf⟩ : ∃ n, fl.length = n := ⟨_, rfl⟩
          rw [hnf] at hfl
          have HF1 := Lib.hid hf1; have HF2 := Lib.hid hf2; have HNF := Lib.hid hnf
          obtain ⟨n2, hn2⟩ : ∃ n, L2.length = n := ⟨_, rfl⟩
          rw [hn2] at hlen' hfl
          have HN2 := Lib.hid hn2
          have hnn : ((n2 : Int) != (n2 : Int)) = false := by simp
          have hcc : ((cap : Int) != (cap : Int)) = false := by simp
          clear hf1 hf2 hfle hnf hn2 hq' hlen
          go_wp2_with fail
          go_region_held3 (fun w' => w'.cell? ⟨ob, 1, none⟩ = some (.int .u32 pr)) (first | go_keep | assumption)
            (first
              | (go_at_call 21; refine (HF1.out _ ?_).mono ?_; (exact HT.out.x.ext (Ext.refl _).drew); rintro e w6 ⟨v6, rfl, ho6, F6⟩; obtain ⟨A6, c6, rfl, hc6, hm6, hr6⟩ := ho6.slice; rw [HNF.out] at hc6; simp only [HNF.out]; have q6 := cell_ext F6 k1)
              | (go_at_call 32; refine (HF2.out _ ?_).mono ?_; (exact HT.out.y.ext ((Ext.refl _).drew.trans F6)); rintro e w7 ⟨v7, rfl, ho7, F7⟩; obtain ⟨A7, c7, rfl, hc7, hm7, hr7⟩ := ho7.slice; rw [HNF.out] at hc7; simp only [HNF.out]; have q7 := cell_ext F7 q6)
              | (go_at_call 22; refine (sameints_calls _ _ nf nf _ _ fl fl _ (hr6.ext F7) hr7 HNF.out HNF.out (by omega) (by omega) true (by simp)).mono ?_; rintro e w8 ⟨rfl, D8⟩; have q8 := cell_ext ((Ext.refl _).drawn D8) q7))
          have E8 : Ext wc w8 := (((Ext.refl wc).drew.trans (Ext.of F6)).trans F7).drawn D8
          have HT8 := Lib.hid (HT.out.ext E8)
          have EE8 := hE.trans E8
          clear HT hE E8 F6 F7 D8 hr6 hr7 ho6 ho7 q6 q7 q8 k1 hc6 hm6 hc7 hm7 HF1 HF2
          go_wp2_with fail
          refine (all_calls p r cap L2 (by rw [HN2.out]; omega) _ HT8.out.x).mono ?_
          rintro e w9 ⟨v9, rfl, ho9, F9⟩
          obtain ⟨A9, c9, rfl, hc9, hm9, hr9⟩ := OwnE.slice ho9
          rw [HN2.out] at hc9
          simp only [HN2.out]
          go_wp2_with fail
          refine (refall_calls q q cap L2 (by rw [HN2.out]; omega) _ (HT8.out.y.ext F9)).mono ?_
          rintro e w10 ⟨v10, rfl, ho10, F10⟩
          obtain ⟨A10, c10, rfl, hc10, hm10, hr10⟩ := OwnE.slice ho10
          rw [HN2.out] at hc10
          simp only [HN2.out]
          have hr9' := hr9.ext F10
          go_wp2_with fail
          refine (sameen_calls _ _ n2 n2 _ _ L2 L2 _ hr9' hr10 HN2.out HN2.out (by omega) (by omega) true (by simp)).mono ?_
          rintro e w11 ⟨rfl, D11⟩
          have E11 : Ext w8 w11 := (Ext.trans F9 F10).drawn D11
          have HT11 := Lib.hid (HT8.out.ext E11)
          have EE11 := EE8.trans E11
          clear E11 EE8 HT8 F9 F10 D11 hr9 hr9' hr10 ho9 ho10 hc9 hm9 hc10 hm10
          go_wp2_with fail
          refine (len_calls p r cap L2 _ HT11.out.x).mono ?_
          rintro e _ ⟨rfl, rfl⟩
          go_wp2_with fail
          refine (reflen_calls q q cap L2 _ HT11.out.y).mono ?_
          rintro e _ ⟨rfl, rfl⟩
          rw [HN2.out]
          go_wp2_with fail
          refine (cap_calls p r cap L2 _ HT11.out.x).mono ?_
          rintro e _ ⟨rfl, rfl⟩
          go_wp2_with fail
          refine (refcap_calls q q cap L2 _ HT11.out.y).mono ?_
          rintro e _ ⟨rfl, rfl⟩
          go_wp2_with fail
          go_roundg (N - (k + 1))
          case measure => omega
          case rel => exact ⟨k + 1, p1, r1, q1, b1, M, by go_num, by omega, by omega, rfl, rfl, by rw [HTK.out, playL_snoc, HL.out, HL2.out]; exact HT11, hM, EE11⟩
    · have T := HT.out
      obtain ⟨n2, hn2⟩ : ∃ n, M.length = n := ⟨_, rfl⟩
      rw [hn2] at hM
      have HN2 := Lib.hid hn2
      have hcc : ((cap : Int) == (cap : Int)) = true := by simp
      clear hn2 HT
      have HT := Lib.hid T
      clear T
      go_wp2_with fail
      refine (all_calls p1 r1 cap M (by rw [HN2.out]; omega) _ HT.out.a).mono ?_
      rintro e w9 ⟨v9, rfl, ho9, F9⟩
      obtain ⟨A9, c9, rfl, hc9, hm9, hr9⟩ := OwnE.slice ho9
      rw [HN2.out] at hc9
      simp only [HN2.out]
      go_wp2_with fail
      refine (refall_calls b1 q1 cap M (by rw [HN2.out]; omega) _ (HT.out.b.ext F9)).mono ?_
      rintro e w10 ⟨v10, rfl, ho10, F10⟩
      obtain ⟨A10, c10, rfl, hc10, hm10, hr10⟩ := OwnE.slice ho10
      rw [HN2.out] at hc10
      simp only [HN2.out]
      have hr9' := hr9.ext F10
      go_wp2_with fail
      refine (sameen_calls _ _ n2 n2 _ _ M M _ hr9' hr10 HN2.out HN2.out (by omega) (by omega) true (by simp)).mono ?_
      rintro e w11 ⟨rfl, D11⟩
      have E11 : Ext wr w11 := (Ext.trans (Ext.of F9) F10).drawn D11
      have HT11 := Lib.hid (HT.out.ext E11)
      have EE11 := hE.trans E11
      clear E11 HT F9 F10 D11 hr9 hr9' hr10 ho9 ho10 hc9 hm9 hc10 hm10
      go_wp2_with fail
      refine (cap_calls p1 r1 cap M _ HT11.out.a).mono ?_
      rintro e _ ⟨rfl, rfl⟩
      go_wp2_with fail
      refine (refcap_calls b1 q1 cap M _ HT11.out.b).mono ?_
      rintro e _ ⟨rfl, rfl⟩
      go_wp2
      go_ret
      exact ⟨rfl, EE11⟩

theorem plays_law (cap : Int) (A : Option Addr) (N c : Nat) (l : List Op3) (at_ : Int) (w : World) (hA : Rd w A (opCells l)) (hN : l.length = N) (hNb : N ≤ 100000000000000) (hok : ∀ o ∈ l, OkO o) (ha0 : 0 ≤ at_) (ha1 : at_ ≤ 255) :
    Calls Try.prog 6 #[.int .i64 cap, .slice A N c, .int .u8 at_] w (RetT w) := by
  by_cases h80 : N ≤ 80
  · by_cases hb : cap < 1 ∨ cap > 4096
    · exact plays_bad cap A N c at_ w h80 hb
    · obtain ⟨m, rfl⟩ : ∃ m : Nat, cap = (m : Int) := ⟨cap.toNat, by omega⟩
      exact plays_good m A N c l at_ w (by omega) (by omega) hA hN h80 hok ha0 ha1
  · exact plays_long cap A N c at_ w (by omega) hNb

end Go.Proofs.Ytcjeclddpkinkaa
