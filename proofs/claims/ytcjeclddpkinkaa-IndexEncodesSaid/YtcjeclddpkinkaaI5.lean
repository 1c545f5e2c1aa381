/- The contract of Put. -/
import Derived.Test.YtcjeclddpkinkaaI4
import Derived.Test.YtcjeclddpkinkaaL9
set_option linter.unusedSimpArgs false
set_option linter.unusedVariables false
namespace Go.Proofs.Ytcjeclddpkinkaa
open Go.RowKit Go.ChangeMaps Ix

theorem putL_wf {cap : Nat} {p c : Int} {L : List En} (h : Wf L) (hx : OkE (p, c)) : Wf (putL cap p c L).1 := by
  unfold putL
  by_cases hc : (dropL c L).length = L.length ∧ L.length = cap
  · rw [if_pos hc]
    have e : dropL c L = L := (List.filter_sublist).eq_of_length hc.1
    refine (h.sub (List.dropLast_sublist _)).cons hx fun y hy => ?_
    exact dropL_no L c y (by rw [e]; exact (List.dropLast_sublist _).subset hy)
  · rw [if_neg hc]
    exact (dropL_wf h c).cons hx (dropL_no L c)

theorem dropL_last {L : List En} (h : Wf L) : dropL (lstOf 0 L) L = L.dropLast := by
  rcases List.eq_nil_or_concat L with rfl | ⟨A, x, rfl⟩
  · rfl
  · have e : lstOf 0 (A ++ [x]) = x.2 := by rw [lstOf_append]; rfl
    rw [List.concat_eq_append] at h ⊢
    rw [e, dropL_at A x [] h, List.append_nil, List.dropLast_concat]

/-- the three steps that put an entry ahead -/
theorem put_made {w' : World} {q r cap n' : Nat} {L : List En} {p c : Int} (hw : Wf L) (hx : OkE (p, c)) (hc : ∀ y ∈ L, y.2 ≠ c) {f0 f1 f' : Int → Option Lk} {F1 L1 : Int}
    (h0 : f0 = updF (lk 0 L) c (some (p, 0, 0))) (h1 : f1 = joinF f0 c (fstOf L)) (hL1 : L1 = if (joinA f0 c (fstOf L) (fstOf L)).isSome then lstOf 0 L else c)
    (h : IxR w' q r cap (if (f1 0).isSome then F1 else c) (if (joinA f1 0 c c).isSome then L1 else 0) f' n') (hf : f' = joinF f1 0 c) (hn : n' = L.length + 1) : Ixd w' q r cap ((p, c) :: L) := by
  have hc1 : 1 ≤ c := hx.2.2.1
  have h00 : ∀ y ∈ L, y.2 ≠ 0 := fun y hy => by have := (hw.ok y hy).2.2.1; omega
  refine ⟨?_, hw.cons hx hc⟩
  have e0 : f1 0 = none := by
    rw [h1, joinF_eq]
    simp only [h0]
    rw [updF_other _ _ (show (0 : Int) ≠ c by omega), lk_none h00]
    rfl
  have ec : (f1 c).isSome = true := by
    rw [h1, joinF_eq]
    simp only [h0]
    rw [updF_same]
    rfl
  rw [e0, joinA_some, ec] at h
  have e2 : L1 = lstOf 0 ((p, c) :: L) := by
    rw [hL1, joinA_some, h0]
    cases L with
    | nil =>
      have : ¬ (updF (lk 0 []) c (some (p, 0, 0)) (fstOf [])).isSome = true := by
        rw [updF_other _ _ (show fstOf [] ≠ c by show (0 : Int) ≠ c; omega)]
        exact Bool.false_ne_true
      rw [if_neg this]
      rfl
    | cons y t =>
      have : (updF (lk 0 (y :: t)) c (some (p, 0, 0)) (fstOf (y :: t))).isSome = true := by
        rw [updF_other _ _ (show fstOf (y :: t) ≠ c from hc y (by simp)), lk_isSome]
        exact ⟨y, by simp, rfl⟩
      rw [if_pos this]
      rfl
  have e3 : f' = lk 0 ((p, c) :: L) := by rw [hf, h1, h0]; exact lk_put p c L hw hc hc1
  rw [e3, hn, if_neg (by simp), if_pos rfl, e2] at h
  exact h

theorem wpQuiet_K {P : Program} {ops : Array Oper} {C : World → Prop} {Q : Act → Prop} {l : List Oper} {a : Act} (h : ∀ K : Act → Prop, (∀ a, wpQuiet P ops C Q l a → K a) → K a) : wpQuiet P ops C Q l a := h _ fun _ h => h
theorem wpAny_lits {P : Program} {lits : List Oper} {Q : Exit → Act → World → Prop} {k fuel : Nat} {listed : Array Bool} {a : Act} {w : World} (C : World → Prop) (hs : Region.noSelect lits.toArray = true) (hB : Region.lexFrom .any lits.toArray fuel k listed = true) (hf : fuel = (lits.drop k).length) (hC : C w)
    (h : wpQuiet P lits.toArray C (fun a' => ∀ w', C w' → Q .normal a' w') (lits.drop k) a) : wpAny P .any lits.toArray Q fuel listed a w := by
  subst hf
  exact wpAny_of_quiet (Q := fun a' => ∀ w', C w' → Q .normal a' w') (fun _ w' hw' h => h w' hw') _ _ _ _ hC (wpAnyQ_lex hs (lits.drop k) k listed a (fun j => by simp [List.getElem?_drop]) hB h)
theorem wpAny_then_quiet {P : Program} {ops : Array Oper} {Q : Exit → Act → World → Prop} {l : List Oper} {k : Nat} {listed : Array Bool} {a : Act} {w : World} (C : World → Prop) (hs : Region.noSelect ops = true) (hB : Region.lexFrom .any ops l.length k listed = true) (hl : ∀ j, l[j]? = ops[k + j]?) (hC : C w)
    (h : wpQuiet P ops C (fun a' => ∀ w', C w' → Q .normal a' w') l a) : wpAny P .any ops Q l.length listed a w :=
  wpAny_of_quiet (Q := fun a' => ∀ w', C w' → Q .normal a' w') (fun _ w' hw' h => h w' hw') _ _ _ _ hC (wpAnyQ_lex hs l k listed a hl hB h)

set_option maxRecDepth 100000 in
set_option maxHeartbeats 1000000 in
theorem put_bad (q r cap : Nat) (L : List En) (p c : Int) (w : World) (h : Ixd w q r cap L) (hc : okC c = false) :
    Calls Try.prog 25 #[.pointer (some ⟨q, 0, none⟩), .int .u32 p, .int .i64 c] w fun e w' => e = .returned (.tuple #[.int .i64 0, .int .i64 1]) ∧ w = w' := by
  by_cases h1 : c < 1
  · have g1 : decide (c < 1) = true := decide_eq_true h1
    clear h hc
    go_enter Try.func25, Try.ntmps25
    go_wp2
    go_ret2
    exact ⟨rfl, rfl⟩
  · have g1 : decide (c < 1) = false := decide_eq_false h1
    have g2 : decide (c > 65536) = true := by
      unfold okC at hc
      simp only [Bool.and_eq_false_iff, decide_eq_false_iff_not] at hc
      rw [decide_eq_true_iff]; omega
    clear h hc
    go_enter Try.func25, Try.ntmps25
    go_wp2
    go_ret2
    exact ⟨rfl, rfl⟩

set_option maxRecDepth 100000 in
set_option maxHeartbeats 1000000 in
theorem put_calls (q r cap : Nat) (L : List En) (p c : Int) (w : World) (h : Ixd w q r cap L) (hx : OkE (p, c)) :
    Calls Try.prog 25 #[.pointer (some ⟨q, 0, none⟩), .int .u32 p, .int .i64 c] w fun e w' => e = .returned (.tuple #[.int .i64 (putL cap p c L).2, .int .i64 0]) ∧ Ixd w' q r cap (putL cap p c L).1 ∧ Keep2 q r w w' := by
  have g1 : decide (c < 1) = false := by rw [decide_eq_false_iff_not]; have := hx.2.2.1; omega
  have g2 : decide (c > 65536) = false := by rw [decide_eq_false_iff_not]; have := hx.2.2.2; omega
  have hin : In c := ⟨by have := hx.2.2.1; omega, hx.2.2.2⟩
  have HX := Lib.hid h; have HOK := Lib.hid hx
  clear h hx
  have hcw : (Lit.int .i64 c).wf = true := hin.wf
  obtain ⟨L1, hL1⟩ : ∃ L1, dropL c L = L1 := ⟨_, rfl⟩
  obtain ⟨D, hD⟩ : ∃ D : Bool, (lk 0 L c).isSome = D := ⟨_, rfl⟩
  have hdr := drop_calls q r cap L c w.drew (HX.out.ext (Ext.refl w).drew) hcw
  rw [hL1, hD] at hdr
  have HDR := Lib.hid hdr
  have HL1 := Lib.hid hL1; have HD := Lib.hid hD
  clear hL1 hD hdr
  go_enter Try.func25, Try.ntmps25
  go_wp2_with fail
  go_cut [28] (fun s28 wc => s28 = .bool (!D && ((L1.length : Int) == (cap : Int))) ∧ Ixd wc q r cap L1 ∧ Keep2 q r w wc)
  case first =>
    refine wp_region_any (by kernel_rfl) ?_
    refine wpAny_take (i := 0) (v := .pointer (some ⟨q, 0, none⟩)) rfl (by kernel_rfl) (by kernel_rfl) (by kernel_rfl) (fun _ _ _ h => h) (Or.inl ⟨by rfl, fun w => Go.BigFrame.run_move (.tmp 0) rfl w⟩) ?_
    refine wpAny_take (i := 1) (v := .int .i64 c) rfl (by kernel_rfl) (by kernel_rfl) (by kernel_rfl) (fun _ _ _ h => h) (Or.inl ⟨by rfl, fun w => Go.BigFrame.run_move (.tmp 2) rfl w⟩) ?_
    refine wpAny_all (rs := [2]) (by kernel_rfl) (by simp) ?_
    intro i hi
    rw [List.mem_singleton] at hi
    subst hi
    refine wpOp_call rfl rfl (f := 24) (args := #[.pointer (some ⟨q, 0, none⟩), .int .i64 c]) ?_ ?_
    · go_simp
    refine HDR.out.mono ?_
    rintro e w1 ⟨rfl, hx1, hk1⟩
    have hkk := (Keep2.refl q r w).drew.trans hk1
    refine ⟨_, rfl, ?_⟩
    obtain ⟨c0, c1, c2, c3⟩ := hx1.1.cell
    have HX1 := Lib.hid hx1; have HKK := Lib.hid hkk
    clear hx1 hkk hk1 HDR
    refine wpAny_lits (k := 3) (fun w' => w' = w1) (by kernel_rfl) (by kernel_rfl) (by rfl) rfl ?_
    refine wpQuiet_K fun K hK => ?_
    simp only [List.drop_succ_cons, List.drop_zero] at hK
    cases D with
    | true =>
      go_simp
      go_big_quiet_on
      repeat (first | go_big_quiet_skip | (go_big_quiet_want; go_big_quiet_op; go_big_quiet_on) | (go_big_quiet_want; go_big_quiet_op; refine ⟨_, fun _ _ => rfl, ?_⟩; go_big_quiet_on))
      refine wpQuiet_nil ?_
      rintro _ rfl
      go_wp2_with fail
      go_meet
      exact ⟨rfl, HX1.out, HKK.out⟩
    | false =>
      go_simp
      go_big_quiet_on
      repeat (first | go_big_quiet_skip | (go_big_quiet_want; go_big_quiet_op; go_big_quiet_on) | (go_big_quiet_want; go_big_quiet_op; refine ⟨_, fun _ h => (by rw [h]), ?_⟩; go_big_quiet_on))
      go_big_quiet_want
      refine quiet_call (f := 34) (args := #[.pointer (some ⟨q, 0, none⟩)]) (v := .int .i64 (L1.length : Int)) ?h1 ?h2 ?_
      case h1 => (intro w3 hw; go_simp)
      case h2 => (intro w3 hw; subst hw; exact (len_calls q r cap L1 w3 HX1.out).mono fun e w2 h => ⟨h.1, h.2.symm⟩)
      go_simp
      go_big_quiet_on
      repeat (first | go_big_quiet_skip | (go_big_quiet_want; go_big_quiet_op; go_big_quiet_on) | (go_big_quiet_want; go_big_quiet_op; refine ⟨_, fun _ h => (by rw [h]), ?_⟩; go_big_quiet_on))
      refine wpQuiet_nil ?_
      rintro _ rfl
      go_wp2_with fail
      go_meet
      exact ⟨rfl, HX1.out, HKK.out⟩
  case rest =>
    obtain ⟨rfl, hx1, hk1⟩ := hcut
    by_cases hB : D = false ∧ L1.length = cap
    · obtain ⟨rfl, hlen⟩ := hB
      have hg0 : (!false && ((L1.length : Int) == (cap : Int))) = true := by
        show ((L1.length : Int) == (cap : Int)) = true
        rw [beq_iff_eq]; omega
      obtain ⟨s28, hs28⟩ : ∃ s, (!false && ((L1.length : Int) == (cap : Int))) = s := ⟨_, rfl⟩
      rw [hs28] at hg0
      simp only [hs28]
      subst hg0
      clear hs28
      have hL : L1 = L := by
        rw [← HL1.out]
        refine dropL_none fun y hy e => ?_
        have := (lk_isSome (L := L) (c := c) 0).2 ⟨y, hy, e⟩
        rw [HD.out] at this
        cases this
      have HL := Lib.hid hL; have HLEN := Lib.hid hlen
      clear hL hlen
      obtain ⟨c0, c1, c2, c3⟩ := hx1.1.cell
      have hlw := (in_lst (A := L1) fun y hy => hx1.2.ok y hy).wf
      go_wp2_with fail
      refine (drop_calls q r cap L1 (lstOf 0 L1) wc hx1 hlw).mono ?_
      rintro e w2 ⟨rfl, hx2, hk12⟩
      have hk2 := hk1.trans hk12
      rw [dropL_last hx1.2] at hx2
      have HNO : Hid (∀ y ∈ L1.dropLast, y.2 ≠ c) := Lib.hid fun y hy => dropL_no L c y (by rw [HL1.out]; exact (List.dropLast_sublist _).subset hy)
      obtain ⟨L2, hL2⟩ : ∃ L2, L1.dropLast = L2 := ⟨_, rfl⟩
      rw [hL2] at hx2 HNO
      have HL2 := Lib.hid hL2
      clear hL2 hx1 hk1 hk12 c0 c1 c2 c3 hlw
      obtain ⟨c0, c1, c2, c3⟩ := hx2.1.cell
      have hM2 := hx2.1.2
      have hfin2 := in_fst (A := L2) fun y hy => hx2.2.ok y hy
      have HX2 := Lib.hid hx2; have HK2 := Lib.hid hk2
      clear hx2 hk2
      go_wp2_with (first
        | ((with_reducible show wpList _ _ _ (⟨Option.none, _, _, _, _, _⟩ :: _) _ _); go_must (refine wpList_upd rfl (.tmp 43) (.tmp 44) (.tmp 46) rfl hM2 hcw rfl rfl (l := (p, 0, 0)) rfl ?_); intro w3 hM3 hg3 hs3)
        | fail)
      have hx3 := HX2.out.1.turned hg3 hM3
      have hk3 := HK2.out.grown hg3
      have hcn : lk 0 L2 c = none := lk_none HNO.out 0
      rw [hcn, if_neg (by simp)] at hx3
      clear c0 c1 c2 c3 hM2 hM3 hg3 hs3 hcn
      obtain ⟨f0, hf0⟩ : ∃ f, updF (lk 0 L2) c (some (p, 0, 0)) = f := ⟨_, rfl⟩
      rw [hf0] at hx3
      have HF0 := Lib.hid hf0
      clear hf0
      refine (join_calls q r (L2.length + 1) cap (fstOf L2) (lstOf 0 L2) c (fstOf L2) f0 w3 hx3 hin hfin2).mono ?_
      rintro e w4 ⟨⟨v4, rfl⟩, hx4, hk4⟩
      have hk04 := hk3.trans hk4
      obtain ⟨f1, hf1⟩ : ∃ f, joinF f0 c (fstOf L2) = f := ⟨_, rfl⟩
      obtain ⟨F1, hF1⟩ : ∃ f, (if (f0 c).isSome then fstOf L2 else fstOf L2) = f := ⟨_, rfl⟩
      obtain ⟨E1, hE1⟩ : ∃ f, (if (joinA f0 c (fstOf L2) (fstOf L2)).isSome then lstOf 0 L2 else c) = f := ⟨_, rfl⟩
      rw [hf1, hF1, hE1] at hx4
      have HF1 := Lib.hid hf1; have HE1 := Lib.hid hE1
      clear hf1 hF1 hE1 hx3 hk3 hk4
      go_wp2_with fail
      refine (join_calls q r (L2.length + 1) cap F1 E1 0 c f1 w4 hx4 ⟨by omega, by omega⟩ hin).mono ?_
      rintro e w5 ⟨⟨v5, rfl⟩, hx5, hk5⟩
      have hk05 := hk04.trans hk5
      have hfin := put_made HX2.out.2 HOK.out HNO.out HF0.out.symm HF1.out.symm HE1.out.symm hx5 rfl rfl
      clear hx5 hk5 hx4 hk04
      go_wp2
      go_ret2
      have hp : putL cap p c L = ((p, c) :: L2, lstOf 0 L1) := by
        have e1 : (dropL c L).length = L.length ∧ L.length = cap := ⟨by rw [HL1.out, HL.out], by rw [← HL.out]; exact HLEN.out⟩
        unfold putL
        rw [if_pos e1, ← HL2.out, HL.out]
      rw [hp]
      exact ⟨rfl, hfin, hk05⟩
    · have hg0 : (!D && ((L1.length : Int) == (cap : Int))) = false := by
        cases D with
        | true => rfl
        | false =>
          show ((L1.length : Int) == (cap : Int)) = false
          rw [beq_eq_false_iff_ne]
          intro e
          exact hB ⟨rfl, by omega⟩
      have HB := Lib.hid hB
      clear hB
      obtain ⟨s28, hs28⟩ : ∃ s, (!D && ((L1.length : Int) == (cap : Int))) = s := ⟨_, rfl⟩
      rw [hs28] at hg0
      simp only [hs28]
      subst hg0
      clear hs28
      obtain ⟨L2, hL2⟩ : ∃ L2, L1 = L2 := ⟨_, rfl⟩
      subst hL2
      have HNO : Hid (∀ y ∈ L1, y.2 ≠ c) := Lib.hid fun y hy => dropL_no L c y (by rw [HL1.out]; exact hy)
      have hx2 := hx1; have hk2 := hk1
      clear hx1 hk1
      obtain ⟨c0, c1, c2, c3⟩ := hx2.1.cell
      have hM2 := hx2.1.2
      have hfin2 := in_fst (A := L1) fun y hy => hx2.2.ok y hy
      have HX2 := Lib.hid hx2; have HK2 := Lib.hid hk2
      clear hx2 hk2
      go_wp2_with (first
        | ((with_reducible show wpList _ _ _ (⟨Option.none, _, _, _, _, _⟩ :: _) _ _); go_must (refine wpList_upd rfl (.tmp 43) (.tmp 44) (.tmp 46) rfl hM2 hcw rfl rfl (l := (p, 0, 0)) rfl ?_); intro w3 hM3 hg3 hs3)
        | fail)
      have hx3 := HX2.out.1.turned hg3 hM3
      have hk3 := HK2.out.grown hg3
      have hcn : lk 0 L1 c = none := lk_none HNO.out 0
      rw [hcn, if_neg (by simp)] at hx3
      clear c0 c1 c2 c3 hM2 hM3 hg3 hs3 hcn
      obtain ⟨f0, hf0⟩ : ∃ f, updF (lk 0 L1) c (some (p, 0, 0)) = f := ⟨_, rfl⟩
      rw [hf0] at hx3
      have HF0 := Lib.hid hf0
      clear hf0
      refine (join_calls q r (L1.length + 1) cap (fstOf L1) (lstOf 0 L1) c (fstOf L1) f0 w3 hx3 hin hfin2).mono ?_
      rintro e w4 ⟨⟨v4, rfl⟩, hx4, hk4⟩
      have hk04 := hk3.trans hk4
      obtain ⟨f1, hf1⟩ : ∃ f, joinF f0 c (fstOf L1) = f := ⟨_, rfl⟩
      obtain ⟨F1, hF1⟩ : ∃ f, (if (f0 c).isSome then fstOf L1 else fstOf L1) = f := ⟨_, rfl⟩
      obtain ⟨E1, hE1⟩ : ∃ f, (if (joinA f0 c (fstOf L1) (fstOf L1)).isSome then lstOf 0 L1 else c) = f := ⟨_, rfl⟩
      rw [hf1, hF1, hE1] at hx4
      have HF1 := Lib.hid hf1; have HE1 := Lib.hid hE1
      clear hf1 hF1 hE1 hx3 hk3 hk4
      go_wp2_with fail
      refine (join_calls q r (L1.length + 1) cap F1 E1 0 c f1 w4 hx4 ⟨by omega, by omega⟩ hin).mono ?_
      rintro e w5 ⟨⟨v5, rfl⟩, hx5, hk5⟩
      have hk05 := hk04.trans hk5
      have hfin := put_made HX2.out.2 HOK.out HNO.out HF0.out.symm HF1.out.symm HE1.out.symm hx5 rfl rfl
      clear hx5 hk5 hx4 hk04
      go_wp2
      go_ret2
      have hp : putL cap p c L = ((p, c) :: L1, 0) := by
        unfold putL
        rw [HL1.out, if_neg]
        rintro ⟨e1, e2⟩
        refine HB.out ⟨?_, by rw [e1]; exact e2⟩
        have e : dropL c L = L := (List.filter_sublist).eq_of_length (by show (dropL c L).length = L.length; rw [HL1.out]; exact e1)
        cases hD : D with
        | false => rfl
        | true =>
          exfalso
          have h2 := HD.out
          rw [hD] at h2
          obtain ⟨y, hy, hyc⟩ := (lk_isSome 0).1 h2
          exact dropL_no L c y (by rw [e]; exact hy) hyc
      rw [hp]
      exact ⟨rfl, hfin, hk05⟩

end Go.Proofs.Ytcjeclddpkinkaa
