/- IndexDecodeMatchesSpec: the walk. -/
import Derived.Test.YtcjeclddpkinkaaK13
import Derived.Deep.DrawnRows
set_option linter.unusedSimpArgs false
set_option linter.unusedVariables false
namespace Go.Proofs.Ytcjeclddpkinkaa
open Go.RowKit Go.ChangeMaps Ix

/-- string(b), nil too -/
theorem run_strB {w : World} {A : Option Addr} {n c : Nat} {l : List UInt8} (hr : Rd w A (u8s l)) (hn : l.length = n) : (convert 57 9 (.slice A n c)).run Try.prog w = .ok (.string (str l)) w := by
  rcases Nat.eq_zero_or_pos n with h0 | h0
  · subst h0
    have hl : l = [] := List.eq_nil_of_length_eq_zero hn
    subst hl
    cases A with
    | none => exact run_convert_bytes_nil w 57 5 Try.underlying57 Try.underlying5 _ _ _ Try.underlying9
    | some a =>
      have := run_convert_bytes_string (P := Try.prog) w 57 9 5 (some a) 0 c Try.underlying57 Try.underlying5 Try.underlying9
      show (convert 57 9 (.slice (some a) 0 c)).run Try.prog w = _
      rw [this]
      simp [Conv.bytesToString, loadCells, loadCellsFrom, str, Result.andThen]
      rfl
  · exact run_str8 hr hn h0

theorem exec_conv {w : World} {a : Act} {o : Oper} {x : Operand} {A : Option Addr} {n c : Nat} {l : List UInt8} (ho : o.op = .convert 57 9 x) (hx : a.eval x = .slice A n c) (hr : Rd w A (u8s l)) (hn : l.length = n) : (execOp a.eval o).run Try.prog w = .ok (.value (.string (str l))) w := by
  unfold execOp
  rw [ho]
  simp only [Sem.run_bind, Sem.run_pure, hx, run_strB hr hn, Result.andThen]

section
variable {P : Program} {ops : Array Oper} {Q : Exit → Act → World → Prop} {md : Region.Mode}
/-- one operation that may come up alone, its guard met -/
theorem wpAnyH_oneG {i : Nat} {o : Oper} {fuel : Nat} {listed : Array Bool} {a : Act} {w : World} {S : World → Prop} (hr : Region.ready md ops listed = [i]) (ho : ops[i]? = some o) (hg : Region.wanted o (yielded ops a.tmps) = true)
    (h : o.wp P a w (fun a' w' => S w' ∧ wpAnyH P md ops Q S fuel (listed.setIfInBounds i true) a' w') Q) : wpAnyH P md ops Q S (fuel + 1) listed a w := by
  refine wpAnyH_all hr (by simp) ?_
  intro j hj
  rw [List.mem_singleton] at hj
  subst hj
  unfold wpOp
  rw [ho]
  simp only
  rw [if_pos hg]
  exact .inl h
end

set_option maxRecDepth 100000 in
set_option maxHeartbeats 4000000 in
theorem decspec_law (A : Option Addr) (N c : Nat) (l : List UInt8) (w : World) (hr : Rd w A (u8s l)) (hN : l.length = N) (hc : N ≤ c) (hm : c ≤ maxLen) :
    Calls Try.prog 16 #[.slice A N c] w (RetT w) := by
  by_cases h400 : N ≤ 400
  · have g : decide ((N : Int) > 400) = false := by rw [decide_eq_false_iff_not]; omega
    obtain ⟨er, cap, FL, hd⟩ : ∃ er cap FL, decIx l = (er, cap, FL) := ⟨_, _, _, rfl⟩
    have D1 := Lib.hid fun w (h : Rd w A (u8s l)) => decode_calls A N c l w h hN hc hm (by omega) hd
    have D2 := Lib.hid fun w (h : Rd w A (u8s l)) => refdecode_calls A N c l w h hN hc hm (by omega) hd
    have HR := Lib.hid hr; have HN := Lib.hid hN
    by_cases her : er = 0
    · subst her
      obtain ⟨cm, rfl, hc1, hc2, hL, hW, hE⟩ := decIx_ok hd
      have HE := Lib.hid hE; have HW := Lib.hid hW
      clear hd hr hN hE hW
      go_enter Try.func16, Try.ntmps16
      go_wp2_with fail
      refine (sanity23_calls _).mono ?_
      rintro e w1 ⟨rfl, E1⟩
      go_wp2_with fail
      refine (D1.out _ (HR.out.ext E1)).mono ?_
      rintro e w2 ⟨F2, (⟨h, _⟩ | ⟨_, p, r, rfl, hp, hr2, hx2⟩)⟩
      · exact absurd rfl h
      rw [Int.toNat_natCast] at hx2
      have E2 := E1.trans F2
      go_wp2_with fail
      refine (D2.out _ (HR.out.ext E2)).mono ?_
      rintro e w3 ⟨F3, (⟨h, _⟩ | ⟨_, q, rfl, hq, hy3⟩)⟩
      · exact absurd rfl h
      rw [Int.toNat_natCast] at hy3
      have E3 := E2.trans F3
      have hx3 := hx2.ext F3
      obtain ⟨n, hn⟩ : ∃ n, FL.length = n := ⟨_, rfl⟩
      rw [hn] at hL
      have HFL := Lib.hid hn
      have C1 := Lib.hid fun w' (h : Ext w3 w') => cap_calls p r cm FL w' (hx3.ext h)
      have C2 := Lib.hid fun w' (h : Ext w3 w') => refcap_calls w2.heap.size q cm FL w' (hy3.ext h)
      have C3 := Lib.hid fun w' (h : Ext w3 w') => all_calls p r cm FL (by omega) w' (hx3.ext h)
      have C4 := Lib.hid fun w' (h : Ext w3 w') => refall_calls w2.heap.size q cm FL (by omega) w' (hy3.ext h)
      have C5 := Lib.hid fun w' (h : Ext w3 w') => encode_calls p r cm FL (by omega) (by omega) w' (hx3.ext h)
      have HRB := Lib.hid fun w' (h : Ext w3 w') => HR.out.ext (E3.trans h)
      rw [HE.out] at C5
      clear hn E1 F2 E2 F3 hx2 hx3 hy3 D1 D2
      go_wp2_with fail
      refine wp_region_held (S := fun w' => Ext w3 w') (by kernel_rfl) ?_
      have S0 : Ext w3 w3.drew := (Ext.refl w3).drew
      refine wpAnyH_take (i := 0) (v := .pointer (some ⟨p, 0, none⟩)) rfl (by kernel_rfl) (by kernel_rfl) (by kernel_rfl) (fun _ _ _ h => h) (Or.inl ⟨by rfl, fun w' h' => by go_simp⟩) S0 ?_
      simp only [Act.put, List.getElem_toArray, List.getElem_cons_succ, List.getElem_cons_zero, List.setIfInBounds_toArray, List.set_cons_succ, List.set_cons_zero]
      refine wpAnyH_take (i := 2) (v := .pointer (some ⟨q, 0, none⟩)) rfl (by kernel_rfl) (by kernel_rfl) (by kernel_rfl) (fun _ _ _ h => h) (Or.inl ⟨by rfl, fun w' h' => by go_simp⟩) S0 ?_
      simp only [Act.put, List.getElem_toArray, List.getElem_cons_succ, List.getElem_cons_zero, List.setIfInBounds_toArray, List.set_cons_succ, List.set_cons_zero]
      refine wpAnyH_one (i := 1) (by kernel_rfl) rfl rfl ?_
      simp only [Go.wp_at_succ, Go.wp_at_zero]
      refine op_call (f := 36) (args := #[.pointer (some ⟨p, 0, none⟩)]) (by go_simp) ?_
      refine (C1.out _ S0).mono ?_
      rintro e _ ⟨rfl, rfl⟩
      refine ⟨_, rfl, S0, ?_⟩
      simp only [Act.put, List.getElem_toArray, List.getElem_cons_succ, List.getElem_cons_zero, List.setIfInBounds_toArray, List.set_cons_succ, List.set_cons_zero]
      refine wpAnyH_one (i := 3) (by kernel_rfl) rfl rfl ?_
      simp only [Go.wp_at_succ, Go.wp_at_zero]
      refine op_call (f := 37) (args := #[.pointer (some ⟨q, 0, none⟩)]) (by go_simp) ?_
      refine (C2.out _ S0).mono ?_
      rintro e _ ⟨rfl, rfl⟩
      refine ⟨_, rfl, S0, ?_⟩
      simp only [Act.put, List.getElem_toArray, List.getElem_cons_succ, List.getElem_cons_zero, List.setIfInBounds_toArray, List.set_cons_succ, List.set_cons_zero]
      refine wpAnyH_take (i := 4) (v := .bool true) rfl (by kernel_rfl) (by kernel_rfl) (by kernel_rfl) (fun _ _ _ h => h) (Or.inl ⟨by rfl, fun w' h' => by go_simp⟩) S0 ?_
      simp only [Act.put, List.getElem_toArray, List.getElem_cons_succ, List.getElem_cons_zero, List.setIfInBounds_toArray, List.set_cons_succ, List.set_cons_zero]
      refine wpAnyH_take (i := 5) (v := .bool true) rfl (by kernel_rfl) (by kernel_rfl) (by kernel_rfl) (fun _ _ _ h => h) (Or.inl ⟨by rfl, fun w' h' => by go_simp⟩) S0 ?_
      simp only [Act.put, List.getElem_toArray, List.getElem_cons_succ, List.getElem_cons_zero, List.setIfInBounds_toArray, List.set_cons_succ, List.set_cons_zero]
      refine wpAnyH_take (i := 6) (v := .pointer (some ⟨p, 0, none⟩)) rfl (by kernel_rfl) (by kernel_rfl) (by kernel_rfl) (fun _ _ _ h => h) (Or.inl ⟨by rfl, fun w' h' => by go_simp⟩) S0 ?_
      simp only [Act.put, List.getElem_toArray, List.getElem_cons_succ, List.getElem_cons_zero, List.setIfInBounds_toArray, List.set_cons_succ, List.set_cons_zero]
      refine wpAnyH_take (i := 8) (v := .pointer (some ⟨q, 0, none⟩)) rfl (by kernel_rfl) (by kernel_rfl) (by kernel_rfl) (fun _ _ _ h => h) (Or.inl ⟨by rfl, fun w' h' => by go_simp⟩) S0 ?_
      simp only [Act.put, List.getElem_toArray, List.getElem_cons_succ, List.getElem_cons_zero, List.setIfInBounds_toArray, List.set_cons_succ, List.set_cons_zero]
      refine wpAnyH_oneG (i := 7) (by kernel_rfl) rfl (by rfl) ?_
      simp only [Go.wp_at_succ, Go.wp_at_zero]
      refine op_call (f := 19) (args := #[.pointer (some ⟨p, 0, none⟩)]) (by go_simp) ?_
      refine (C3.out _ S0).mono ?_
      rintro e w4 ⟨v4, rfl, ho4, F4⟩
      have S4 : Ext w3 w4 := S0.trans F4
      obtain ⟨A4, c4, rfl, hc4, hm4, hr4⟩ := OwnE.slice ho4
      rw [HFL.out] at hc4
      simp only [HFL.out]
      refine ⟨_, rfl, S4, ?_⟩
      simp only [Act.put, List.getElem_toArray, List.getElem_cons_succ, List.getElem_cons_zero, List.setIfInBounds_toArray, List.set_cons_succ, List.set_cons_zero]
      refine wpAnyH_oneG (i := 9) (by kernel_rfl) rfl (by rfl) ?_
      simp only [Go.wp_at_succ, Go.wp_at_zero]
      refine op_call (f := 33) (args := #[.pointer (some ⟨q, 0, none⟩)]) (by go_simp) ?_
      refine (C4.out _ S4).mono ?_
      rintro e w5 ⟨v5, rfl, ho5, F5⟩
      have S5 : Ext w3 w5 := S4.trans F5
      obtain ⟨A5, c5, rfl, hc5, hm5, hr5⟩ := OwnE.slice ho5
      rw [HFL.out] at hc5
      simp only [HFL.out]
      have hr4' := hr4.ext F5
      refine ⟨_, rfl, S5, ?_⟩
      simp only [Act.put, List.getElem_toArray, List.getElem_cons_succ, List.getElem_cons_zero, List.setIfInBounds_toArray, List.set_cons_succ, List.set_cons_zero]
      refine wpAnyH_oneG (i := 10) (by kernel_rfl) rfl (by rfl) ?_
      simp only [Go.wp_at_succ, Go.wp_at_zero]
      refine op_call (f := 20) (args := #[.slice A4 n c4, .slice A5 n c5]) (by go_simp) ?_
      refine (sameen_calls A4 A5 n n c4 c5 FL FL w5 hr4' hr5 HFL.out HFL.out (by omega) (by omega) true (by simp)).mono ?_
      rintro e w6 ⟨rfl, D6⟩
      have S6 : Ext w3 w6 := S5.drawn D6
      refine ⟨_, rfl, S6, ?_⟩
      simp only [Act.put, List.getElem_toArray, List.getElem_cons_succ, List.getElem_cons_zero, List.setIfInBounds_toArray, List.set_cons_succ, List.set_cons_zero]
      refine wpAnyH_take (i := 11) (v := .bool true) rfl (by kernel_rfl) (by kernel_rfl) (by kernel_rfl) (fun _ _ _ h => h) (Or.inl ⟨by rfl, fun w' h' => by go_simp⟩) S6 ?_
      simp only [Act.put, List.getElem_toArray, List.getElem_cons_succ, List.getElem_cons_zero, List.setIfInBounds_toArray, List.set_cons_succ, List.set_cons_zero]
      refine wpAnyH_take (i := 12) (v := .bool true) rfl (by kernel_rfl) (by kernel_rfl) (by kernel_rfl) (fun _ _ _ h => h) (Or.inl ⟨by rfl, fun w' h' => by go_simp⟩) S6 ?_
      simp only [Act.put, List.getElem_toArray, List.getElem_cons_succ, List.getElem_cons_zero, List.setIfInBounds_toArray, List.set_cons_succ, List.set_cons_zero]
      refine wpAnyH_take (i := 13) (v := .pointer (some ⟨p, 0, none⟩)) rfl (by kernel_rfl) (by kernel_rfl) (by kernel_rfl) (fun _ _ _ h => h) (Or.inl ⟨by rfl, fun w' h' => by go_simp⟩) S6 ?_
      simp only [Act.put, List.getElem_toArray, List.getElem_cons_succ, List.getElem_cons_zero, List.setIfInBounds_toArray, List.set_cons_succ, List.set_cons_zero]
      refine wpAnyH_take (i := 16) (v := .slice A N c) rfl (by kernel_rfl) (by kernel_rfl) (by kernel_rfl) (fun _ _ _ h => h) (Or.inl ⟨by rfl, fun w' h' => by go_simp⟩) S6 ?_
      simp only [Act.put, List.getElem_toArray, List.getElem_cons_succ, List.getElem_cons_zero, List.setIfInBounds_toArray, List.set_cons_succ, List.set_cons_zero]
      refine wpAnyH_take (i := 17) (v := .string (str l)) rfl (by kernel_rfl) (by kernel_rfl) (by kernel_rfl) (fun _ _ _ h => h) (Or.inl ⟨by rfl, fun w' h' => exec_conv rfl (by rfl) (HRB.out _ h') HN.out⟩) S6 ?_
      simp only [Act.put, List.getElem_toArray, List.getElem_cons_succ, List.getElem_cons_zero, List.setIfInBounds_toArray, List.set_cons_succ, List.set_cons_zero]
      refine wpAnyH_oneG (i := 14) (by kernel_rfl) rfl (by rfl) ?_
      simp only [Go.wp_at_succ, Go.wp_at_zero]
      refine op_call (f := 58) (args := #[.pointer (some ⟨p, 0, none⟩)]) (by go_simp) ?_
      refine (C5.out _ S6).mono ?_
      rintro e w7 ⟨v7, rfl, ho7, F7⟩
      have S7 : Ext w3 w7 := S6.trans F7
      obtain ⟨A7, c7, rfl, hc7, hm7, hr7⟩ := ho7.slice
      rw [HN.out] at hc7
      simp only [HN.out]
      refine ⟨_, rfl, S7, ?_⟩
      simp only [Act.put, List.getElem_toArray, List.getElem_cons_succ, List.getElem_cons_zero, List.setIfInBounds_toArray, List.set_cons_succ, List.set_cons_zero]
      refine wpAnyH_oneG (i := 15) (by kernel_rfl) rfl (by rfl) ?_
      simp only [Go.wp_at_succ, Go.wp_at_zero]
      refine op_value (v := .string (str l)) (w' := w7) (exec_conv rfl (by rfl) hr7 HN.out) ?_
      refine ⟨S7, ?_⟩
      simp only [Act.put, List.getElem_toArray, List.getElem_cons_succ, List.getElem_cons_zero, List.setIfInBounds_toArray, List.set_cons_succ, List.set_cons_zero]
      refine wpAnyH_take (i := 18) (v := .bool true) rfl (by kernel_rfl) (by kernel_rfl) (by kernel_rfl) (fun _ _ _ h => h) (Or.inl ⟨by rfl, fun w' h' => by go_simp⟩) S7 ?_
      simp only [Act.put, List.getElem_toArray, List.getElem_cons_succ, List.getElem_cons_zero, List.setIfInBounds_toArray, List.set_cons_succ, List.set_cons_zero]
      refine wpAnyH_take (i := 19) (v := .bool true) rfl (by kernel_rfl) (by kernel_rfl) (by kernel_rfl) (fun _ _ _ h => h) (Or.inl ⟨by rfl, fun w' h' => by go_simp⟩) S7 ?_
      simp only [Act.put, List.getElem_toArray, List.getElem_cons_succ, List.getElem_cons_zero, List.setIfInBounds_toArray, List.set_cons_succ, List.set_cons_zero]
      refine wpAnyH_take (i := 20) (v := .bool true) rfl (by kernel_rfl) (by kernel_rfl) (by kernel_rfl) (fun _ _ _ h => h) (Or.inl ⟨by rfl, fun w' h' => by go_simp⟩) S7 ?_
      simp only [Act.put, List.getElem_toArray, List.getElem_cons_succ, List.getElem_cons_zero, List.setIfInBounds_toArray, List.set_cons_succ, List.set_cons_zero]
      refine wpAnyH_done (by kernel_rfl) ?_ _
      go_wp2
      go_ret
      exact ⟨rfl, E3.trans S7⟩
    · have hne : ((er : Int) != 0) = true := by rw [bne_iff_ne]; omega
      have heq : ((er : Int) != (er : Int)) = false := by simp
      have HER := Lib.hid her
      clear hd hr hN her
      go_enter Try.func16, Try.ntmps16
      go_wp2_with fail
      refine (sanity23_calls _).mono ?_
      rintro e w1 ⟨rfl, E1⟩
      go_wp2_with fail
      refine (D1.out _ (HR.out.ext E1)).mono ?_
      rintro e w2 ⟨F2, (⟨_, rfl⟩ | ⟨h, _⟩)⟩
      case inr => exact absurd h HER.out
      have E2 := E1.trans F2
      go_wp2_with fail
      refine (D2.out _ (HR.out.ext E2)).mono ?_
      rintro e w3 ⟨F3, (⟨_, rfl⟩ | ⟨h, _⟩)⟩
      case inr => exact absurd h HER.out
      have E3 := E2.trans F3
      go_wp2
      go_ret
      exact ⟨rfl, E3⟩
  · have g : decide ((N : Int) > 400) = true := by rw [decide_eq_true_iff]; omega
    go_enter Try.func16, Try.ntmps16
    go_wp2_with fail
    refine (sanity23_calls _).mono ?_
    rintro e w1 ⟨rfl, E1⟩
    go_wp2
    go_ret
    exact ⟨rfl, E1⟩

end Go.Proofs.Ytcjeclddpkinkaa
