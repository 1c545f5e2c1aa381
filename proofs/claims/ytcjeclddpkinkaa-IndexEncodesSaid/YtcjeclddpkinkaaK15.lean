/- IndexEncodes: the walk. -/
import Derived.Test.YtcjeclddpkinkaaK14
import Derived.Test.YtcjeclddpkinkaaJ2
set_option linter.unusedSimpArgs false
set_option linter.unusedVariables false
namespace Go.Proofs.Ytcjeclddpkinkaa
open Go.RowKit Go.ChangeMaps Ix

set_option maxRecDepth 100000 in
set_option maxHeartbeats 2000000 in
theorem encodes_bad (cap : Int) (A : Option Addr) (N c : Nat) (w : World) (hb : (cap < 1 ∨ cap > 4096) ∨ N > 80) (hNb : N ≤ 100000000000000) :
    Calls Try.prog 15 #[.int .i64 cap, .slice A N c] w (RetT w) := by
  have C1 := Lib.hid fun w => play_bad cap A N c w hb (by omega)
  clear hb
  go_enter Try.func15, Try.ntmps15
  go_wp2_with fail
  refine (sanity23_calls _).mono ?_
  rintro e w1 ⟨rfl, E1⟩
  go_wp2_with fail
  refine (C1.out _).mono ?_
  rintro e w2 ⟨rfl, F2⟩
  go_wp2
  go_ret
  exact ⟨rfl, E1.trans F2⟩

set_option maxRecDepth 100000 in
set_option maxHeartbeats 4000000 in
theorem encodes_good (cap : Nat) (A : Option Addr) (N c : Nat) (l : List Op3) (w : World) (h1 : 1 ≤ cap) (h2 : cap ≤ 4096) (hA : Rd w A (opCells l)) (hN : l.length = N) (h80 : N ≤ 80) (hok : ∀ o ∈ l, OkO o) :
    Calls Try.prog 15 #[.int .i64 (cap : Int), .slice A N c] w (RetT w) := by
  have C1 := Lib.hid fun w (h : Rd w A (opCells l)) => play_calls cap A N c l w h1 h2 h hN h80 hok
  have hlen := playL_len cap l
  have hcap := play_cap h1 l
  have hW := playL_wf cap hok
  rw [hN] at hlen
  obtain ⟨L, hL⟩ : ∃ L, playL cap l = L := ⟨_, rfl⟩
  rw [hL] at hlen hcap hW
  have hd := decIx_enc h1 h2 hcap hW
  have hel : (encIx cap L).length ≤ 100000 := by
    unfold encIx
    have a1 := Wz.enc_length (cap : Int) (by omega) (by omega)
    have a2 := Wz.enc_length (L.length : Int) (by omega) (by omega)
    have a3 := encEs_len hW.ok
    simp only [List.length_append]
    omega
  have HL := Lib.hid hL; have HD := Lib.hid hd; have HW := Lib.hid hW
  obtain ⟨B, hB⟩ : ∃ B, encIx cap L = B := ⟨_, rfl⟩
  obtain ⟨nB, hnB⟩ : ∃ n, B.length = n := ⟨_, rfl⟩
  obtain ⟨n, hn⟩ : ∃ n, L.length = n := ⟨_, rfl⟩
  rw [hB] at HD hel
  rw [hnB] at hel
  rw [hn] at hlen hcap
  have HB := Lib.hid hB; have HNB := Lib.hid hnB; have HNL := Lib.hid hn
  clear hok hN hL hd hW hB hnB hn
  go_enter Try.func15, Try.ntmps15
  go_wp2_with fail
  refine (sanity23_calls _).mono ?_
  rintro e w1 ⟨rfl, E1⟩
  go_wp2_with fail
  refine (C1.out _ (hA.ext E1)).mono ?_
  rintro e w2 ⟨p, r, rfl, hp, hr, hx2, F2⟩
  rw [HL.out] at hx2
  have E2 := E1.trans F2
  go_wp2_with fail
  refine (all_calls p r cap L (by rw [HNL.out]; omega) _ hx2).mono ?_
  rintro e w3 ⟨v3, rfl, ho3, F3⟩
  have E3 := E2.trans F3
  have hx3 := hx2.ext F3
  obtain ⟨A3, c3, rfl, hc3, hm3, hr3⟩ := OwnE.slice ho3
  rw [HNL.out] at hc3
  simp only [HNL.out]
  obtain ⟨W4, hW4⟩ : ∃ W, w3.alloc (.cells #[.int .i64 cap, .slice A3 n c3] 80) = W := ⟨_, rfl⟩
  obtain ⟨q, hq⟩ : ∃ q, w3.heap.size = q := ⟨_, rfl⟩
  have F4 : Ext w3 W4 := hW4 ▸ (Ext.refl w3).alloc _
  have b4 : Blk W4 q 80 [.int .i64 cap, .slice A3 n c3] := by rw [← hq]; exact hW4 ▸ Blk.new w3 [.int .i64 cap, .slice A3 n c3] 80
  have y4 : Rix W4 0 q cap L := by
    refine ⟨A3, c3, by rw [HNL.out]; exact b4, by rw [HNL.out]; exact hc3, hm3, hr3.ext F4, fun b o e => ⟨Nat.zero_le _, ?_⟩⟩
    subst e
    rcases ho3.2 with ⟨h1, _⟩ | ⟨g, cap', cur, h1, _, h3, _⟩
    · simp at h1
    · have := (Array.getElem?_eq_some_iff.1 h3).1
      simp only [Value.slice.injEq, Option.some.injEq, Addr.mk.injEq] at h1
      omega
  have E4 := E3.trans F4
  have hx4 := hx3.ext F4
  have hr4 := hr3.ext F4
  have HY4 := Lib.hid y4; have HX4 := Lib.hid hx4; have HR4 := Lib.hid hr4; have HB4 := Lib.hid b4
  clear E1 F2 E2 hx2 F3 E3 hx3 ho3 hr3 b4 y4 hx4 hr4 C1 F4
  go_wp2_with fail
  try simp only [hW4, hq]
  clear hW4 hq
  refine (encode_calls p r cap L (by omega) (by rw [HNL.out]; omega) W4 HX4.out).mono ?_
  rintro e w5 ⟨v5, rfl, ho5, F5'⟩
  have F5 : Ext W4 w5 := F5'
  obtain ⟨A5, c5, rfl, hc5, hm5, hr5⟩ := ho5.slice
  rw [HB.out, HNB.out] at hc5
  rw [HB.out] at hr5
  simp only [HB.out, HNB.out]
  have HR5 := Lib.hid hr5
  clear F5' ho5 hr5
  go_wp2_with fail
  refine (decode_calls A5 nB c5 B w5 HR5.out HNB.out hc5 hm5 (by omega) HD.out).mono ?_
  rintro e w6 ⟨F6, (⟨h, _⟩ | ⟨_, p6, r6, rfl, hp6, hr6, hz6⟩)⟩
  · exact absurd rfl h
  rw [Int.toNat_natCast] at hz6
  have F56 := F5.trans F6
  have E6 := E4.trans F56
  have hy6 := HY4.out.ext F56
  have C2 := Lib.hid fun w' (h : Ext w6 w') => refencode_calls 0 q cap L (by omega) (by rw [HNL.out]; omega) HW.out w' (hy6.ext h)
  have C3 := Lib.hid fun w' (h : Ext w6 w') => cap_calls p6 r6 cap L w' (hz6.ext h)
  have C4 := Lib.hid fun w' (h : Ext w6 w') => all_calls p6 r6 cap L (by rw [HNL.out]; omega) w' (hz6.ext h)
  have HRB := Lib.hid fun w' (h : Ext w6 w') => HR5.out.ext (F6.trans h)
  have HRE := Lib.hid fun w' (h : Ext w6 w') => HR4.out.ext (F56.trans h)
  have HCL := Lib.hid fun w' (h : Ext w6 w') => ((HB4.out.below F56).below h).cell 1
  rw [HB.out] at C2
  clear F5 F6 F56 hy6 hz6 E4
  go_wp2_with fail
  refine wp_region_held (S := fun w' => Ext w6 w') (by kernel_rfl) ?_
  have S0 : Ext w6 w6.drew := (Ext.refl w6).drew
  refine wpAnyH_take (i := 0) (v := .slice A5 nB c5) rfl (by kernel_rfl) (by kernel_rfl) (by kernel_rfl) (fun _ _ _ h => h) (Or.inl ⟨by rfl, fun w' h' => by go_simp⟩) S0 ?_
  simp only [Act.put, List.getElem_toArray, List.getElem_cons_succ, List.getElem_cons_zero, List.setIfInBounds_toArray, List.set_cons_succ, List.set_cons_zero]
  refine wpAnyH_take (i := 1) (v := .string (str B)) rfl (by kernel_rfl) (by kernel_rfl) (by kernel_rfl) (fun _ _ _ h => h) (Or.inl ⟨by rfl, fun w' h' => exec_conv rfl (by rfl) (HRB.out _ h') HNB.out⟩) S0 ?_
  simp only [Act.put, List.getElem_toArray, List.getElem_cons_succ, List.getElem_cons_zero, List.setIfInBounds_toArray, List.set_cons_succ, List.set_cons_zero]
  refine wpAnyH_take (i := 2) (v := .pointer (some ⟨q, 0, none⟩)) rfl (by kernel_rfl) (by kernel_rfl) (by kernel_rfl) (fun _ _ _ h => h) (Or.inl ⟨by rfl, fun w' h' => by go_simp⟩) S0 ?_
  simp only [Act.put, List.getElem_toArray, List.getElem_cons_succ, List.getElem_cons_zero, List.setIfInBounds_toArray, List.set_cons_succ, List.set_cons_zero]
  refine wpAnyH_one (i := 3) (by kernel_rfl) rfl rfl ?_
  simp only [Go.wp_at_succ, Go.wp_at_zero]
  refine op_call (f := 60) (args := #[.pointer (some ⟨q, 0, none⟩)]) (by go_simp) ?_
  refine (C2.out _ S0).mono ?_
  rintro e w7 ⟨v7, rfl, ho7, F7⟩
  have S7 : Ext w6 w7 := S0.trans F7
  obtain ⟨A7, c7, rfl, hc7, hm7, hr7⟩ := ho7.slice
  rw [HNB.out] at hc7
  simp only [HNB.out]
  refine ⟨_, rfl, S7, ?_⟩
  simp only [Act.put, List.getElem_toArray, List.getElem_cons_succ, List.getElem_cons_zero, List.setIfInBounds_toArray, List.set_cons_succ, List.set_cons_zero]
  refine wpAnyH_one (i := 4) (by kernel_rfl) rfl rfl ?_
  simp only [Go.wp_at_succ, Go.wp_at_zero]
  refine op_value (v := .string (str B)) (w' := w7) (exec_conv rfl (by rfl) hr7 HNB.out) ?_
  refine ⟨S7, ?_⟩
  simp only [Act.put, List.getElem_toArray, List.getElem_cons_succ, List.getElem_cons_zero, List.setIfInBounds_toArray, List.set_cons_succ, List.set_cons_zero]
  refine wpAnyH_take (i := 5) (v := .bool true) rfl (by kernel_rfl) (by kernel_rfl) (by kernel_rfl) (fun _ _ _ h => h) (Or.inl ⟨by rfl, fun w' h' => by go_simp⟩) S7 ?_
  simp only [Act.put, List.getElem_toArray, List.getElem_cons_succ, List.getElem_cons_zero, List.setIfInBounds_toArray, List.set_cons_succ, List.set_cons_zero]
  refine wpAnyH_take (i := 6) (v := .bool true) rfl (by kernel_rfl) (by kernel_rfl) (by kernel_rfl) (fun _ _ _ h => h) (Or.inl ⟨by rfl, fun w' h' => by go_simp⟩) S7 ?_
  simp only [Act.put, List.getElem_toArray, List.getElem_cons_succ, List.getElem_cons_zero, List.setIfInBounds_toArray, List.set_cons_succ, List.set_cons_zero]
  refine wpAnyH_take (i := 7) (v := .pointer (some ⟨p6, 0, none⟩)) rfl (by kernel_rfl) (by kernel_rfl) (by kernel_rfl) (fun _ _ _ h => h) (Or.inl ⟨by rfl, fun w' h' => by go_simp⟩) S7 ?_
  simp only [Act.put, List.getElem_toArray, List.getElem_cons_succ, List.getElem_cons_zero, List.setIfInBounds_toArray, List.set_cons_succ, List.set_cons_zero]
  refine wpAnyH_take (i := 9) (v := .int .i64 cap) rfl (by kernel_rfl) (by kernel_rfl) (by kernel_rfl) (fun _ _ _ h => h) (Or.inl ⟨by rfl, fun w' h' => by go_simp⟩) S7 ?_
  simp only [Act.put, List.getElem_toArray, List.getElem_cons_succ, List.getElem_cons_zero, List.setIfInBounds_toArray, List.set_cons_succ, List.set_cons_zero]
  refine wpAnyH_oneG (i := 8) (by kernel_rfl) rfl (by rfl) ?_
  simp only [Go.wp_at_succ, Go.wp_at_zero]
  refine op_call (f := 36) (args := #[.pointer (some ⟨p6, 0, none⟩)]) (by go_simp) ?_
  refine (C3.out _ S7).mono ?_
  rintro e _ ⟨rfl, rfl⟩
  refine ⟨_, rfl, S7, ?_⟩
  simp only [Act.put, List.getElem_toArray, List.getElem_cons_succ, List.getElem_cons_zero, List.setIfInBounds_toArray, List.set_cons_succ, List.set_cons_zero]
  refine wpAnyH_take (i := 10) (v := .bool true) rfl (by kernel_rfl) (by kernel_rfl) (by kernel_rfl) (fun _ _ _ h => h) (Or.inl ⟨by rfl, fun w' h' => by go_simp⟩) S7 ?_
  simp only [Act.put, List.getElem_toArray, List.getElem_cons_succ, List.getElem_cons_zero, List.setIfInBounds_toArray, List.set_cons_succ, List.set_cons_zero]
  refine wpAnyH_take (i := 11) (v := .bool true) rfl (by kernel_rfl) (by kernel_rfl) (by kernel_rfl) (fun _ _ _ h => h) (Or.inl ⟨by rfl, fun w' h' => by go_simp⟩) S7 ?_
  simp only [Act.put, List.getElem_toArray, List.getElem_cons_succ, List.getElem_cons_zero, List.setIfInBounds_toArray, List.set_cons_succ, List.set_cons_zero]
  refine wpAnyH_take (i := 12) (v := .bool true) rfl (by kernel_rfl) (by kernel_rfl) (by kernel_rfl) (fun _ _ _ h => h) (Or.inl ⟨by rfl, fun w' h' => by go_simp⟩) S7 ?_
  simp only [Act.put, List.getElem_toArray, List.getElem_cons_succ, List.getElem_cons_zero, List.setIfInBounds_toArray, List.set_cons_succ, List.set_cons_zero]
  refine wpAnyH_take (i := 13) (v := .pointer (some ⟨p6, 0, none⟩)) rfl (by kernel_rfl) (by kernel_rfl) (by kernel_rfl) (fun _ _ _ h => h) (Or.inl ⟨by rfl, fun w' h' => by go_simp⟩) S7 ?_
  simp only [Act.put, List.getElem_toArray, List.getElem_cons_succ, List.getElem_cons_zero, List.setIfInBounds_toArray, List.set_cons_succ, List.set_cons_zero]
  refine wpAnyH_take (i := 15) (v := .pointer (some ⟨q, 0, none⟩)) rfl (by kernel_rfl) (by kernel_rfl) (by kernel_rfl) (fun _ _ _ h => h) (Or.inl ⟨by rfl, fun w' h' => by go_simp⟩) S7 ?_
  simp only [Act.put, List.getElem_toArray, List.getElem_cons_succ, List.getElem_cons_zero, List.setIfInBounds_toArray, List.set_cons_succ, List.set_cons_zero]
  refine wpAnyH_take (i := 16) (v := .pointer (some ⟨q, 0, none⟩)) rfl (by kernel_rfl) (by kernel_rfl) (by kernel_rfl) (fun _ _ _ h => h) (Or.inl ⟨by rfl, fun w' h' => by go_simp⟩) S7 ?_
  simp only [Act.put, List.getElem_toArray, List.getElem_cons_succ, List.getElem_cons_zero, List.setIfInBounds_toArray, List.set_cons_succ, List.set_cons_zero]
  refine wpAnyH_take (i := 17) (v := .pointer (some ⟨q, 1, none⟩)) rfl (by kernel_rfl) (by kernel_rfl) (by kernel_rfl) (fun _ _ _ h => h) (Or.inl ⟨by rfl, fun w' h' => by go_simp⟩) S7 ?_
  simp only [Act.put, List.getElem_toArray, List.getElem_cons_succ, List.getElem_cons_zero, List.setIfInBounds_toArray, List.set_cons_succ, List.set_cons_zero]
  refine wpAnyH_take (i := 18) (v := .slice A3 n c3) rfl (by kernel_rfl) (by kernel_rfl) (by kernel_rfl) (fun _ _ _ h => h) (Or.inl ⟨by rfl, fun w' h' => (by have hcl := HCL.out _ h'; go_simp)⟩) S7 ?_
  simp only [Act.put, List.getElem_toArray, List.getElem_cons_succ, List.getElem_cons_zero, List.setIfInBounds_toArray, List.set_cons_succ, List.set_cons_zero]
  refine wpAnyH_oneG (i := 14) (by kernel_rfl) rfl (by rfl) ?_
  simp only [Go.wp_at_succ, Go.wp_at_zero]
  refine op_call (f := 19) (args := #[.pointer (some ⟨p6, 0, none⟩)]) (by go_simp) ?_
  refine (C4.out _ S7).mono ?_
  rintro e w8 ⟨v8, rfl, ho8, F8⟩
  have S8 : Ext w6 w8 := S7.trans F8
  obtain ⟨A8, c8, rfl, hc8, hm8, hr8⟩ := OwnE.slice ho8
  rw [HNL.out] at hc8
  simp only [HNL.out]
  refine ⟨_, rfl, S8, ?_⟩
  simp only [Act.put, List.getElem_toArray, List.getElem_cons_succ, List.getElem_cons_zero, List.setIfInBounds_toArray, List.set_cons_succ, List.set_cons_zero]
  refine wpAnyH_oneG (i := 19) (by kernel_rfl) rfl (by rfl) ?_
  simp only [Go.wp_at_succ, Go.wp_at_zero]
  refine op_call (f := 20) (args := #[.slice A8 n c8, .slice A3 n c3]) (by go_simp) ?_
  refine (sameen_calls A8 A3 n n c8 c3 L L w8 hr8 (HRE.out _ S8) HNL.out HNL.out (by omega) (by omega) true (by simp)).mono ?_
  rintro e w9 ⟨rfl, D9⟩
  have S9 : Ext w6 w9 := S8.drawn D9
  refine ⟨_, rfl, S9, ?_⟩
  simp only [Act.put, List.getElem_toArray, List.getElem_cons_succ, List.getElem_cons_zero, List.setIfInBounds_toArray, List.set_cons_succ, List.set_cons_zero]
  refine wpAnyH_take (i := 20) (v := .bool true) rfl (by kernel_rfl) (by kernel_rfl) (by kernel_rfl) (fun _ _ _ h => h) (Or.inl ⟨by rfl, fun w' h' => by go_simp⟩) S9 ?_
  simp only [Act.put, List.getElem_toArray, List.getElem_cons_succ, List.getElem_cons_zero, List.setIfInBounds_toArray, List.set_cons_succ, List.set_cons_zero]
  refine wpAnyH_take (i := 21) (v := .bool true) rfl (by kernel_rfl) (by kernel_rfl) (by kernel_rfl) (fun _ _ _ h => h) (Or.inl ⟨by rfl, fun w' h' => by go_simp⟩) S9 ?_
  simp only [Act.put, List.getElem_toArray, List.getElem_cons_succ, List.getElem_cons_zero, List.setIfInBounds_toArray, List.set_cons_succ, List.set_cons_zero]
  refine wpAnyH_done (by kernel_rfl) ?_ _
  go_wp2
  go_ret
  exact ⟨rfl, E6.trans S9⟩

theorem encodes_law (cap : Int) (A : Option Addr) (N c : Nat) (l : List Op3) (w : World) (hA : Rd w A (opCells l)) (hN : l.length = N) (hNb : N ≤ 100000000000000) (hok : ∀ o ∈ l, OkO o) :
    Calls Try.prog 15 #[.int .i64 cap, .slice A N c] w (RetT w) := by
  by_cases hb : (cap < 1 ∨ cap > 4096) ∨ N > 80
  · exact encodes_bad cap A N c w hb hNb
  · obtain ⟨m, rfl⟩ : ∃ m : Nat, cap = (m : Int) := ⟨cap.toNat, by omega⟩
    exact encodes_good m A N c l w (by omega) (by omega) hA hN (by omega) hok

end Go.Proofs.Ytcjeclddpkinkaa
