/- The sanity check of the wire laws. -/
import Derived.Test.YtcjeclddpkinkaaB3
set_option linter.unusedSimpArgs false
set_option linter.unusedVariables false
namespace Go.Proofs.Ytcjeclddpkinkaa
open Go.RowKit

def Wz.dg0 : Wz.Dg := ⟨[1, 2, 0, 0, 0, 0, 0, 0, 0, 0, 0, 0, 0, 0, 0, 0], rfl⟩

theorem enc_1 : Wz.enc 1 = [129, 1] := by simp [Wz.enc, Wz.klen, Wz.be]
theorem enc_2 : Wz.enc 2 = [129, 2] := by simp [Wz.enc, Wz.klen, Wz.be]
theorem enc_m1 : Wz.enc (-1) = [127] := by simp [Wz.enc, Wz.klen, Wz.be, Wz.flip]
theorem enc_m257 : Wz.enc (-257) = [125, 254, 255] := by simp [Wz.enc, Wz.klen, Wz.be, Wz.flip]
theorem encB_ab : Wz.encB [97, 98] = [129, 2, 97, 98] := by show Wz.enc 2 ++ _ = _; rw [enc_2]; rfl
theorem encL_ab : Wz.encL [1, -1] = [129, 2, 129, 1, 127] := by show Wz.enc 2 ++ (Wz.enc 1 ++ (Wz.enc (-1) ++ [])) = _; rw [enc_2, enc_1, enc_m1]; rfl
theorem encD_0 : Wz.encD [Wz.dg0] = [129, 1, 1, 2, 0, 0, 0, 0, 0, 0, 0, 0, 0, 0, 0, 0, 0, 0] := by show Wz.enc 1 ++ _ = _; rw [enc_1]; rfl

theorem str_ab : str [97, 98] = ⟨#[97, 98]⟩ := rfl

set_option maxRecDepth 100000 in
set_option maxHeartbeats 400000 in
theorem sanity_calls (w : World) : Calls Try.prog 38 #[] w (RetT w) := by
  go_enter Try.func38, Try.ntmps38
  go_wp2_with fail
  refine (getint_calls _ 4 4 [130, 1, 0, 9] _ (Rd.new w (u8s [130, 1, 0, 9]) 5) (by decide) (by decide) (by simp [maxLen]) rfl (n := 256) (u := 3) (er := 0) rfl).mono ?_
  rintro e w1 ⟨rfl, hw⟩
  have E1 : Ext w w1 := hw ▸ (Ext.refl w).alloc _
  clear hw
  go_wp2_with fail
  refine (getint_calls _ 2 2 [130, 1] _ (Rd.new w1 (u8s [130, 1]) 5) (by decide) (by decide) (by simp [maxLen]) rfl (n := 0) (u := 0) (er := 5) rfl).mono ?_
  rintro e w2 ⟨rfl, hw⟩
  have E2 : Ext w w2 := hw ▸ E1.alloc _
  clear hw E1
  go_wp2_with fail
  refine (getint_calls _ 2 2 [129, 0] _ (Rd.new w2 (u8s [129, 0]) 5) (by decide) (by decide) (by simp [maxLen]) rfl (n := 0) (u := 0) (er := 6) rfl).mono ?_
  rintro e w3 ⟨rfl, hw⟩
  have E3 : Ext w w3 := hw ▸ E2.alloc _
  clear hw E2
  go_wp2_with fail
  refine (getbytes_calls _ 5 5 [129, 2, 97, 98, 7] _ (Rd.new w3 (u8s [129, 2, 97, 98, 7]) 5) (by decide) (by decide) (by simp [maxLen]) rfl (s := [97, 98]) (u := 4) (er := 0) rfl).mono ?_
  rintro e w4 ⟨rfl, hw⟩
  rw [str_ab]
  have E4 : Ext w w4 := (E3.alloc _).trans hw
  clear hw E3
  go_wp2_with fail
  refine (getints_calls _ 5 5 [129, 2, 129, 1, 127] _ (Rd.new w4 (u8s [129, 2, 129, 1, 127]) 5) (by decide) (by decide) (by simp [maxLen]) rfl (s := [1, -1]) (u := 5) (er := 0) rfl).mono ?_
  rintro e w5 ⟨v5, rfl, hown5, hw⟩
  have E5 : Ext w w5 := (E4.alloc _).trans hw
  obtain ⟨A5, c5, rfl, hc5, hm5, hr5⟩ := hown5.slice
  clear hw E4
  obtain ⟨i1, hi', hz0', hz1', hz2'⟩ := info_parts info_dg
  obtain ⟨D0, hD0⟩ : ∃ D0, u8s Wz.dg0.1 = D0 := ⟨_, rfl⟩
  have hDl : D0.length = 16 := by rw [← hD0]; rfl
  have HDL := Lib.hid hDl
  have hF : u8s (Wz.flat [Wz.dg0]) = D0 := by rw [← hD0]; rfl
  have HF := Lib.hid hF
  have HD1 : Hid (∀ u ∈ D0, u.oneCell' = true) := Lib.hid (by rw [← hD0]; exact u8s_one _)
  have HDX : Hid (Value.agg (#[.int .u8 1, .int .u8 2, .int .u8 0, .int .u8 0, .int .u8 0, .int .u8 0, .int .u8 0, .int .u8 0, .int .u8 0, .int .u8 0, .int .u8 0, .int .u8 0, .int .u8 0, .int .u8 0, .int .u8 0, .int .u8 0] : Array Value) = .agg D0.toArray) := Lib.hid (by rw [← hD0]; rfl)
  have HD0 := Lib.hid hD0
  clear hDl hF hD0
  go_wp2_with (first
    | ((with_reducible show wpList _ _ _ (⟨Option.none, _, _, _, _, _⟩ :: _) _ _); go_must (refine wpList_storeNew agg_dg w5 _ 95 rfl (.tmp 16) (.tmp 50) rfl rfl D0 HDX.out HDL.out rfl HD1.out ?_))
    | ((with_reducible show wpList _ _ _ (⟨some 52, _, _, _, _, _⟩ :: _) _ _); go_must (refine wpList_loadAgg agg_dg _ rfl (.tmp 16) rfl w5.heap.size 0 rfl D0 HDL.out (fun j u hu => by rw [Nat.zero_add, (Blk.new w5 D0 95).cell]; exact hu) ?_))
    | ((with_reducible show wpList _ _ _ (⟨some 53, _, _, _, _, _⟩ :: _) _ _); go_must (refine wpList_buildOne _ rfl 55 95 i1 _ (.tmp 52) rfl Try.underlying55 hi' hz0' (by rw [hz1']; decide) (by rw [hz1']; decide) D0 rfl (by rw [hz1']; exact HDL.out) ?_))
    | fail)
  have hR := Rd.new (w5.alloc (.cells D0.toArray 95)) D0 95
  rw [show (w5.alloc (.cells D0.toArray 95)).heap.size = w5.heap.size + 1 from Array.size_push _] at hR
  refine (digests_calls _ 1 1 [Wz.dg0] _ (by rw [HF.out]; exact hR) (by decide) rfl).mono ?_
  clear hR
  rw [encD_0]
  rintro e w6 ⟨v6, rfl, hown6, hw⟩
  have E56 : Ext w5 w6 := (((Ext.refl w5).alloc _).alloc _).trans hw
  have HB6 := ((Blk.new w5 D0 95).alloc (.cells D0.toArray 95)).below hw
  obtain ⟨A6, c6, rfl, hc6, hm6, hr6⟩ := hown6.slice
  clear hw hown6
  go_wp2_with fail
  refine (getdigests_calls _ 18 c6 [129, 1, 1, 2, 0, 0, 0, 0, 0, 0, 0, 0, 0, 0, 0, 0, 0, 0] _ hr6 (by decide) hc6 hm6 rfl (s := [Wz.dg0]) (u := 18) (er := 0) rfl).mono ?_
  rintro e w7 ⟨v7, rfl, hown7, hw⟩
  have E57 := E56.trans hw
  have E7 := E5.trans E57
  have HB7 := HB6.below hw
  have HR57 := hr5.ext E57
  obtain ⟨A7, c7, rfl, hc7, hm7, hr7⟩ := hown7.slice
  clear hw hown7 HB6 E57 E56 E5 hr6 hr5 hown5
  go_wp2_with fail
  refine (int_calls _ _ (by omega) (by omega)).mono ?_
  rw [enc_m257]
  rintro e w8 ⟨v8, rfl, hown8, hw⟩
  have E78 := Ext.of hw
  obtain ⟨A8, c8, rfl, hc8, hm8, hr8⟩ := hown8.slice
  clear hw hown8
  go_wp2_with fail
  refine (same_calls _ _ 3 3 _ _ [125, 254, 255] [125, 254, 255] _ (hr8.alloc _) (Rd.new w8 (u8s [125, 254, 255]) 5) rfl rfl (by decide) (by decide) true (by simp)).mono ?_
  rintro e w9 ⟨rfl, hw⟩
  have E79 := (E78.alloc _).drawn hw
  clear hw E78 hr8 hc8 hm8
  go_wp2_with fail
  have HR59 := HR57.ext E79
  refine (sameints_calls _ _ 2 2 _ _ [1, -1] [1, -1] _ (HR59.alloc _) (Rd.new w9 (i64s [1, -1]) 3) rfl rfl (by decide) (by decide) true (by simp)).mono ?_
  rintro e w10 ⟨rfl, hw⟩
  have E710 := (E79.alloc _).drawn hw
  clear hw E79 HR59 HR57
  go_wp2_with fail
  refine (bytes_calls _ _ (by decide)).mono ?_
  rw [show Wz.encB (ByteArray.mk #[97, 98]).data.toList = [129, 2, 97, 98] from encB_ab]
  rintro e w11 ⟨v11, rfl, hown11, hw⟩
  have E711 := E710.trans hw
  obtain ⟨A11, c11, rfl, hc11, hm11, hr11⟩ := hown11.slice
  clear hw hown11 E710
  go_wp2_with fail
  refine (same_calls _ _ 4 4 _ _ [129, 2, 97, 98] [129, 2, 97, 98] _ (hr11.alloc _) (Rd.new w11 (u8s [129, 2, 97, 98]) 5) rfl rfl (by decide) (by decide) true (by simp)).mono ?_
  rintro e w12 ⟨rfl, hw⟩
  have E712 := (E711.alloc _).drawn hw
  clear hw E711 hr11 hc11 hm11
  go_wp2_with fail
  refine (ints_calls _ 2 2 [1, -1] _ (Rd.new w12 (i64s [1, -1]) 3) (by decide) rfl (by intro x hx; simp at hx; omega)).mono ?_
  rw [encL_ab]
  rintro e w13 ⟨v13, rfl, hown13, hw⟩
  have E713 := (E712.alloc _).trans hw
  obtain ⟨A13, c13, rfl, hc13, hm13, hr13⟩ := hown13.slice
  clear hw hown13 E712
  go_wp2_with fail
  refine (same_calls _ _ 5 5 _ _ [129, 2, 129, 1, 127] [129, 2, 129, 1, 127] _ (hr13.alloc _) (Rd.new w13 (u8s [129, 2, 129, 1, 127]) 5) rfl rfl (by decide) (by decide) true (by simp)).mono ?_
  rintro e w14 ⟨rfl, hw⟩
  have E714 := (E713.alloc _).drawn hw
  clear hw E713 hr13 hc13 hm13
  have HB14 := HB7.below E714
  have HRD := hr7.ext E714
  clear HB7 hr7
  go_wp2_with (first
    | ((with_reducible show wpList _ _ _ (⟨some 120, _, _, _, _, _⟩ :: _) _ _); go_must (refine wpList_guarded rfl (wpList_loadAgg agg_dg _ rfl (.tmp 16) rfl w5.heap.size 0 rfl D0 HDL.out (fun j u hu => by rw [Nat.zero_add, HB14.cell]; exact hu) ?_)))
    | ((with_reducible show wpList _ _ _ (⟨some 121, _, _, _, _, _⟩ :: _) _ _); go_must (refine wpList_guarded rfl (wpList_buildOne _ rfl 55 95 i1 _ (.tmp 120) rfl Try.underlying55 hi' hz0' (by rw [hz1']; decide) (by rw [hz1']; decide) D0 rfl (by rw [hz1']; exact HDL.out) ?_)))
    | fail)
  refine (samedigests_calls _ _ 1 1 _ _ [Wz.dg0] [Wz.dg0] _ (HRD.alloc _) (by rw [HF.out]; exact Rd.new w14 D0 95) rfl rfl (by decide) (by decide) true (by simp)).mono ?_
  rintro e w15 ⟨rfl, hw⟩
  have E15 := E7.trans ((E714.alloc _).drawn hw)
  clear hw E714 E7 HRD HB14
  go_wp2
  go_ret
  exact ⟨rfl, E15⟩

end Go.Proofs.Ytcjeclddpkinkaa
