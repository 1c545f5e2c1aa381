/- WireTruncated: the walk. -/
import Derived.Test.YtcjeclddpkinkaaL7
import Derived.Test.YtcjeclddpkinkaaWz
set_option linter.unusedSimpArgs false
set_option linter.unusedVariables false
namespace Go.Proofs.Ytcjeclddpkinkaa
open Go.RowKit

set_option maxRecDepth 100000 in
set_option maxHeartbeats 1600000 in
theorem truncated_law (x : Int) (s : ByteArray) (A1 : Option Addr) (N1 c1 : Nat) (v : List Int) (A2 : Option Addr) (N2 c2 : Nat) (d : List Wz.Dg) (w : World) (hx0 : -9223372036854775808 ≤ x) (hx1 : x ≤ 9223372036854775807)
    (hs : s.size ≤ 1000000000000000) (hr1 : Rd w A1 (i64s v)) (hN1 : v.length = N1) (hm1 : N1 ≤ 17592186044416) (hin : Wz.In64 v) (hr2 : Rd w A2 (u8s (Wz.flat d))) (hN2 : d.length = N2) (hm2 : N2 ≤ 17592186044416) :
    Calls Try.prog 13 #[.int .i64 x, .string s, .slice A1 N1 c1, .slice A2 N2 c2] w (RetT w) := by
  by_cases hbig : s.size + 9 * N1 + 16 * N2 ≤ 400
  · have hg : decide ((s.size : Int) + 9 * (N1 : Int) + 16 * (N2 : Int) > 400) = false := by rw [decide_eq_false_iff_not]; omega
    have hsl : s.data.toList.length = s.size := rfl
    have HX := Lib.hid fun i hi => Wz.dec_cut x hx0 hx1 i hi
    have HB := Lib.hid fun i hi => Wz.getB_part s.data.toList (by omega) i hi
    have HI := Lib.hid fun i hi => Wz.getL_part v hin (by omega) i hi
    have HG := Lib.hid fun i hi => Wz.getD_part d (by omega) i hi
    have hxl := Wz.enc_length x hx0 hx1
    have hbl : (Wz.encB s.data.toList).length ≤ 409 := by unfold Wz.encB; rw [List.length_append]; have := Wz.enc_length (s.data.toList.length : Int) (by omega) (by omega); omega
    have hil := Wz.encL_len hin (by omega)
    have hgl := Wz.encD_len (d := d) (by omega)
    rw [hN1] at hil
    rw [hN2] at hgl
    have HIN := Lib.hid hin; have HN1 := Lib.hid hN1; have HN2 := Lib.hid hN2
    clear hin hN1 hN2 hsl
    have cx := int_calls x w hx0 hx1
    have cb := fun w => bytes_calls s w (by omega)
    have ci := fun w (hr1 : Rd w A1 (i64s v)) => ints_calls A1 N1 c1 v w hr1 (by omega) HN1.out HIN.out
    have cd := fun w (hr2 : Rd w A2 (u8s (Wz.flat d))) => digests_calls A2 N2 c2 d w hr2 (by omega) HN2.out
    obtain ⟨qx, hqx⟩ : ∃ q, Wz.enc x = q := ⟨_, rfl⟩
    obtain ⟨qb, hqb⟩ : ∃ q, Wz.encB s.data.toList = q := ⟨_, rfl⟩
    obtain ⟨qi, hqi⟩ : ∃ q, Wz.encL v = q := ⟨_, rfl⟩
    obtain ⟨qd, hqd⟩ : ∃ q, Wz.encD d = q := ⟨_, rfl⟩
    rw [hqx] at HX hxl cx
    rw [hqb] at HB hbl
    rw [hqi] at HI hil
    rw [hqd] at HG hgl
    rw [hqb] at cb
    rw [hqi] at ci
    rw [hqd] at cd
    obtain ⟨Lx, hLx⟩ : ∃ L, qx.length = L := ⟨_, rfl⟩
    obtain ⟨Lb, hLb⟩ : ∃ L, qb.length = L := ⟨_, rfl⟩
    obtain ⟨Li, hLi⟩ : ∃ L, qi.length = L := ⟨_, rfl⟩
    obtain ⟨Ld, hLd⟩ : ∃ L, qd.length = L := ⟨_, rfl⟩
    rw [hLx] at HX hxl
    rw [hLb] at HB hbl
    rw [hLi] at HI hil
    rw [hLd] at HG hgl
    have HLx := Lib.hid hLx; have HLb := Lib.hid hLb; have HLi := Lib.hid hLi; have HLd := Lib.hid hLd
    have CX := Lib.hid cx; have CB := Lib.hid cb; have CI := Lib.hid ci; have CD := Lib.hid cd
    clear hqx hqb hqi hqd hLx hLb hLi hLd cx cb ci cd
    obtain ⟨i0, hi, hz0, hz1, hz2⟩ := info_parts info_u8
    go_enter Try.func13, Try.ntmps13
    go_wp2_with fail
    refine CX.out.mono ?_
    rintro e w1 ⟨v1, rfl, hown1, hw⟩
    have E1 := Ext.of hw
    obtain ⟨Ax, cx, rfl, hcx, hmx, hrx1⟩ := hown1.slice
    rw [HLx.out] at hcx ⊢
    clear hw hown1 CX
    go_wp2_with fail
    refine (CB.out _).mono ?_
    rintro e w2 ⟨v2, rfl, hown2, hw⟩
    have E2 := E1.trans hw
    have hrx2 := hrx1.ext hw
    obtain ⟨Ab, cb, rfl, hcb, hmb, hrb2⟩ := hown2.slice
    rw [HLb.out] at hcb ⊢
    clear hw hown2 CB E1 hrx1
    go_wp2_with fail
    refine (CI.out _ (hr1.ext E2)).mono ?_
    rintro e w3 ⟨v3, rfl, hown3, hw⟩
    have E3 := E2.trans hw
    have hrx3 := hrx2.ext hw
    have hrb3 := hrb2.ext hw
    obtain ⟨Ai, ci, rfl, hci, hmi, hri3⟩ := hown3.slice
    rw [HLi.out] at hci ⊢
    clear hw hown3 CI E2 hrx2 hrb2
    go_wp2_with fail
    refine (CD.out _ (hr2.ext E3)).mono ?_
    rintro e w4 ⟨v4, rfl, hown4, hw⟩
    have E4 := E3.trans hw
    have hrx4 := hrx3.ext hw
    have hrb4 := hrb3.ext hw
    have hri4 := hri3.ext hw
    obtain ⟨Ad, cd, rfl, hcd, hmd, hrd4⟩ := hown4.slice
    rw [HLd.out] at hcd ⊢
    clear hw hown4 CD E3 hrx3 hrb3 hri3 hr1 hr2
    go_wp2_with fail
    have HBLK : Blk (w4.alloc (.cells #[.slice Ax Lx cx, .slice Ab Lb cb, .slice Ai Li ci, .slice Ad Ld cd] 57)) w4.heap.size 57 [.slice Ax Lx cx, .slice Ab Lb cb, .slice Ai Li ci, .slice Ad Ld cd] := Blk.new w4 _ 57
    obtain ⟨w5, hw5⟩ : ∃ w5, w4.alloc (.cells #[.slice Ax Lx cx, .slice Ab Lb cb, .slice Ai Li ci, .slice Ad Ld cd] 57) = w5 := ⟨_, rfl⟩
    have E45 : Ext w4 w5 := hw5 ▸ (Ext.refl w4).alloc _
    rw [hw5] at HBLK
    simp only [hw5]
    clear hw5
    have E5 := E4.trans E45
    have hrx5 := hrx4.ext E45
    have hrb5 := hrb4.ext E45
    have hri5 := hri4.ext E45
    have hrd5 := hrd4.ext E45
    obtain ⟨B, hB⟩ : ∃ B, w4.heap.size = B := ⟨_, rfl⟩
    rw [hB] at HBLK
    simp only [hB]
    clear hB hrx4 hrb4 hri4 hrd4 E45 E4
    go_loopg [35] 4 (fun g i wr => ∃ k : Nat, i = .int .i64 (k : Int) ∧ k ≤ 4 ∧ 4 - k ≤ g ∧ Ext w5 wr)
    case atStart => exact ⟨0, rfl, by omega, by omega, Ext.refl _⟩
    case round =>
      obtain ⟨k, rfl, hk, hg, hb⟩ := hrel
      have HBR := HBLK.below hb
      have hk5 : k = 0 ∨ k = 1 ∨ k = 2 ∨ k = 3 ∨ k = 4 := by omega
      rcases hk5 with rfl | rfl | rfl | rfl | rfl
      · have hcell : wr.cell? ⟨B, 0, none⟩ = some (.slice Ax Lx cx) := HBR.cell 0
        have hmin : decide ((500 : Int) < (Lx : Int)) = false := by rw [decide_eq_false_iff_not]; omega
        have hmin2 : min (Lx : Int) 500 = (Lx : Int) := by omega
        have hrr := hrx5.ext hb
        go_wp2_with fail
        go_loopg [43] Lx (fun g i wq => ∃ m : Nat, i = .int .i64 (m : Int) ∧ m ≤ Lx ∧ Lx - m ≤ g ∧ Ext wr wq)
        case atStart => exact ⟨0, rfl, by omega, by omega, Ext.refl _⟩
        case round =>
          obtain ⟨m, rfl, hm, hgm, hbq⟩ := hrel
          by_cases hmL : m < Lx
          · have hrq := hrr.ext hbq
            go_wp2_with (first
              | ((with_reducible show wpList _ _ _ (⟨some 60, _, _, _, _, _⟩ :: _) _ _); go_must (refine wpList_slice _ rfl (.tmp 58) none (some (.tmp 59)) 57 rfl 5 i0 1 Try.underlying57 hi hz1 Ax Lx cx (u8s qx) rfl hrq hcx 0 m (.inl ⟨rfl, rfl⟩) (.inr ⟨_, .i64, rfl, rfl⟩) (Nat.zero_le _) (Nat.le_of_lt hmL) ?_); intro A5 hr5)
              | fail)
            have e5 : List.take ((m - 0) * 1) (List.drop (0 * 1) (u8s qx)) = u8s (qx.take m) := by simp [u8s, List.map_take]
            rw [e5] at hr5
            refine (getint_calls _ _ _ (qx.take m) _ hr5 (by omega) (by omega) (by omega) (by rw [List.length_take, HLx.out]; omega) (HX.out m hmL)).mono ?_
            rintro e w6 ⟨rfl, rfl⟩
            go_wp2_with fail
            go_roundg (Lx - (m + 1))
            case measure => omega
            case rel => exact ⟨m + 1, by go_num, by omega, by omega, hbq⟩
          · go_wp2_with fail
            go_roundg (4 - (0 + 1))
            case measure => omega
            case rel => exact ⟨0 + 1, by go_num, by omega, by omega, hb.trans hbq⟩
      · have hcell : wr.cell? ⟨B, 1, none⟩ = some (.slice Ab Lb cb) := HBR.cell 1
        have hmin : decide ((500 : Int) < (Lb : Int)) = false := by rw [decide_eq_false_iff_not]; omega
        have hmin2 : min (Lb : Int) 500 = (Lb : Int) := by omega
        have hrr := hrb5.ext hb
        go_wp2_with fail
        go_loopg [43] Lb (fun g i wq => ∃ m : Nat, i = .int .i64 (m : Int) ∧ m ≤ Lb ∧ Lb - m ≤ g ∧ Ext wr wq)
        case atStart => exact ⟨0, rfl, by omega, by omega, Ext.refl _⟩
        case round =>
          obtain ⟨m, rfl, hm, hgm, hbq⟩ := hrel
          by_cases hmL : m < Lb
          · have hrq := hrr.ext hbq
            go_wp2_with (first
              | ((with_reducible show wpList _ _ _ (⟨some 70, _, _, _, _, _⟩ :: _) _ _); go_must (refine wpList_slice _ rfl (.tmp 68) none (some (.tmp 69)) 57 rfl 5 i0 1 Try.underlying57 hi hz1 Ab Lb cb (u8s qb) rfl hrq hcb 0 m (.inl ⟨rfl, rfl⟩) (.inr ⟨_, .i64, rfl, rfl⟩) (Nat.zero_le _) (Nat.le_of_lt hmL) ?_); intro A5 hr5)
              | fail)
            have e5 : List.take ((m - 0) * 1) (List.drop (0 * 1) (u8s qb)) = u8s (qb.take m) := by simp [u8s, List.map_take]
            rw [e5] at hr5
            refine (getbytes_calls _ _ _ (qb.take m) _ hr5 (by omega) (by omega) (by omega) (by rw [List.length_take, HLb.out]; omega) (HB.out m hmL)).mono ?_
            rintro e w6 ⟨rfl, hw⟩
            go_wp2_with fail
            go_roundg (Lb - (m + 1))
            case measure => omega
            case rel => exact ⟨m + 1, by go_num, by omega, by omega, hbq.trans hw⟩
          · go_wp2_with fail
            go_roundg (4 - (1 + 1))
            case measure => omega
            case rel => exact ⟨1 + 1, by go_num, by omega, by omega, hb.trans hbq⟩
      · have hcell : wr.cell? ⟨B, 2, none⟩ = some (.slice Ai Li ci) := HBR.cell 2
        have hmin : decide ((500 : Int) < (Li : Int)) = false := by rw [decide_eq_false_iff_not]; omega
        have hmin2 : min (Li : Int) 500 = (Li : Int) := by omega
        have hrr := hri5.ext hb
        go_wp2_with fail
        go_loopg [43] Li (fun g i wq => ∃ m : Nat, i = .int .i64 (m : Int) ∧ m ≤ Li ∧ Li - m ≤ g ∧ Ext wr wq)
        case atStart => exact ⟨0, rfl, by omega, by omega, Ext.refl _⟩
        case round =>
          obtain ⟨m, rfl, hm, hgm, hbq⟩ := hrel
          by_cases hmL : m < Li
          · have hrq := hrr.ext hbq
            go_wp2_with (first
              | ((with_reducible show wpList _ _ _ (⟨some 80, _, _, _, _, _⟩ :: _) _ _); go_must (refine wpList_slice _ rfl (.tmp 78) none (some (.tmp 79)) 57 rfl 5 i0 1 Try.underlying57 hi hz1 Ai Li ci (u8s qi) rfl hrq hci 0 m (.inl ⟨rfl, rfl⟩) (.inr ⟨_, .i64, rfl, rfl⟩) (Nat.zero_le _) (Nat.le_of_lt hmL) ?_); intro A5 hr5)
              | fail)
            have e5 : List.take ((m - 0) * 1) (List.drop (0 * 1) (u8s qi)) = u8s (qi.take m) := by simp [u8s, List.map_take]
            rw [e5] at hr5
            refine (getints_calls _ _ _ (qi.take m) _ hr5 (by omega) (by omega) (by omega) (by rw [List.length_take, HLi.out]; omega) (HI.out m hmL)).mono ?_
            rintro e w6 ⟨v6, rfl, hown6, hw⟩
            go_wp2_with fail
            go_roundg (Li - (m + 1))
            case measure => omega
            case rel => exact ⟨m + 1, by go_num, by omega, by omega, hbq.trans hw⟩
          · go_wp2_with fail
            go_roundg (4 - (2 + 1))
            case measure => omega
            case rel => exact ⟨2 + 1, by go_num, by omega, by omega, hb.trans hbq⟩
      · have hcell : wr.cell? ⟨B, 3, none⟩ = some (.slice Ad Ld cd) := HBR.cell 3
        have hmin : decide ((500 : Int) < (Ld : Int)) = false := by rw [decide_eq_false_iff_not]; omega
        have hmin2 : min (Ld : Int) 500 = (Ld : Int) := by omega
        have hrr := hrd5.ext hb
        go_wp2_with fail
        go_loopg [43] Ld (fun g i wq => ∃ m : Nat, i = .int .i64 (m : Int) ∧ m ≤ Ld ∧ Ld - m ≤ g ∧ Ext wr wq)
        case atStart => exact ⟨0, rfl, by omega, by omega, Ext.refl _⟩
        case round =>
          obtain ⟨m, rfl, hm, hgm, hbq⟩ := hrel
          by_cases hmL : m < Ld
          · have hrq := hrr.ext hbq
            go_wp2_with (first
              | ((with_reducible show wpList _ _ _ (⟨some 50, _, _, _, _, _⟩ :: _) _ _); go_must (refine wpList_slice _ rfl (.tmp 48) none (some (.tmp 49)) 57 rfl 5 i0 1 Try.underlying57 hi hz1 Ad Ld cd (u8s qd) rfl hrq hcd 0 m (.inl ⟨rfl, rfl⟩) (.inr ⟨_, .i64, rfl, rfl⟩) (Nat.zero_le _) (Nat.le_of_lt hmL) ?_); intro A5 hr5)
              | fail)
            have e5 : List.take ((m - 0) * 1) (List.drop (0 * 1) (u8s qd)) = u8s (qd.take m) := by simp [u8s, List.map_take]
            rw [e5] at hr5
            refine (getdigests_calls _ _ _ (qd.take m) _ hr5 (by omega) (by omega) (by omega) (by rw [List.length_take, HLd.out]; omega) (HG.out m hmL)).mono ?_
            rintro e w6 ⟨v6, rfl, hown6, hw⟩
            go_wp2_with fail
            go_roundg (Ld - (m + 1))
            case measure => omega
            case rel => exact ⟨m + 1, by go_num, by omega, by omega, hbq.trans hw⟩
          · go_wp2_with fail
            go_roundg (4 - (3 + 1))
            case measure => omega
            case rel => exact ⟨3 + 1, by go_num, by omega, by omega, hb.trans hbq⟩
      · go_wp2_with fail
        refine (sanity_calls _).mono ?_
        rintro e w6 ⟨rfl, E6⟩
        go_wp2
        go_ret
        exact ⟨rfl, (E5.trans hb).trans E6⟩
  · have hg : decide ((s.size : Int) + 9 * (N1 : Int) + 16 * (N2 : Int) > 400) = true := by rw [decide_eq_true_iff]; omega
    clear hin
    go_enter Try.func13, Try.ntmps13
    go_wp2_with fail
    refine (sanity_calls _).mono ?_
    rintro e w1 ⟨rfl, E1⟩
    go_wp2
    go_ret
    exact ⟨rfl, E1⟩

end Go.Proofs.Ytcjeclddpkinkaa
