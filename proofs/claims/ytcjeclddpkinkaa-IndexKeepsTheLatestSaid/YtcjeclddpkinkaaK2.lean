/- IndexKeepsTheLatest: the walk. -/
import Derived.Test.YtcjeclddpkinkaaK1
import Derived.Test.YtcjeclddpkinkaaJ6
import Derived.Test.YtcjeclddpkinkaaB5
set_option linter.unusedSimpArgs false
set_option linter.unusedVariables false
namespace Go.Proofs.Ytcjeclddpkinkaa
open Go.RowKit Go.ChangeMaps Ix

theorem agg_op : AggOf Try.prog 34 3 := ⟨by kernel_rfl, by kernel_rfl⟩
/-- append of one entry, with the row's block -/
theorem wpList_appEat (w0 : World) {ops : Array Oper} {rest : List Oper} {o : Oper} {a : Act} {Q : Exit → Act → World → Prop} (hgd : o.guard = none) (s x : Operand)
    (ho : o.op = .call { callee := .builtin .append, args := #[s, x], argTypes := #[27, 27] })
    (base : Nat) (v : Value) (L : List En) (p c : Int) (hs : a.eval s = v) (hown : OwnE w0 base v L) (hx : a.eval x = .slice (some ⟨w0.heap.size, 0, none⟩) 1 1)
    (hbytes : L.length < 1000000000000) (hbase : base ≤ w0.heap.size)
    (h : ∀ v' w', OwnE w' base v' (L ++ [(p, c)]) → (w0.alloc (.cells #[.int .u32 p, .int .i64 c] 39)).grownBy w' v.ownBlock → (v'.ownBlock = v.ownBlock ∨ v'.ownBlock = some (w0.heap.size + 1)) → (∀ B w1, B ≤ base → Below B w1 w0 → Below B w1 w') → wpList Try.prog ops Q rest (a.put o.dst v') w') : wpList Try.prog ops Q (o :: rest) a (w0.alloc (.cells #[.int .u32 p, .int .i64 c] 39)) := by
  obtain ⟨i0, hi, hz0, hz1, hz2⟩ := info_parts info_en
  have e1 : (w0.alloc (.cells #[.int .u32 p, .int .i64 c] 39)).heap.size = w0.heap.size + 1 := Array.size_push _
  refine wpList_appAt _ hgd s x 27 ho base 39 i0 (.agg #[.int .u32 0, .int .i64 0]) 2 16 Try.und_es hi hz0 hz1 hz2 rfl (by decide) v L.length (enCells L) hs (hown.alloc _) (some ⟨w0.heap.size, 0, none⟩) 1 1 (enCells [(p, c)]) hx rfl (Blk.new w0 [.int .u32 p, .int .i64 c] 39).rd (enCells_one _) (by omega) (by decide) (by omega) ?_
  intro v' w' h1 h2 h3 h4
  refine h v' w' (by unfold OwnE; rw [enCells_append, List.length_append]; exact h1) h2 (by rw [e1] at h3; exact h3) fun B w1 hB hb => h4 B w1 hB (hb.alloc (by omega) _)
/-- append of one integer, with the row's block -/
theorem wpList_app64at (w0 : World) {ops : Array Oper} {rest : List Oper} {o : Oper} {a : Act} {Q : Exit → Act → World → Prop} (hgd : o.guard = none) (s x : Operand)
    (ho : o.op = .call { callee := .builtin .append, args := #[s, x], argTypes := #[30, 30] })
    (base : Nat) (v : Value) (l : List Int) (X : Int) (hs : a.eval s = v) (hown : Own64 w0 base v l) (hx : a.eval x = .slice (some ⟨w0.heap.size, 0, none⟩) 1 1)
    (hbytes : l.length < 1000000000000) (hbase : base ≤ w0.heap.size)
    (h : ∀ v' w', Own64 w' base v' (l ++ [X]) → (w0.alloc (.cells #[.int .i64 X] 3)).grownBy w' v.ownBlock → (v'.ownBlock = v.ownBlock ∨ v'.ownBlock = some (w0.heap.size + 1)) → (∀ B w1, B ≤ base → Below B w1 w0 → Below B w1 w') → wpList Try.prog ops Q rest (a.put o.dst v') w') : wpList Try.prog ops Q (o :: rest) a (w0.alloc (.cells #[.int .i64 X] 3)) := by
  obtain ⟨i0, hi, hz0, hz1, hz2⟩ := info_parts info_int
  have e1 : (w0.alloc (.cells #[.int .i64 X] 3)).heap.size = w0.heap.size + 1 := Array.size_push _
  refine wpList_appAt _ hgd s x 30 ho base 3 i0 (.int .i64 0) 1 8 Try.underlying30 hi hz0 hz1 hz2 rfl (by decide) v l.length (i64s l) hs (hown.alloc _) (some ⟨w0.heap.size, 0, none⟩) 1 1 (i64s [X]) hx rfl (Rd.one _ _ _) (i64s_one _) (by omega) (by decide) (by omega) ?_
  intro v' w' h1 h2 h3 h4
  refine h v' w' (by unfold Own64; rw [i64s_append, List.length_append]; exact h1) h2 (by rw [e1] at h3; exact h3) fun B w1 hB hb => h4 B w1 hB (hb.alloc (by omega) _)

set_option maxRecDepth 100000 in
set_option maxHeartbeats 2000000 in
theorem latest_bad (cap : Int) (A : Option Addr) (N c : Nat) (w : World) (hb : (cap < 1 ∨ cap > 4096) ∨ N > 80) (hNb : N ≤ 100000000000000) :
    Calls Try.prog 4 #[.int .i64 cap, .slice A N c] w (RetT w) := by
  have C1 := Lib.hid fun w => play_bad cap A N c w hb (by omega)
  clear hb
  go_enter Try.func4, Try.ntmps4
  go_wp2_with fail
  refine (sanity23_calls _).mono ?_
  rintro e w1 ⟨rfl, E1⟩
  go_wp2_with fail
  refine (C1.out _).mono ?_
  rintro e w2 ⟨rfl, F2⟩
  go_wp2
  go_ret
  exact ⟨rfl, E1.trans F2⟩

set_option maxRecDepth 100000 in
set_option maxHeartbeats 4000000 in
theorem latest_good (cap : Nat) (A : Option Addr) (N c : Nat) (l : List Op3) (w : World) (h1 : 1 ≤ cap) (h2 : cap ≤ 4096) (hA : Rd w A (opCells l)) (hN : l.length = N) (h80 : N ≤ 80) (hok : ∀ o ∈ l, OkO o) :
    Calls Try.prog 4 #[.int .i64 (cap : Int), .slice A N c] w (RetT w) := by
  have C1 := Lib.hid fun w (h : Rd w A (opCells l)) => play_calls cap A N c l w h1 h2 h hN h80 hok
  have HLAW := Lib.hid (latest_law h1 l hok)
  have HN := Lib.hid hN; have HOK := Lib.hid hok
  clear hok hN
  obtain ⟨L, hL⟩ : ∃ L, playL cap l = L := ⟨_, rfl⟩
  rw [hL] at HLAW
  have HL := Lib.hid hL
  clear hL
  go_enter Try.func4, Try.ntmps4
  go_wp2_with fail
  refine (sanity23_calls _).mono ?_
  rintro e w1 ⟨rfl, E1⟩
  go_wp2_with fail
  refine (C1.out _ (hA.ext E1)).mono ?_
  rintro e w2 ⟨p, r, rfl, hp, hr, hx, F2⟩
  rw [HL.out] at hx
  have E2 := E1.trans F2
  have hps := hx.1.lt
  have hrs := hx.1.2.lt
  clear C1 E1 F2
  go_wp2_with fail
  go_loopg [8, 9, 10, 11, 12] (N + 1) (fun g v8 v9 v10 i v12 wr => ∃ k : Nat, i = .int .i64 ((k : Int) - 1) ∧ k ≤ N ∧ k < g ∧ v10 = .bool (stL (l.drop k)).drops ∧ OwnE wr w2.heap.size v8 (stL (l.drop k)).want ∧ Own64 wr w2.heap.size v9 (stL (l.drop k)).seen ∧ Apt v8 v9 ∧ Below w2.heap.size w2 wr)
  case atStart =>
    refine ⟨N, by go_num, by omega, by omega, ?_, ?_, ?_, Apt.none_left _, Below.refl _ _⟩
    · rw [List.drop_of_length_le (by rw [HN.out]; omega)]; rfl
    · rw [List.drop_of_length_le (by rw [HN.out]; omega)]; exact World.ownsRow_nil _ _ _ _
    · rw [List.drop_of_length_le (by rw [HN.out]; omega)]; exact World.ownsRow_nil _ _ _ _
  case round =>
    obtain ⟨k, rfl, hk, hg, rfl, ho8, ho9, hapt, hB⟩ := hrel
    have hxr := hx.ext hB
    by_cases hk0 : k = 0
    · subst hk0
      have hz : ((((0 : Nat) : Int) - 1)) = -1 := by omega
      rw [List.drop_zero] at ho8 ho9
      simp only [List.drop_zero, hz]
      obtain ⟨hpre, hle, hdr⟩ := HLAW.out
      obtain ⟨⟨WW, SS, DD⟩, hS⟩ : ∃ S, stL l = S := ⟨_, rfl⟩
      have hlw := (stL_len l).1
      rw [hS] at hpre hle hdr ho8 hlw
      simp only [hS]
      simp only at hpre hle hdr ho8 hlw
      obtain ⟨A8, c8, rfl, hc8, hm8, hr8⟩ := ho8.slice
      have hpl := hpre.length_le
      obtain ⟨nL, hnL⟩ : ∃ n, L.length = n := ⟨_, rfl⟩
      obtain ⟨nW, hnW⟩ : ∃ n, WW.length = n := ⟨_, rfl⟩
      obtain ⟨n, hn⟩ : ∃ n, min nW cap = n := ⟨_, rfl⟩
      rw [hnL, hnW, hn] at hle hdr
      rw [hnL, hnW] at hpl
      rw [hnW] at hc8 hlw
      simp only [hnW]
      have n1 : (if nW < cap then (nW : Int) else (cap : Int)) = (n : Int) := by split <;> omega
      have n2 : (if cap < nW then (cap : Int) else (nW : Int)) = (n : Int) := by split <;> omega
      have q1 : decide ((n : Int) < (nL : Int)) = false := by rw [decide_eq_false_iff_not]; omega
      have q2 : decide (n < nL) = false := by rw [decide_eq_false_iff_not]; omega
      have hL1 : L.length ≤ 1000000 := by rw [HN.out] at hlw; omega
      have HPRE := Lib.hid hpre; have HNL := Lib.hid hnL; have HNW := Lib.hid hnW; have HDR := Lib.hid hdr; have HLN := Lib.hid hL1
      obtain ⟨i0, hi, hz0, hz1, hz2⟩ := info_parts info_en
      have hcap1 : nL ≤ c8 := by omega
      clear hpre hnL hnW hn hdr hS hlw HLAW HL ho8 ho9 hapt hz hL1
      have q3 : DD = false → ((nL : Int) != (n : Int)) = false := fun h => by rw [HDR.out h]; simp
      have E2B := Lib.hid E2
      cases DD
      case' false => have q4 := q3 rfl
      case' true => have q4 := trivial
      all_goals
        clear q3
        go_wp2_with fail
        refine (all_calls p r cap L HLN.out wr hxr).mono ?_
        rintro e w4 ⟨v4, rfl, hown4, F4⟩
        obtain ⟨A4, c4, rfl, hc4, hm4, hr4⟩ := OwnE.slice hown4
        have hr84 := hr8.below F4
        have B4 := hB.trans (F4.mono hB.size)
        rw [HNL.out] at hc4
        simp only [HNL.out]
        clear hown4 F4 hr8
        go_wp2_with (first
          | ((with_reducible show wpList _ _ _ (⟨some 101, _, _, _, _, _⟩ :: _) _ _); go_must (refine wpList_guarded rfl (wpList_slice _ rfl (.tmp 98) none (some (.tmp 100)) 27 rfl 39 i0 2 Try.und_es hi hz1 A8 nW c8 (enCells WW) rfl hr84 hc8 0 nL (.inl ⟨rfl, rfl⟩) (.inr ⟨_, .i64, rfl, rfl⟩) (Nat.zero_le _) hpl ?_)); intro A9 hr9)
          | fail)
        have e9 : List.take ((nL - 0) * 2) (List.drop (0 * 2) (enCells WW)) = enCells L := by
          rw [Nat.zero_mul, List.drop_zero, Nat.sub_zero, enCells_take, ← HNL.out, pre_take HPRE.out]
        rw [e9] at hr9
        refine (sameen_calls _ _ nL nL _ _ L L _ hr4 hr9 HNL.out HNL.out (by omega) (by omega) true (by simp)).mono ?_
        rintro e w6 ⟨rfl, hd⟩
        have E6 : Ext w w6 := (E2.trans (Ext.of B4)).drawn hd
        clear hd hr4 hr9 e9 hr84
        go_wp2
        go_ret
        exact ⟨rfl, E6⟩
    · obtain ⟨j, rfl⟩ : ∃ j, k = j + 1 := ⟨k - 1, by omega⟩
      have hz : (((j + 1 : Nat) : Int) - 1) = (j : Int) := by omega
      have hjl : j < l.length := by rw [HN.out]; omega
      obtain ⟨b, o, rfl, hc⟩ := (hA.ext E2).below hB (by rw [opCells_length]; omega)
      obtain ⟨k0, k1, k2⟩ := op_cell hjl hc
      have hop := HOK.out (l[j]) (List.getElem_mem _)
      have hst : stL (l.drop j) = stB (stL (l.drop (j + 1))) l[j] := by rw [List.drop_eq_getElem_cons hjl, stL_cons]
      have hlen := stL_len (l.drop (j + 1))
      rw [List.length_drop, HN.out] at hlen
      obtain ⟨op, hopE⟩ : ∃ op, l[j] = op := ⟨_, rfl⟩
      rw [hopE] at k0 k1 k2 hop hst
      obtain ⟨dr, pr, ch⟩ := op
      obtain ⟨⟨WW, SS, DD⟩, hS⟩ : ∃ S, stL (l.drop (j + 1)) = S := ⟨_, rfl⟩
      rw [hS] at hst hlen ho8 ho9
      simp only [hS, hz] at *
      have hcs : ∀ q u, ([.bool dr, .int .u32 pr, .int .i64 ch] : List Value)[q]? = some u → wr.cell? ⟨b, o + j * 3 + q, none⟩ = some u := by
        intro q u hu
        have hq : q < 3 := (List.getElem?_eq_some_iff.1 hu).1
        rcases (show q = 0 ∨ q = 1 ∨ q = 2 by omega) with rfl | rfl | rfl
        · rw [← hu]; exact k0
        · rw [← hu]; exact k1
        · rw [← hu]; exact k2
      have HCS := Lib.hid hcs; have HST := Lib.hid hst; have HOP := Lib.hid hop
      have i1 : (0 : Int) ≤ (j : Int) := by omega
      have i2 : (j : Int) < (N : Int) := by omega
      obtain ⟨A9, c9, rfl, hc9, hm9, hr9⟩ := ho9.slice
      obtain ⟨hb, hhb⟩ : ∃ hb, SS.contains ch = hb := ⟨_, rfl⟩
      have HHB := Lib.hid hhb
      obtain ⟨W1, hW1⟩ : ∃ W, wr.alloc (.cells #[.bool dr, .int .u32 pr, .int .i64 ch] 34) = W := ⟨_, rfl⟩
      have BW : Blk W1 wr.heap.size 34 [.bool dr, .int .u32 pr, .int .i64 ch] := hW1 ▸ Blk.new wr _ 34
      have EW : Ext wr W1 := hW1 ▸ (Ext.refl wr).alloc _
      have hB1 : Below w2.heap.size w2 W1 := hW1 ▸ hB.alloc hB.size _
      have b0 := BW.cell 0
      have b1 := BW.cell 1
      have b2 := BW.cell 2
      obtain ⟨ns, hns⟩ : ∃ ns, SS.length = ns := ⟨_, rfl⟩
      rw [hns] at ho9 hapt
      have HR8 := Lib.hid ho8.base_le; have HR9 := Lib.hid ho9.base_le
      have HO8 := Lib.hid (ho8.ext EW); have HO9 := Lib.hid (ho9.ext EW); have HAPT := Lib.hid hapt
      obtain ⟨nw, hnw⟩ : ∃ nw, WW.length = nw := ⟨_, rfl⟩
      rw [hns] at hlen hc9
      rw [hnw] at hlen
      have hcall := has_calls A9 ns c9 SS ch W1 (hr9.ext EW) hns (by omega) hb hhb
      have HCALL := Lib.hid hcall
      have HNW := Lib.hid hnw
      have hsz1 : w2.heap.size ≤ W1.heap.size := hB1.size
      have HNS := Lib.hid hns
      simp only [hns]
      clear hcs hst hop k0 k1 k2 hc hopE hS hz hk0 hhb hcall hns hnw hr9 ho8 ho9 hapt
      have HSKIP : Hid (hb = true ∨ okC ch = false → stL (l.drop j) = ⟨WW, SS, DD || dr⟩) := Lib.hid fun h => by
        rw [HST.out]; unfold stB
        rw [if_pos]
        rcases h with h | h
        · rw [HHB.out, h]; rfl
        · rw [h]; simp
      have HDROP : Hid (hb = false → okC ch = true → stL (l.drop j) = ⟨if dr then WW else WW ++ [(pr, ch)], SS ++ [ch], DD || dr⟩) := Lib.hid fun h h' => by
        rw [HST.out]; unfold stB
        rw [if_neg (by rw [HHB.out, h, h']; simp)]
      cases DD
      all_goals
        go_wp2_with (first
          | ((with_reducible show wpList _ _ _ (⟨some 39, _, _, _, _, _⟩ :: _) _ _); go_must (refine wpList_loadAgg agg_op _ rfl (.tmp 38) rfl b (o + j * 3) rfl [.bool dr, .int .u32 pr, .int .i64 ch] rfl HCS.out ?_))
          | ((with_reducible show wpList _ _ _ (⟨Option.none, .store _ _ _, _, _, _, _⟩ :: _) _ _); go_must (refine wpList_storeNew agg_op _ _ 34 rfl (.tmp 12) (.tmp 39) rfl rfl [.bool dr, .int .u32 pr, .int .i64 ch] rfl rfl rfl (by intro u hu; simp at hu; rcases hu with rfl | rfl | rfl <;> rfl) ?_))
          | fail)
        try simp only [hW1]
        refine HCALL.out.mono ?_
        rintro e _ ⟨rfl, rfl⟩
        cases hb with
        | true =>
          go_wp2_with fail
          go_roundg (j + 1)
          case measure => omega
          case rel =>
            have e := HSKIP.out (by first | exact .inl rfl | simp)
            exact ⟨j, by go_num, by omega, by omega, by rw [e]; rfl, by rw [e]; exact HO8.out, by rw [e]; exact HO9.out, HAPT.out, hB1⟩
        | false =>
          by_cases hlo : ch < 1
          · have g1 : decide (ch < 1) = true := decide_eq_true hlo
            have hbad : okC ch = false := by unfold okC; rw [decide_eq_false (by omega)]; rfl
            have HBAD := Lib.hid hbad
            clear hbad hlo
            go_wp2_with fail
            go_roundg (j + 1)
            case measure => omega
            case rel =>
              have e := HSKIP.out (.inr HBAD.out)
              exact ⟨j, by go_num, by omega, by omega, by rw [e]; rfl, by rw [e]; exact HO8.out, by rw [e]; exact HO9.out, HAPT.out, hB1⟩
          · have g1 : decide (ch < 1) = false := decide_eq_false hlo
            by_cases hhi : ch > 65536
            · have g2 : decide (ch > 65536) = true := decide_eq_true hhi
              have hbad : okC ch = false := by unfold okC; rw [decide_eq_false (show ¬ ch ≤ 65536 by omega), Bool.and_false]
              have HBAD := Lib.hid hbad
              clear hbad hlo hhi
              go_wp2_with fail
              go_roundg (j + 1)
              case measure => omega
              case rel =>
                have e := HSKIP.out (.inr HBAD.out)
                exact ⟨j, by go_num, by omega, by omega, by rw [e]; rfl, by rw [e]; exact HO8.out, by rw [e]; exact HO9.out, HAPT.out, hB1⟩
            · have g2 : decide (ch > 65536) = false := decide_eq_false hhi
              have hgood : okC ch = true := okC_iff.2 ⟨by omega, by omega⟩
              have HE := Lib.hid (HDROP.out (by first | rfl | trivial) hgood)
              clear hgood hlo hhi
              go_wp2_with (first
                | ((with_reducible show wpList _ _ _ (⟨some 63, _, _, _, _, _⟩ :: _) _ _); go_must (refine wpList_app64at W1 rfl (.tmp 59) (.tmp 62) rfl w2.heap.size (.slice A9 ns c9) SS ch rfl HO9.out rfl (by rw [HNS.out]; omega) hsz1 ?_); intro v9 w3 hown9 hgr9 hat9 hbel9; clear b0 b1 b2
                   have B3 : Blk w3 wr.heap.size 34 [.bool dr, .int .u32 pr, .int .i64 ch] := (BW.alloc _).grown hgr9 fun e => by have := (HR9.out _ e.symm).2; omega
                   have hz1 : (W1.alloc (.cells #[.int .i64 ch] 3)).heap.size = W1.heap.size + 1 := Array.size_push _
                   have hwz : wr.heap.size + 1 = W1.heap.size := by rw [← hW1]; exact (Array.size_push _).symm
                   have ho8 : OwnE w3 w2.heap.size u8 WW := World.ownsRow.kept (HO8.out.alloc _) hgr9 HAPT.out.row
                   have hapt3 : Apt u8 v9 := (Apt.after HAPT.out.symm hat9 fun k hk => by have := (HR8.out k hk).2; omega).symm
                   have hB3 : Below w2.heap.size w2 w3 := hbel9 _ _ (Nat.le_refl _) hB1
                   have hsz3 : w2.heap.size ≤ w3.heap.size := hB3.size
                   have b0 : w3.cell? ⟨wr.heap.size, 0, none⟩ = some (.bool dr) := B3.cell 0
                   have b1 : w3.cell? ⟨wr.heap.size, 1, none⟩ = some (.int .u32 pr) := B3.cell 1
                   have b2 : w3.cell? ⟨wr.heap.size, 2, none⟩ = some (.int .i64 ch) := B3.cell 2
                   have HO83 := Lib.hid ho8; have HO93 := Lib.hid hown9; have HAPT3 := Lib.hid hapt3
                   have HR83 := Lib.hid ho8.base_le; have HR93 := Lib.hid hown9.base_le
                   clear hgr9 hat9 hbel9 hz1 ho8 hown9 hapt3 hwz hW1
                   cases dr)
                | ((with_reducible show wpList _ _ _ (⟨some 74, _, _, _, _, _⟩ :: _) _ _); go_must (refine wpList_appEat w3 rfl (.tmp 67) (.tmp 73) rfl w2.heap.size u8 WW pr ch rfl HO83.out rfl (by rw [HNW.out]; omega) hsz3 ?_); intro v8 w4 hown8 hgr8 hat8 hbel8; clear b0 b1 b2
                   have ho9 : Own64 w4 w2.heap.size v9 (SS ++ [ch]) := World.ownsRow.kept (HO93.out.alloc _) hgr8 HAPT3.out.symm.row
                   have hapt4 : Apt v8 v9 := Apt.after HAPT3.out hat8 fun k hk => by have := (HR93.out k hk).2; omega
                   have hB4 : Below w2.heap.size w2 w4 := hbel8 _ _ (Nat.le_refl _) hB3
                   have HO84 := Lib.hid hown8; have HO94 := Lib.hid ho9; have HAPT4 := Lib.hid hapt4
                   clear hgr8 hat8 hbel8 ho9 hown8 hapt4)
                | fail)
              · go_roundg (j + 1)
                case measure => omega
                case rel =>
                  have e := HE.out
                  exact ⟨j, by go_num, by omega, by omega, by rw [e]; rfl, by rw [e]; exact HO84.out, by rw [e]; exact HO94.out, HAPT4.out, hB4⟩
              · go_roundg (j + 1)
                case measure => omega
                case rel =>
                  have e := HE.out
                  exact ⟨j, by go_num, by omega, by omega, by rw [e]; rfl, by rw [e]; exact HO83.out, by rw [e]; exact HO93.out, HAPT3.out, hB3⟩

theorem latest_law_calls (cap : Int) (A : Option Addr) (N c : Nat) (l : List Op3) (w : World) (hA : Rd w A (opCells l)) (hN : l.length = N) (hNb : N ≤ 100000000000000) (hok : ∀ o ∈ l, OkO o) :
    Calls Try.prog 4 #[.int .i64 cap, .slice A N c] w (RetT w) := by
  by_cases hb : (cap < 1 ∨ cap > 4096) ∨ N > 80
  · exact latest_bad cap A N c w hb hNb
  · obtain ⟨m, rfl⟩ : ∃ m : Nat, cap = (m : Int) := ⟨cap.toNat, by omega⟩
    exact latest_good m A N c l w (by omega) (by omega) hA hN (by omega) hok

end Go.Proofs.Ytcjeclddpkinkaa
