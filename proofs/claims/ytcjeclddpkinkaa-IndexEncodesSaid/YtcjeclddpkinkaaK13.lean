/- The contract of the reference's Decode. -/
import Derived.Test.YtcjeclddpkinkaaK12
set_option linter.unusedSimpArgs false
set_option linter.unusedVariables false
namespace Go.Proofs.Ytcjeclddpkinkaa
open Go.RowKit Go.ChangeMaps Ix

namespace Ix
theorem dupE_nil (c : Int) (s : Rs) : dupE [] c s = s := by unfold dupE; rw [if_neg (by simp [hasC])]
theorem dupE_snoc (L : List En) (x : En) (c : Int) (s : Rs) : dupE (L ++ [x]) c s = if (dupE L c s).2 = 0 ∧ x.2 = c then (s.1, 6) else dupE L c s := by
  have e : hasC (L ++ [x]) c = (hasC L c || (x.2 == c)) := by simp [hasC]
  unfold dupE
  rw [e]
  by_cases h0 : s.2 = 0
  · cases hL : hasC L c with
    | true => simp [h0]
    | false =>
      by_cases hx : x.2 = c
      · simp [h0, hx]
      · simp [h0, hx]
  · simp [h0]
theorem dupE_er {L : List En} {c : Int} {s : Rs} (h : s.2 ≤ 6) : (dupE L c s).2 ≤ 6 := by
  unfold dupE
  split
  · exact Nat.le_refl _
  · exact h
theorem dupE_fst (L : List En) (c : Int) (s : Rs) : (dupE L c s).1 = s.1 := by
  unfold dupE
  split <;> rfl
end Ix

theorem own_slice_rd {w : World} {base n c : Nat} {A : Option Addr} {L : List En} (h : w.ownsRow base 39 2 (.slice A n c) L.length (enCells L)) : Rd w A (enCells L) := by
  obtain ⟨A', c', e, _, _, hr⟩ := own_slice h
  simp only [Value.slice.injEq] at e
  obtain ⟨rfl, _, _⟩ := e
  exact hr
theorem blk_keep {a b : World} {g p r : Nat} {t : TypeId} {cs : List Value} (h : Blk a g t cs) (k : Keep2 p r a b) (h1 : g ≠ p) (h2 : g ≠ r) : Blk b g t cs := (k.block g h.lt h1 h2).trans h
/-- what stands at the head of the loop -/
structure RefSt (wr : World) (B cap : Nat) (s : Rs) (L : List En) (A : Option Addr) (c : Nat) : Prop where
  rd : Rdr wr B B 108 s
  er : s.2 ≤ 6
  blk : Blk wr (B + 1) 80 [.int .i64 (cap : Int), .slice A L.length c]
  row : OwnE wr (B + 2) (.slice A L.length c) L
section
variable {w w' : World} {B cap c : Nat} {s s' : Rs} {L : List En} {A : Option Addr}
theorem RefSt.num (h : RefSt w B cap s L A c) (k : Keep2 B B w w') (hr : Rdr w' B B 108 s') (he : s'.2 ≤ 6) : RefSt w' B cap s' L A c :=
  ⟨hr, he, blk_keep h.blk k (by omega) (by omega), h.row.keep k (by omega) (by omega)⟩
end

set_option maxRecDepth 100000 in
set_option maxHeartbeats 8000000 in
theorem refdecode_calls (A : Option Addr) (N c : Nat) (l : List UInt8) (w : World) (hA : Rd w A (u8s l)) (hN : l.length = N) (hc : N ≤ c) (hm : c ≤ maxLen) (hNb : N ≤ 1000000) {er : Nat} {cap : Int} {FL : List En} (hd : decIx l = (er, cap, FL)) :
    Calls Try.prog 61 #[.slice A N c] w fun e w' => Ext w w' ∧ ((er ≠ 0 ∧ e = .returned (.tuple #[.pointer none, .int .i64 (er : Int)])) ∨ (er = 0 ∧ ∃ q, e = .returned (.tuple #[.pointer (some ⟨q, 0, none⟩), .int .i64 0]) ∧ w.heap.size ≤ q ∧ Rix w' w.heap.size q cap.toNat FL)) := by
  obtain ⟨W0, hW0⟩ : ∃ W, (w.alloc (.cells #[.slice A N c, .int .i64 0] 108)).alloc (.cells #[.int .i64 0, .slice none 0 0] 80) = W := ⟨_, rfl⟩
  have E0 : Ext w W0 := hW0 ▸ ((Ext.refl w).alloc _).alloc _
  have e0 : W0.heap.size = w.heap.size + 2 := by rw [← hW0]; show (Array.push (Array.push _ _) _).size = _; simp
  have R0 : Rdr W0 w.heap.size w.heap.size 108 (l, 0) := by
    refine ⟨A, c, ?_, by simp only; omega, hm, by simp only; omega, (RdB.of hA).kept fun b hb => E0.block b hb, Nat.le_refl _⟩
    rw [← hW0]
    simp only [hN]
    exact (Blk.new w [.slice A N c, .int .i64 ((0 : Nat) : Int)] 108).alloc _
  have B0 : Blk W0 (w.heap.size + 1) 80 [.int .i64 0, .slice none 0 0] := by
    rw [← hW0]
    have h := Blk.new (w.alloc (.cells #[.slice A N c, .int .i64 0] 108)) [.int .i64 0, .slice none 0 0] 80
    have e1 : (w.alloc (.cells #[.slice A N c, .int .i64 0] 108)).heap.size = w.heap.size + 1 := Array.size_push _
    rw [e1] at h
    exact h
  obtain ⟨B, hB⟩ : ∃ B, w.heap.size = B := ⟨_, rfl⟩
  rw [hB] at R0 e0 B0
  have HD := Lib.hid hd
  have HR0 := Lib.hid R0; have HB0 := Lib.hid B0
  clear hd R0 hA hN B0
  go_enter Try.func61, Try.ntmps61
  go_wp2_with fail
  try simp only [hW0, hB]
  clear hW0
  refine (refnumber_calls B B 1 4096 (l, 0) W0 HR0.out (Nat.zero_le _)).mono ?_
  rintro e w1 ⟨rfl, hr1, hk1⟩
  obtain ⟨cp, s1, h1⟩ : ∃ cp s1, numR 1 4096 (l, 0) = (cp, s1) := ⟨_, _, rfl⟩
  have hv1 := numR_val 1 4096 (l, 0)
  have he1 := numR_er 1 4096 (l, 0) (Nat.zero_le _)
  rw [h1] at hr1 hv1 he1
  rw [h1]
  simp only at hr1 hv1 he1 ⊢
  obtain ⟨cn, rfl⟩ : ∃ cn : Nat, cp = (cn : Int) := ⟨cp.toNat, by omega⟩
  have E1 : Ext w w1 := E0.keep hk1 (by omega) (by omega)
  have B1 := blk_keep HB0.out hk1 (show B + 1 ≠ B by omega) (by omega)
  have x0 := B1.cell 0
  have y0 := B1.free 0
  have HR1 := Lib.hid hr1; have H1 := Lib.hid h1; have HB1 := Lib.hid B1
  clear hr1 hk1 h1 HR0 HB0 B1
  go_wp2_with fail
  have B2 : Blk (w1.setCell ⟨B + 1, 0, none⟩ (.int .i64 (cn : Int))) (B + 1) 80 [.int .i64 (cn : Int), .slice none 0 0] := HB1.out.set 0 _
  have R2 : Rdr (w1.setCell ⟨B + 1, 0, none⟩ (.int .i64 (cn : Int))) B B 108 s1 := HR1.out.keep ((Keep2.refl (B + 1) (B + 1) w1).grown (grownBy_setCell _ _ _ _)) (by omega) (by omega) (by omega) (by omega)
  have E2 : Ext w (w1.setCell ⟨B + 1, 0, none⟩ (.int .i64 (cn : Int))) := E1.keep ((Keep2.refl (B + 1) (B + 1) w1).grown (grownBy_setCell _ _ _ _)) (by omega) (by omega)
  obtain ⟨W2, hW2⟩ : ∃ W, w1.setCell ⟨B + 1, 0, none⟩ (.int .i64 (cn : Int)) = W := ⟨_, rfl⟩
  rw [hW2] at B2 R2 E2
  simp only [hW2]
  refine (refnumber_calls B B 0 (cn : Int) s1 W2 R2 he1).mono ?_
  rintro e w3 ⟨rfl, hr3, hk3⟩
  obtain ⟨n, s2, h2⟩ : ∃ n s2, numR 0 (cn : Int) s1 = (n, s2) := ⟨_, _, rfl⟩
  have hv2 := numR_val 0 (cn : Int) s1
  have he2 := numR_er 0 (cn : Int) s1 he1
  rw [h2] at hr3 hv2 he2
  rw [h2]
  simp only at hr3 hv2 he2 ⊢
  have E3 : Ext w w3 := E2.keep hk3 (by omega) (by omega)
  have B3 := blk_keep B2 hk3 (show B + 1 ≠ B by omega) (by omega)
  obtain ⟨nn, rfl⟩ : ∃ nn : Nat, n = (nn : Int) := ⟨n.toNat, by omega⟩
  have hnn : nn ≤ 4096 := by omega
  have D3 : RefSt w3 B cn s2 [] none 0 := ⟨hr3, he2, B3, World.ownsRow_nil _ _ _ _⟩
  have HD3 := Lib.hid D3; have H2 := Lib.hid h2
  clear D3 B3 hr3 hk3 B2 R2 hW2 x0 y0 hv2 h2 HR1 HB1 E1 E2
  go_wp2_with fail
  obtain ⟨FIN, hFIN⟩ : ∃ F, decLoop nn s2 [] = F := ⟨_, rfl⟩
  have HFIN := Lib.hid hFIN
  clear hFIN
  go_loopg [7, 8, 9, 10] (nn + 1) (fun g i u8 u9 u10 wr => ∃ (k : Nat) (s : Rs) (L : List En) (A : Option Addr) (c : Nat), i = .int .i64 (k : Int) ∧ k ≤ nn ∧ nn - k < g ∧ Hid (RefSt wr B cn s L A c) ∧ Hid (L.length = k) ∧ Hid (decLoop (nn - k) s L = FIN) ∧ Ext w wr)
  case atStart => exact ⟨0, s2, [], none, 0, rfl, by omega, by omega, HD3, Lib.hid rfl, Lib.hid HFIN.out, E3⟩
  case round =>
    obtain ⟨k, s, L, AL, cL, rfl, hk, hg, HS, HLK, HF, hE⟩ := hrel
    clear HD3 E3
    have hers := HS.out.rd.er
    by_cases hgo : k < nn ∧ s.2 = 0
    · obtain ⟨hkn, hs0⟩ := hgo
      rw [hs0] at hers
      have hkd : decide ((k : Int) < (nn : Int)) = true := by rw [decide_eq_true_iff]; omega
      have hkd' : decide (k < nn) = true := by rw [decide_eq_true_iff]; exact hkn
      have HF2 : Hid (decLoop (nn - (k + 1)) (rnd s L).1 (rnd s L).2 = FIN) := Lib.hid (by
        have := HF.out
        rw [show nn - k = (nn - (k + 1)) + 1 by omega, decLoop_step hs0] at this
        exact this)
      clear HF hs0
      go_wp2_with fail
      refine (refnumber_calls B B 0 4294967295 s wr HS.out.rd HS.out.er).mono ?_
      rintro e wa ⟨rfl, hra, hka⟩
      obtain ⟨p, sa, ha⟩ : ∃ p sa, numR 0 4294967295 s = (p, sa) := ⟨_, _, rfl⟩
      have hva := numR_val 0 4294967295 s
      have hea := numR_er 0 4294967295 s HS.out.er
      rw [ha] at hra hva hea
      rw [ha]
      simp only at hra hva hea ⊢
      have DA := HS.out.num hka hra hea
      have EA : Ext w wa := hE.keep hka (by omega) (by omega)
      have HDA := Lib.hid DA; have HA := Lib.hid ha
      have p0 : 0 ≤ p := by omega
      have p1 : p ≤ 4294967295 := by omega
      clear hra hka DA ha HS hers
      go_wp2_with fail
      refine (refnumber_calls B B 1 65536 sa wa HDA.out.rd HDA.out.er).mono ?_
      rintro e wb ⟨rfl, hrb, hkb⟩
      obtain ⟨ch, sb, hb⟩ : ∃ c sb, numR 1 65536 sa = (c, sb) := ⟨_, _, rfl⟩
      have heb := numR_er 1 65536 sa HDA.out.er
      rw [hb] at hrb heb
      rw [hb]
      simp only at hrb heb ⊢
      have DB := HDA.out.num hkb hrb heb
      have EB : Ext w wb := EA.keep hkb (by omega) (by omega)
      have hrn : rnd s L = (dupE L ch sb, L ++ [(p, ch)]) := by unfold rnd; rw [HA.out]; simp only; rw [hb]
      rw [hrn] at HF2
      simp only at HF2
      have HDB := Lib.hid DB
      have hde : (dupE L ch sb).2 ≤ 6 := dupE_er heb
      clear hrb hkb DB EA hb hrn HDA HA hva hea hE heb
      obtain ⟨wo, hwo⟩ : ∃ wo : World, wo = wb := ⟨_, rfl⟩
      subst hwo
      have hLk := HLK.out
      go_wp2_with fail
      go_loopg [10] (k + 1) (fun g i wx => ∃ j : Nat, i = .int .i64 (j : Int) ∧ j ≤ k ∧ k - j < g ∧ Hid (RefSt wx B cn (dupE (L.take j) ch sb) L AL cL) ∧ Ext w wx)
      case atStart => exact ⟨0, rfl, by omega, by omega, by rw [List.take_zero, dupE_nil]; exact HDB, EB⟩
      case round =>
        obtain ⟨j, rfl, hj, hgj, HX, hEx⟩ := hrel
        have hk1 : k ≤ 4096 := by omega
        have q1 : wr.cell? ⟨B + 1, 1, none⟩ = some (.slice AL k cL) := by have := HX.out.blk.cell 1; rw [hLk] at this; exact this
        have qf := HX.out.blk.free 1
        have er1 := HX.out.rd.er
        have fr1 := HX.out.rd.free
        obtain ⟨ej, hej⟩ : ∃ e, (dupE (L.take j) ch sb).2 = e := ⟨_, rfl⟩
        rw [hej] at er1
        have HEJ := Lib.hid hej
        clear hej HDB EB
        by_cases hjk : j < k
        · have hjl : j < L.length := by omega
          obtain ⟨b, o, hAb, hc⟩ := own_slice_rd HX.out.row (by rw [enCells_length]; omega)
          subst hAb
          have k1 : wr.cell? ⟨b, o + j * 2 + 1, none⟩ = some (.int .i64 L[j].2) := en_cell hjl hc 1 _ rfl
          have htj := en_take hjl
          have hdd := dupE_snoc (L.take j) L[j] ch sb
          rw [← htj, HEJ.out] at hdd
          obtain ⟨y, hy⟩ : ∃ y, L[j].2 = y := ⟨_, rfl⟩
          rw [hy] at k1 hdd
          have HDDJ := Lib.hid hdd
          have i1 : (0 : Int) ≤ (j : Int) := by omega
          have i2 : (j : Int) < (k : Int) := by omega
          clear hc htj hy hdd
          by_cases hz : ej = 0
          · subst hz
            by_cases hx : y = ch
            · have g1 : (y == ch) = true := by rw [beq_iff_eq]; exact hx
              have e2 : dupE (L.take (j + 1)) ch sb = (sb.1, 6) := by rw [HDDJ.out, if_pos ⟨rfl, hx⟩]
              have HE2 := Lib.hid e2
              clear hx e2
              go_wp2
              have D6 : RefSt (wr.setCell ⟨B, 1, none⟩ (.int .i64 ((6 : Nat) : Int))) B cn ((dupE (L.take j) ch sb).1, 6) L (some ⟨b, o, none⟩) cL := HX.out.num ((Keep2.refl B B wr).grown (grownBy_setCell _ _ _ _)) (HX.out.rd.setE 6) (Nat.le_refl _)
              rw [dupE_fst] at D6
              have E6 := hEx.keep ((Keep2.refl B B wr).grown (grownBy_setCell wr B 1 (.int .i64 6))) (by omega) (by omega)
              go_roundg (k - j)
              case measure => omega
              case rel => exact ⟨j + 1, by go_num, by omega, by omega, Lib.hid (by rw [HE2.out]; exact D6), E6⟩
            · have g1 : (y == ch) = false := by rw [beq_eq_false_iff_ne]; exact hx
              have e2 : dupE (L.take (j + 1)) ch sb = dupE (L.take j) ch sb := by rw [HDDJ.out, if_neg (fun h => hx h.2)]
              have HE2 := Lib.hid e2
              clear hx e2
              go_wp2
              go_roundg (k - j)
              case measure => omega
              case rel => exact ⟨j + 1, by go_num, by omega, by omega, by rw [HE2.out]; exact HX, hEx⟩
          · have g1 : ((ej : Int) == 0) = false := by rw [beq_eq_false_iff_ne]; omega
            have e2 : dupE (L.take (j + 1)) ch sb = dupE (L.take j) ch sb := by rw [HDDJ.out, if_neg (fun h => hz h.1)]
            have HE2 := Lib.hid e2
            clear hz e2
            go_wp2
            go_roundg (k - j)
            case measure => omega
            case rel => exact ⟨j + 1, by go_num, by omega, by omega, by rw [HE2.out]; exact HX, hEx⟩
        · have hjk' : j = k := by omega
          subst hjk'
          have HX2 : Hid (RefSt wr B cn (dupE L ch sb) L AL cL) := Lib.hid (by have := HX.out; rw [List.take_of_length_le (by omega)] at this; exact this)
          have HOW : Hid (OwnE wr (B + 2) (.slice AL j cL) L) := Lib.hid (by have := HX2.out.row; rw [hLk] at this; exact this)
          have hs2 : B + 2 ≤ wr.heap.size := by have := HX2.out.blk.lt; omega
          go_wp2_with (first
            | ((with_reducible show wpList _ _ _ (⟨some 82, _, _, _, _, _⟩ :: _) _ _); go_must (refine wpList_appEone wr rfl (.tmp 76) (.tmp 81) rfl (B + 2) (.slice AL j cL) L p ch rfl HOW.out rfl (by rw [hLk]; omega) hs2 ?_); intro v8 W8 ho8 hg8 hbel8
               have hk8 := hbel8 (B + 2) wr (Nat.le_refl _) (Below.refl _ _)
               have b8 : Blk W8 (B + 1) 80 [.int .i64 (cn : Int), .slice AL L.length cL] := (hk8.block (B + 1) (by omega)).trans HX2.out.blk
               have r8 : Rdr W8 B B 108 (dupE L ch sb) := HX2.out.rd.kept (hk8.block B (by omega)) fun b hb => hk8.block b (by omega)
               have E8 : Ext w W8 := hbel8 _ _ (by omega) hEx
               obtain ⟨A9, c9, rfl, hc9, hm9, hr9⟩ := OwnE.slice ho8
               have f8 := b8.free 1
               have q8 := b8.cell 1
               have HB8 := Lib.hid b8; have HR8 := Lib.hid r8; have HO8 := Lib.hid ho8
               clear hg8 hbel8 hk8 b8 r8 ho8 hr9 q1 qf er1 fr1)
            | fail)
          have hl9 : (L ++ [(p, ch)]).length = j + 1 := by rw [List.length_append, hLk]; rfl
          have D9 : RefSt (W8.setCell ⟨B + 1, 1, none⟩ (.slice A9 (L ++ [(p, ch)]).length c9)) B cn (dupE L ch sb) (L ++ [(p, ch)]) A9 c9 := by
            have kk := (Keep2.refl (B + 1) (B + 1) W8).grown (grownBy_setCell W8 (B + 1) 1 (.slice A9 (L ++ [(p, ch)]).length c9))
            exact ⟨HR8.out.keep kk (by omega) (by omega) (by omega) (by omega), hde, HB8.out.set 1 _, HO8.out.keep kk (by omega) (by omega)⟩
          have E9 := E8.keep ((Keep2.refl (B + 1) (B + 1) W8).grown (grownBy_setCell W8 (B + 1) 1 (.slice A9 (L ++ [(p, ch)]).length c9))) (by omega) (by omega)
          rw [hl9] at E9
          rw [show (Value.slice A9 (L ++ [(p, ch)]).length c9) = .slice A9 (j + 1) c9 by rw [hl9]] at D9
          have HD9 := Lib.hid D9; have HL9 := Lib.hid hl9
          clear D9 hl9
          go_roundg (nn - j)
          case measure => omega
          case rel => exact ⟨j + 1, dupE L ch sb, L ++ [(p, ch)], A9, c9, by go_num, by omega, by omega, HD9, HL9, HF2, E9⟩
    · have hfin : decLoop (nn - k) s L = (s, L) := by
        by_cases hs : s.2 = 0
        · have : nn - k = 0 := by omega
          rw [this]; rfl
        · exact decLoop_bad hs L
      rw [HF.out] at hfin
      have hdx : er = tailE s ∧ cap = (cn : Int) ∧ FL = L := by
        have h := HD.out
        unfold decIx at h
        rw [H1.out] at h
        simp only at h
        rw [H2.out] at h
        simp only [Int.toNat_natCast] at h
        rw [HFIN.out, hfin] at h
        simp only [Prod.mk.injEq] at h
        exact ⟨h.1.symm, h.2.1.symm, h.2.2.symm⟩
      obtain ⟨her, rfl, rfl⟩ := hdx
      have hkg : k < nn → s.2 ≠ 0 := fun h h' => hgo ⟨h, h'⟩
      have HKG := Lib.hid hkg
      clear hgo hfin hkg HF HFIN H1 H2
      obtain ⟨As, cs, hbk, hlc, hcm2, hl6, hrs, hBg⟩ := HS.out.rd
      have q0 := hbk.cell 0
      have q1 := hbk.cell 1
      have f1 := hbk.free 1
      have HBK := Lib.hid hbk
      clear hbk hrs
      obtain ⟨ls, es⟩ := s
      simp only at q0 q1 hers hlc hl6
      have HHER := Lib.hid her
      obtain ⟨ns, hns⟩ : ∃ n, ls.length = n := ⟨_, rfl⟩
      rw [hns] at q0 hlc hl6
      have HNS := Lib.hid hns
      clear her hns
      by_cases hes : es = 0
      · subst hes
        have hkn : k = nn := by
          by_cases h : k < nn
          · exact absurd rfl (HKG.out h)
          · omega
        have hkd : decide ((k : Int) < (nn : Int)) = false := by rw [decide_eq_false_iff_not]; omega
        have hkd' : decide (k < nn) = false := by rw [decide_eq_false_iff_not]; omega
        by_cases hn0 : 0 < ns
        · have e6 : er = 6 := by rw [HHER.out]; unfold tailE; rw [if_pos ⟨rfl, by simp only; rw [HNS.out]; exact hn0⟩]
          have g1 : decide ((ns : Int) > 0) = true := by rw [decide_eq_true_iff]; omega
          have g2 : decide (0 < ns) = true := by rw [decide_eq_true_iff]; exact hn0
          have HE6 := Lib.hid e6
          clear hn0 e6
          go_wp2_with fail
          refine wp_region_quiet_lit (by kernel_rfl) (by kernel_rfl) ?_
          repeat (first | go_big_quiet_skip | (go_big_quiet_want; go_big_quiet_op; go_big_quiet_on))
          refine wpQuiet_nil ?_
          rintro _ ⟨nq, rfl⟩
          go_wp2
          go_ret2
          refine ⟨?_, .inl ⟨by rw [HE6.out]; decide, by rw [HE6.out]; rfl⟩⟩
          exact (hE.keep ((Keep2.refl B B wr).grown (grownBy_setCell _ _ _ _)) (by omega) (by omega)).drawn ((Drawn.refl _).step nq)
        · have hns0 : ns = 0 := by omega
          subst hns0
          have e0' : er = 0 := by rw [HHER.out]; unfold tailE; rw [if_neg (by simp only; rw [HNS.out]; simp)]
          have HE0 := Lib.hid e0'
          clear hn0 e0'
          go_wp2
          go_ret2
          refine ⟨hE, .inr ⟨HE0.out, B + 1, rfl, by omega, ?_⟩⟩
          obtain ⟨A9, c9, e9, hc9, hm9, hr9⟩ := OwnE.slice HS.out.row
          simp only [Value.slice.injEq, true_and] at e9
          obtain ⟨rfl, rfl⟩ := e9
          try rw [Int.toNat_natCast]
          refine ⟨AL, cL, HS.out.blk, hc9, hm9, hr9, fun b o e => ?_⟩
          subst e
          rcases HS.out.row.2 with ⟨h1, _⟩ | ⟨g, cap', cur, h1, h2, _⟩
          · simp at h1
          · simp only [Value.slice.injEq, Option.some.injEq, Addr.mk.injEq] at h1
            omega
      · have hne : ((es : Int) == 0) = false := by rw [beq_eq_false_iff_ne]; omega
        have hne2 : ((es : Int) != 0) = true := by rw [bne_iff_ne]; omega
        have e6 : er = es := by rw [HHER.out]; unfold tailE; rw [if_neg (fun h => hes h.1)]
        have HE6 := Lib.hid e6; have HES := Lib.hid hes
        clear hes e6
        by_cases hkn : k < nn
        · have hkd : decide ((k : Int) < (nn : Int)) = true := by rw [decide_eq_true_iff]; omega
          have hkd' : decide (k < nn) = true := by rw [decide_eq_true_iff]; exact hkn
          go_wp2_with fail
          refine wp_region_quiet_lit (by kernel_rfl) (by kernel_rfl) ?_
          repeat (first | go_big_quiet_skip | (go_big_quiet_want; go_big_quiet_op; go_big_quiet_on))
          refine wpQuiet_nil ?_
          rintro _ ⟨nq, rfl⟩
          go_wp2
          go_ret2
          exact ⟨hE.drawn ((Drawn.refl _).step nq), .inl ⟨by rw [HE6.out]; exact HES.out, by rw [HE6.out]; rfl⟩⟩
        · have hkd : decide ((k : Int) < (nn : Int)) = false := by rw [decide_eq_false_iff_not]; omega
          have hkd' : decide (k < nn) = false := by rw [decide_eq_false_iff_not]; exact hkn
          go_wp2_with fail
          refine wp_region_quiet_lit (by kernel_rfl) (by kernel_rfl) ?_
          repeat (first | go_big_quiet_skip | (go_big_quiet_want; go_big_quiet_op; go_big_quiet_on))
          refine wpQuiet_nil ?_
          rintro _ ⟨nq, rfl⟩
          go_wp2
          go_ret2
          exact ⟨hE.drawn ((Drawn.refl _).step nq), .inl ⟨by rw [HE6.out]; exact HES.out, by rw [HE6.out]; rfl⟩⟩

end Go.Proofs.Ytcjeclddpkinkaa
