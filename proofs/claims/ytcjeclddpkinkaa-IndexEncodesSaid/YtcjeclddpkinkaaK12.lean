/- The contract of the index's Decode. -/
import Derived.Test.YtcjeclddpkinkaaK11
import Derived.Test.YtcjeclddpkinkaaK5
import Derived.Deep.DeepCutAuto
set_option linter.unusedSimpArgs false
set_option linter.unusedVariables false
namespace Go.Proofs.Ytcjeclddpkinkaa
open Go.RowKit Go.ChangeMaps Ix

/-- the chunks that were seen, as the map has them -/
def seenF (L : List En) : Int → Option Value := fun c => if hasC L c then some (.bool true) else none
theorem seenF_snoc (L : List En) (p c : Int) : updF (seenF L) c (some (.bool true)) = seenF (L ++ [(p, c)]) := by
  funext c'
  unfold seenF
  by_cases h : c' = c
  · subst h
    rw [updF_same, if_pos]
    rw [hasC_iff]
    exact ⟨(p, c'), by simp, rfl⟩
  · rw [updF_other _ _ h]
    have e : hasC (L ++ [(p, c)]) c' = hasC L c' := by
      unfold hasC
      rw [List.any_append]
      have : ([(p, c)] : List En).any (fun x => x.2 == c') = false := by simp [Ne.symm h]
      rw [this, Bool.or_false]
    rw [e]
theorem seenF_nil : seenF [] = fun _ => none := rfl
theorem Try.und_seen : Try.prog.underlying 105 = some (.map 3 4) := by kernel_rfl
theorem Try.zero_bool (w : World) : (zeroValue 4).run Try.prog w = .ok (.bool false) w := by
  have h : (Try.prog.info? 4).map (·.zero) = some (some (.bool false)) := by kernel_rfl
  obtain ⟨i, hi, hz⟩ := Option.map_eq_some_iff.1 h
  simp [zeroValue, typeInfo, hi, hz]
section
variable {w : World} {ops : Array Oper} {rest : List Oper} {o : Oper} {a : Act} {Q : Exit → Act → World → Prop}
theorem wpList_seen (hgd : o.guard = none) (m x : Operand) (ho : o.op = .lookup 105 m x false) {r n : Nat} {L : List En} (h : MapAt w r (seenF L) n) {c : Int} (hc : (Lit.int .i64 c).wf = true) (hm : a.eval m = .map (some r)) (hx : a.eval x = .int .i64 c) {y : Bool} (hy : hasC L c = y)
    (hk : wpList Try.prog ops Q rest (a.put o.dst (.bool y)) w) : wpList Try.prog ops Q (o :: rest) a w := by
  refine wpList_value hgd ?_ hk
  unfold execOp
  rw [ho]
  have := run_look Try.und_seen Try.und_i h hc (Try.zero_bool w) false
  have e : (seenF L c).getD (.bool false) = .bool y := by unfold seenF; rw [hy]; cases y <;> rfl
  simp only [Bool.false_eq_true, if_false] at this
  rw [e] at this
  simp only [Sem.run_bind, Sem.run_pure, hm, hx, this, Result.andThen]
theorem wpList_see (hgd : o.guard = none) (m x v : Operand) (ho : o.op = .mapUpdate 105 m x v) {r n : Nat} {L : List En} (h : MapAt w r (seenF L) n) {p c : Int} (hc : (Lit.int .i64 c).wf = true) (hm : a.eval m = .map (some r)) (hx : a.eval x = .int .i64 c) (hv : a.eval v = .bool true)
    (hk : ∀ w' n', MapAt w' r (seenF (L ++ [(p, c)])) n' → w.grownBy w' (some r) → wpList Try.prog ops Q rest (a.put o.dst undef) w') : wpList Try.prog ops Q (o :: rest) a w := by
  obtain ⟨w', hr, h1, h2, _⟩ := run_upd Try.und_seen Try.und_i h hc (.bool true)
  rw [seenF_snoc L p c] at h1
  refine wpList_skip hgd (w' := w') ?_ (hk w' _ h1 h2)
  unfold execOp
  rw [ho]
  simp only [Sem.run_bind, Sem.run_pure, hm, hx, hv, hr, Result.andThen]
end
theorem MapAt.keep2 {w w' : World} {r n p q : Nat} {f : Int → Option Value} (h : MapAt w r f n) (k : Keep2 p q w w') (h1 : r ≠ p) (h2 : r ≠ q) : MapAt w' r f n := h.kept (k.block r h.lt h1 h2)
theorem MapAt.ext {w w' : World} {r n : Nat} {f : Int → Option Value} (h : MapAt w r f n) (k : Ext w w') : MapAt w' r f n := h.kept (k.block r h.lt)
theorem wf_num {lo hi : Int} {s : Rs} (h1 : -9223372036854775808 ≤ lo) (h2 : hi ≤ 9223372036854775807) : (Lit.int .i64 (numR lo hi s).1).wf = true := by
  have h3 : IntKind.i64.min = -9223372036854775808 := rfl
  have h4 : IntKind.i64.max = 9223372036854775807 := rfl
  have := numR_val lo hi s
  simp only [Lit.wf, Bool.and_eq_true, decide_eq_true_eq]
  omega

theorem Rdr.free {w : World} {B g ty : Nat} {s : Rs} (h : Rdr w B g ty s) : w.frozen? ⟨g, 1, none⟩ = false := by
  obtain ⟨A, c, h⟩ := h
  exact h.1.free 1
/-- what stands at the head of Decode's loop -/
structure DecSt (wr : World) (B g m base : Nat) (s : Rs) (L : List En) (v : Value) : Prop where
  rd : Rdr wr B g 103 s
  er : s.2 ≤ 6
  seen : ∃ cnt, MapAt wr m (seenF L) cnt
  row : OwnE wr base v L
  o1 : g < base
  o2 : m < base
  o3 : g ≠ m
  o4 : B ≤ m
section
variable {w w' : World} {B g m base : Nat} {s s' : Rs} {L : List En} {v : Value}
theorem DecSt.ext (h : DecSt w B g m base s L v) (k : Ext w w') : DecSt w' B g m base s L v := by
  obtain ⟨c, hs⟩ := h.seen
  exact ⟨h.rd.ext k, h.er, ⟨c, hs.ext k⟩, h.row.ext k, h.o1, h.o2, h.o3, h.o4⟩
theorem DecSt.num (h : DecSt w B g m base s L v) (k : Keep2 g g w w') (hr : Rdr w' B g 103 s') (he : s'.2 ≤ 6) : DecSt w' B g m base s' L v := by
  obtain ⟨c, hs⟩ := h.seen
  exact ⟨hr, he, ⟨c, hs.keep2 k (Ne.symm h.o3) (Ne.symm h.o3)⟩, h.row.keep k h.o1 h.o1, h.o1, h.o2, h.o3, h.o4⟩
theorem DecSt.see (h : DecSt w B g m base s L v) {p c : Int} {n' : Nat} (hm : MapAt w' m (seenF (L ++ [(p, c)])) n') (hg : w.grownBy w' (some m)) : Rdr w' B g 103 s ∧ OwnE w' base v L := by
  have k := (Keep2.refl m m w).grown hg
  exact ⟨h.rd.keep k h.o3 h.o3 h.o4 h.o4, h.row.keep k h.o2 h.o2⟩
end

set_option maxRecDepth 100000 in
set_option maxHeartbeats 8000000 in
theorem decode_calls (A : Option Addr) (N c : Nat) (l : List UInt8) (w : World) (hA : Rd w A (u8s l)) (hN : l.length = N) (hc : N ≤ c) (hm : c ≤ maxLen) (hNb : N ≤ 1000000) {er : Nat} {cap : Int} {FL : List En} (hd : decIx l = (er, cap, FL)) :
    Calls Try.prog 59 #[.slice A N c] w fun e w' => Ext w w' ∧ ((er ≠ 0 ∧ e = .returned (.tuple #[.pointer none, .int .i64 (er : Int)])) ∨ (er = 0 ∧ ∃ p r, e = .returned (.tuple #[.pointer (some ⟨p, 0, none⟩), .int .i64 0]) ∧ w.heap.size ≤ p ∧ w.heap.size ≤ r ∧ Ixd w' p r cap.toNat FL)) := by
  obtain ⟨W0, hW0⟩ : ∃ W, w.alloc (.cells #[.slice A N c, .int .i64 0] 103) = W := ⟨_, rfl⟩
  have E0 : Ext w W0 := hW0 ▸ (Ext.refl w).alloc _
  have e0 : W0.heap.size = w.heap.size + 1 := by rw [← hW0]; exact Array.size_push _
  have R0 : Rdr W0 w.heap.size w.heap.size 103 (l, 0) := by
    refine ⟨A, c, ?_, by simp only; omega, hm, by simp only; omega, (RdB.of hA).kept fun b hb => E0.block b hb, Nat.le_refl _⟩
    rw [← hW0]
    simp only [hN]
    exact Blk.new w [.slice A N c, .int .i64 ((0 : Nat) : Int)] 103
  obtain ⟨B, hB⟩ : ∃ B, w.heap.size = B := ⟨_, rfl⟩
  rw [hB] at R0 e0
  have HD := Lib.hid hd
  have HR0 := Lib.hid R0
  clear hd R0 hA hN
  go_enter Try.func59, Try.ntmps59
  go_wp2_with fail
  try simp only [hW0, hB]
  clear hW0
  refine (number_calls B B 1 4096 (l, 0) W0 HR0.out (Nat.zero_le _)).mono ?_
  rintro e w1 ⟨rfl, hr1, hk1⟩
  obtain ⟨cp, s1, h1⟩ : ∃ cp s1, numR 1 4096 (l, 0) = (cp, s1) := ⟨_, _, rfl⟩
  have hv1 := numR_val 1 4096 (l, 0)
  have he1 := numR_er 1 4096 (l, 0) (Nat.zero_le _)
  rw [h1] at hr1 hv1 he1
  rw [h1]
  simp only at hr1 hv1 he1 ⊢
  have E1 : Ext w w1 := E0.keep hk1 (by omega) (by omega)
  have HR1 := Lib.hid hr1; have H1 := Lib.hid h1
  clear hr1 hk1 h1 HR0
  go_wp2_with fail
  refine (number_calls B B 0 cp s1 w1 HR1.out he1).mono ?_
  rintro e w2 ⟨rfl, hr2, hk2⟩
  obtain ⟨n, s2, h2⟩ : ∃ n s2, numR 0 cp s1 = (n, s2) := ⟨_, _, rfl⟩
  have hv2 := numR_val 0 cp s1
  have he2 := numR_er 0 cp s1 he1
  rw [h2] at hr2 hv2 he2
  rw [h2]
  simp only at hr2 hv2 he2 ⊢
  have E2 : Ext w w2 := E1.keep hk2 (by omega) (by omega)
  have HR2 := Lib.hid hr2; have H2 := Lib.hid h2
  have hgl := hr2.lt
  obtain ⟨nn, rfl⟩ : ∃ nn : Nat, n = (nn : Int) := ⟨n.toNat, by omega⟩
  have hnn : nn ≤ 4096 := by omega
  clear hr2 hk2 h2 HR1 hv2
  have hmm := fun w => (@run_makeMap Try.prog 105 w)
  obtain ⟨W3, hW3⟩ : ∃ W, w2.alloc (.map #[] 0) = W := ⟨_, rfl⟩
  have e3 : W3.heap.size = w2.heap.size + 1 := by rw [← hW3]; exact Array.size_push _
  have F3 : Ext w2 W3 := hW3 ▸ (Ext.refl w2).alloc _
  have M3 : MapAt W3 w2.heap.size (seenF []) 0 := by rw [seenF_nil]; exact hW3 ▸ MapAt.new w2
  have E3 := E2.trans F3
  obtain ⟨m, hmE⟩ : ∃ m, w2.heap.size = m := ⟨_, rfl⟩
  rw [hmE] at M3 e3 hgl
  have D3 : DecSt W3 B B m (m + 1) s2 [] (.slice none 0 0) := ⟨HR2.out.ext F3, he2, ⟨0, M3⟩, World.ownsRow_nil _ _ _ _, by omega, by omega, by omega, by omega⟩
  have HD3 := Lib.hid D3
  clear D3 M3 F3 HR2
  go_wp2_with fail
  try simp only [hW3, hmE]
  clear hW3 hmm
  obtain ⟨FIN, hFIN⟩ : ∃ F, decLoop nn s2 [] = F := ⟨_, rfl⟩
  have HFIN := Lib.hid hFIN
  clear hFIN
  go_loopg [7, 9, 10] (nn + 1) (fun g v i x wr => ∃ (k : Nat) (s : Rs) (L : List En), i = .int .i64 (k : Int) ∧ k ≤ nn ∧ nn - k < g ∧ Hid (DecSt wr B B m (m + 1) s L v) ∧ Hid (L.length = k) ∧ Hid (decLoop (nn - k) s L = FIN) ∧ Ext w wr)
  case atStart => exact ⟨0, s2, [], rfl, by omega, by omega, HD3, Lib.hid rfl, Lib.hid HFIN.out, E3⟩
  case round =>
    obtain ⟨k, s, L, rfl, hk, hg, HS, HLK, HF, hE⟩ := hrel
    clear HD3 E3
    have hers := HS.out.rd.er
    by_cases hgo : k < nn ∧ s.2 = 0
    · obtain ⟨hkn, hs0⟩ := hgo
      rw [hs0] at hers
      have hkd : decide ((k : Int) < (nn : Int)) = true := by rw [decide_eq_true_iff]; omega
      have hkd' : decide (k < nn) = true := by rw [decide_eq_true_iff]; exact hkn
      have HF' : Hid (decLoop (nn - (k + 1)) (rnd s L).1 (rnd s L).2 = FIN) := Lib.hid (by
        have := HF.out
        rw [show nn - k = (nn - (k + 1)) + 1 by omega, decLoop_step hs0] at this
        exact this)
      have HF2 := HF'
      clear HF HF' hs0
      go_wp2_with fail
      refine (number_calls B B 0 4294967295 s wr HS.out.rd HS.out.er).mono ?_
      rintro e wa ⟨rfl, hra, hka⟩
      obtain ⟨p, sa, ha⟩ : ∃ p sa, numR 0 4294967295 s = (p, sa) := ⟨_, _, rfl⟩
      have hva := numR_val 0 4294967295 s
      have hea := numR_er 0 4294967295 s HS.out.er
      rw [ha] at hra hva hea
      rw [ha]
      simp only at hra hva hea ⊢
      have DA := HS.out.num hka hra hea
      have EA : Ext w wa := hE.keep hka (by omega) (by omega)
      have HDA := Lib.hid DA; have HA := Lib.hid ha
      have p0 : 0 ≤ p := by omega
      have p1 : p ≤ 4294967295 := by omega
      clear hra hka DA ha HS hers
      go_wp2_with fail
      refine (number_calls B B 1 65536 sa wa HDA.out.rd HDA.out.er).mono ?_
      rintro e wb ⟨rfl, hrb, hkb⟩
      obtain ⟨ch, sb, hb⟩ : ∃ c sb, numR 1 65536 sa = (c, sb) := ⟨_, _, rfl⟩
      have hvb := numR_val 1 65536 sa
      have heb := numR_er 1 65536 sa HDA.out.er
      have hwf := wf_num (lo := 1) (hi := 65536) (s := sa) (by omega) (by omega)
      rw [hb] at hrb hvb heb hwf
      rw [hb]
      simp only at hrb hvb heb hwf ⊢
      have DB := HDA.out.num hkb hrb heb
      have EB : Ext w wb := EA.keep hkb (by omega) (by omega)
      have hrn : rnd s L = (dupE L ch sb, L ++ [(p, ch)]) := by unfold rnd; rw [HA.out]; simp only; rw [hb]
      rw [hrn] at HF2
      simp only at HF2
      obtain ⟨W5, hW5⟩ : ∃ W, wb.alloc (.cells #[.int .u32 p, .int .i64 ch] 39) = W := ⟨_, rfl⟩
      obtain ⟨xb, hxb⟩ : ∃ n, wb.heap.size = n := ⟨_, rfl⟩
      have F5 : Ext wb W5 := hW5 ▸ (Ext.refl wb).alloc _
      have BX : Blk W5 xb 39 [.int .u32 p, .int .i64 ch] := by rw [← hxb]; exact hW5 ▸ Blk.new wb [.int .u32 p, .int .i64 ch] 39
      have D5 := DB.ext F5
      have E5 := EB.trans F5
      have hxbm : m < xb ∧ B < xb := by
        obtain ⟨cnt, hm'⟩ := DB.seen
        have := hm'.lt; have := DB.rd.lt; omega
      obtain ⟨eb', heb'⟩ : ∃ e, sb.2 = e := ⟨_, rfl⟩
      have er5 := D5.rd.er
      have fr5 := D5.rd.free
      rw [heb'] at er5
      have x1 := BX.cell 1
      have HD5 := Lib.hid D5; have HBX := Lib.hid BX; have HEB := Lib.hid heb'
      obtain ⟨cnt, hM5⟩ := D5.seen
      clear hrb hkb DB EB EA hb hrn D5 BX HDA HA heb' hva hvb hea heb hE F5
      obtain ⟨hd, hhd⟩ : ∃ h, hasC L ch = h := ⟨_, rfl⟩
      have HHD := Lib.hid hhd
      have hcase : eb' ≠ 0 ∨ (eb' = 0 ∧ hd = true) ∨ (eb' = 0 ∧ hd = false) := by
        rcases Nat.eq_zero_or_pos eb' with h | h
        · cases hd with
          | true => exact .inr (.inl ⟨h, rfl⟩)
          | false => exact .inr (.inr ⟨h, rfl⟩)
        · exact .inl (by omega)
      clear hhd
      rcases hcase with hz | ⟨hz, rfl⟩ | ⟨hz, rfl⟩
      · have hne : ((eb' : Int) == 0) = false := by rw [beq_eq_false_iff_ne]; omega
        have HZ := Lib.hid hz
        clear hz
        go_upto_region 12 with (first
          | ((with_reducible show wpList _ _ _ (⟨Option.none, .store _ _ _, _, _, _, _⟩ :: _) _ _); refine wpList_storeNew agg_en _ _ 39 rfl (.tmp 10) (.tmp 40) rfl (by first | rfl | (rw [hxb]; rfl)) [.int .u32 p, .int .i64 ch] rfl rfl rfl (by intro u hu; simp at hu; rcases hu with rfl | rfl <;> rfl) ?_)
          | fail)
        obtain ⟨W6, hW6⟩ : ∃ W, W5 = W := ⟨_, rfl⟩
        have HD6 : Hid (DecSt W6 B B m (m + 1) sb L u7) := hW6 ▸ HD5
        have HX6 : Hid (Blk W6 xb 39 [.int .u32 p, .int .i64 ch]) := hW6 ▸ HBX
        have E6 : Ext w W6 := hW6 ▸ E5
        obtain ⟨s6, hs6⟩ : ∃ s6, sb = s6 := ⟨_, rfl⟩
        have HF6 : Hid (decLoop (nn - (k + 1)) s6 (L ++ [(p, ch)]) = FIN) := Lib.hid (by
          have := HF2.out
          unfold dupE at this
          rw [if_neg (by rw [HEB.out]; exact fun h => HZ.out h.1), hs6] at this
          exact this)
        rw [hs6] at HD6
        try simp only [hW6]
        clear hW6 hs6 HD5 HBX E5
        obtain ⟨cnt6, hM6⟩ := HD6.out.seen
        have y0 := HX6.out.cell 0
        have y1 : W6.cell? ⟨xb, 1, none⟩ = some (.int .i64 ch) := HX6.out.cell 1
        have hLl := HLK.out
        go_wp2_with (first
          | ((with_reducible show wpList _ _ _ (⟨Option.none, .mapUpdate _ _ _ _, _, _, _, _⟩ :: _) _ _); go_must (refine wpList_see rfl (.tmp 55) (.tmp 57) _ rfl hM6 (p := p) hwf rfl rfl rfl ?_); intro W7 n7 hM7 hg7
             obtain ⟨hr7, ho7⟩ := HD6.out.see hM7 hg7
             have X7 := HX6.out.grown hg7 (fun e => by have := Option.some.inj e; omega)
             have E7 : Ext w W7 := E6.keep ((Keep2.refl m m W6).grown hg7) (by have := HD6.out.o4; omega) (by have := HD6.out.o4; omega)
             have HM7 := Lib.hid hM7; have HR7 := Lib.hid hr7; have HO7 := Lib.hid ho7; have HX7 := Lib.hid X7
             have hs7 : m + 1 ≤ W7.heap.size := by have := hM7.lt; omega
             clear y0 y1 hM7 hg7 hr7 ho7 X7)
          | ((with_reducible show wpList _ _ _ (⟨some 59, _, _, _, _, _⟩ :: _) _ _); go_must (refine wpList_loadAgg agg_en _ rfl (.tmp 10) rfl xb 0 rfl [.int .u32 p, .int .i64 ch] rfl (fun j u hu => by rw [Nat.zero_add, HX7.out.cell]; exact hu) ?_))
          | ((with_reducible show wpList _ _ _ (⟨some 61, _, _, _, _, _⟩ :: _) _ _); go_must (refine wpList_appEone W7 rfl (.tmp 58) (.tmp 60) rfl (m + 1) u7 L p ch rfl HO7.out rfl (by rw [hLl]; omega) hs7 ?_); intro v8 W8 ho8 hg8 hbel8
             have D8 : DecSt W8 B B m (m + 1) s6 (L ++ [(p, ch)]) v8 := by
               have hk8 := hbel8 (m + 1) W7 (Nat.le_refl _) (Below.refl _ _)
               exact ⟨HR7.out.kept (hk8.block B (by have := HD6.out.o1; omega)) fun b hb => hk8.block b (by have := HD6.out.o1; omega), HD6.out.er, ⟨_, HM7.out.kept (hk8.block m (by omega))⟩, ho8, HD6.out.o1, HD6.out.o2, HD6.out.o3, HD6.out.o4⟩
             have E8 : Ext w W8 := hbel8 _ _ (by have := HD6.out.o4; omega) E7
             have HD8 := Lib.hid D8
             clear D8 hg8 hbel8 ho8)
          | fail)
        go_roundg (nn - k)
        case measure => omega
        case rel => exact ⟨k + 1, s6, L ++ [(p, ch)], by go_num, by omega, by omega, HD8, Lib.hid (by rw [List.length_append, HLK.out]; rfl), HF6, E8⟩
      · subst hz
        go_upto_region 12 with (first
          | ((with_reducible show wpList _ _ _ (⟨Option.none, .store _ _ _, _, _, _, _⟩ :: _) _ _); refine wpList_storeNew agg_en _ _ 39 rfl (.tmp 10) (.tmp 40) rfl (by first | rfl | (rw [hxb]; rfl)) [.int .u32 p, .int .i64 ch] rfl rfl rfl (by intro u hu; simp at hu; rcases hu with rfl | rfl <;> rfl) ?_)
          | ((with_reducible show wpList _ _ _ (⟨some 50, _, _, _, _, _⟩ :: _) _ _); go_must (refine wpList_guarded rfl (wpList_seen rfl (.tmp 47) (.tmp 49) rfl hM5 hwf rfl rfl HHD.out ?_)))
          | fail)
        have D6 : DecSt (W5.setCell ⟨B, 1, none⟩ (.int .i64 ((6 : Nat) : Int))) B B m (m + 1) (sb.1, 6) L u7 :=
          HD5.out.num ((Keep2.refl B B W5).grown (grownBy_setCell _ _ _ _)) (HD5.out.rd.setE 6) (Nat.le_refl _)
        have BX6 := HBX.out.setOther (p := ⟨B, 1, none⟩) (show B ≠ xb by omega) (.int .i64 ((6 : Nat) : Int))
        have EX6 : Ext w (W5.setCell ⟨B, 1, none⟩ (.int .i64 ((6 : Nat) : Int))) := E5.keep ((Keep2.refl B B W5).grown (grownBy_setCell _ _ _ _)) (by omega) (by omega)
        obtain ⟨W6, hW6⟩ : ∃ W, W5.setCell ⟨B, 1, none⟩ (.int .i64 6) = W := ⟨_, rfl⟩
        rw [show (.int .i64 ((6 : Nat) : Int) : Value) = .int .i64 6 from rfl, hW6] at D6 BX6 EX6
        try simp only [hW6]
        have HD6 := Lib.hid D6; have HX6 := Lib.hid BX6
        have E6 := EX6
        obtain ⟨s6, hs6⟩ : ∃ s6 : Rs, (sb.1, 6) = s6 := ⟨_, rfl⟩
        have HF6 : Hid (decLoop (nn - (k + 1)) s6 (L ++ [(p, ch)]) = FIN) := Lib.hid (by
          have := HF2.out
          unfold dupE at this
          rw [if_pos ⟨HEB.out, HHD.out⟩, hs6] at this
          exact this)
        rw [hs6] at HD6
        clear D6 BX6 EX6
        try simp only [hW6]
        clear hW6 hs6 HD5 HBX E5
        obtain ⟨cnt6, hM6⟩ := HD6.out.seen
        have y0 := HX6.out.cell 0
        have y1 : W6.cell? ⟨xb, 1, none⟩ = some (.int .i64 ch) := HX6.out.cell 1
        have hLl := HLK.out
        go_wp2_with (first
          | ((with_reducible show wpList _ _ _ (⟨Option.none, .mapUpdate _ _ _ _, _, _, _, _⟩ :: _) _ _); go_must (refine wpList_see rfl (.tmp 55) (.tmp 57) _ rfl hM6 (p := p) hwf rfl rfl rfl ?_); intro W7 n7 hM7 hg7
             obtain ⟨hr7, ho7⟩ := HD6.out.see hM7 hg7
             have X7 := HX6.out.grown hg7 (fun e => by have := Option.some.inj e; omega)
             have E7 : Ext w W7 := E6.keep ((Keep2.refl m m W6).grown hg7) (by have := HD6.out.o4; omega) (by have := HD6.out.o4; omega)
             have HM7 := Lib.hid hM7; have HR7 := Lib.hid hr7; have HO7 := Lib.hid ho7; have HX7 := Lib.hid X7
             have hs7 : m + 1 ≤ W7.heap.size := by have := hM7.lt; omega
             clear y0 y1 hM7 hg7 hr7 ho7 X7)
          | ((with_reducible show wpList _ _ _ (⟨some 59, _, _, _, _, _⟩ :: _) _ _); go_must (refine wpList_loadAgg agg_en _ rfl (.tmp 10) rfl xb 0 rfl [.int .u32 p, .int .i64 ch] rfl (fun j u hu => by rw [Nat.zero_add, HX7.out.cell]; exact hu) ?_))
          | ((with_reducible show wpList _ _ _ (⟨some 61, _, _, _, _, _⟩ :: _) _ _); go_must (refine wpList_appEone W7 rfl (.tmp 58) (.tmp 60) rfl (m + 1) u7 L p ch rfl HO7.out rfl (by rw [hLl]; omega) hs7 ?_); intro v8 W8 ho8 hg8 hbel8
             have D8 : DecSt W8 B B m (m + 1) s6 (L ++ [(p, ch)]) v8 := by
               have hk8 := hbel8 (m + 1) W7 (Nat.le_refl _) (Below.refl _ _)
               exact ⟨HR7.out.kept (hk8.block B (by have := HD6.out.o1; omega)) fun b hb => hk8.block b (by have := HD6.out.o1; omega), HD6.out.er, ⟨_, HM7.out.kept (hk8.block m (by omega))⟩, ho8, HD6.out.o1, HD6.out.o2, HD6.out.o3, HD6.out.o4⟩
             have E8 : Ext w W8 := hbel8 _ _ (by have := HD6.out.o4; omega) E7
             have HD8 := Lib.hid D8
             clear D8 hg8 hbel8 ho8)
          | fail)
        go_roundg (nn - k)
        case measure => omega
        case rel => exact ⟨k + 1, s6, L ++ [(p, ch)], by go_num, by omega, by omega, HD8, Lib.hid (by rw [List.length_append, HLK.out]; rfl), HF6, E8⟩
      · subst hz
        go_upto_region 12 with (first
          | ((with_reducible show wpList _ _ _ (⟨Option.none, .store _ _ _, _, _, _, _⟩ :: _) _ _); refine wpList_storeNew agg_en _ _ 39 rfl (.tmp 10) (.tmp 40) rfl (by first | rfl | (rw [hxb]; rfl)) [.int .u32 p, .int .i64 ch] rfl rfl rfl (by intro u hu; simp at hu; rcases hu with rfl | rfl <;> rfl) ?_)
          | ((with_reducible show wpList _ _ _ (⟨some 50, _, _, _, _, _⟩ :: _) _ _); go_must (refine wpList_guarded rfl (wpList_seen rfl (.tmp 47) (.tmp 49) rfl hM5 hwf rfl rfl HHD.out ?_)))
          | fail)
        obtain ⟨W6, hW6⟩ : ∃ W, W5 = W := ⟨_, rfl⟩
        have HD6 : Hid (DecSt W6 B B m (m + 1) sb L u7) := hW6 ▸ HD5
        have HX6 : Hid (Blk W6 xb 39 [.int .u32 p, .int .i64 ch]) := hW6 ▸ HBX
        have E6 : Ext w W6 := hW6 ▸ E5
        obtain ⟨s6, hs6⟩ : ∃ s6, sb = s6 := ⟨_, rfl⟩
        have HF6 : Hid (decLoop (nn - (k + 1)) s6 (L ++ [(p, ch)]) = FIN) := Lib.hid (by
          have := HF2.out
          unfold dupE at this
          rw [if_neg (by rw [HHD.out]; simp), hs6] at this
          exact this)
        rw [hs6] at HD6
        try simp only [hW6]
        clear hW6 hs6 HD5 HBX E5
        obtain ⟨cnt6, hM6⟩ := HD6.out.seen
        have y0 := HX6.out.cell 0
        have y1 : W6.cell? ⟨xb, 1, none⟩ = some (.int .i64 ch) := HX6.out.cell 1
        have hLl := HLK.out
        go_wp2_with (first
          | ((with_reducible show wpList _ _ _ (⟨Option.none, .mapUpdate _ _ _ _, _, _, _, _⟩ :: _) _ _); go_must (refine wpList_see rfl (.tmp 55) (.tmp 57) _ rfl hM6 (p := p) hwf rfl rfl rfl ?_); intro W7 n7 hM7 hg7
             obtain ⟨hr7, ho7⟩ := HD6.out.see hM7 hg7
             have X7 := HX6.out.grown hg7 (fun e => by have := Option.some.inj e; omega)
             have E7 : Ext w W7 := E6.keep ((Keep2.refl m m W6).grown hg7) (by have := HD6.out.o4; omega) (by have := HD6.out.o4; omega)
             have HM7 := Lib.hid hM7; have HR7 := Lib.hid hr7; have HO7 := Lib.hid ho7; have HX7 := Lib.hid X7
             have hs7 : m + 1 ≤ W7.heap.size := by have := hM7.lt; omega
             clear y0 y1 hM7 hg7 hr7 ho7 X7)
          | ((with_reducible show wpList _ _ _ (⟨some 59, _, _, _, _, _⟩ :: _) _ _); go_must (refine wpList_loadAgg agg_en _ rfl (.tmp 10) rfl xb 0 rfl [.int .u32 p, .int .i64 ch] rfl (fun j u hu => by rw [Nat.zero_add, HX7.out.cell]; exact hu) ?_))
          | ((with_reducible show wpList _ _ _ (⟨some 61, _, _, _, _, _⟩ :: _) _ _); go_must (refine wpList_appEone W7 rfl (.tmp 58) (.tmp 60) rfl (m + 1) u7 L p ch rfl HO7.out rfl (by rw [hLl]; omega) hs7 ?_); intro v8 W8 ho8 hg8 hbel8
             have D8 : DecSt W8 B B m (m + 1) s6 (L ++ [(p, ch)]) v8 := by
               have hk8 := hbel8 (m + 1) W7 (Nat.le_refl _) (Below.refl _ _)
               exact ⟨HR7.out.kept (hk8.block B (by have := HD6.out.o1; omega)) fun b hb => hk8.block b (by have := HD6.out.o1; omega), HD6.out.er, ⟨_, HM7.out.kept (hk8.block m (by omega))⟩, ho8, HD6.out.o1, HD6.out.o2, HD6.out.o3, HD6.out.o4⟩
             have E8 : Ext w W8 := hbel8 _ _ (by have := HD6.out.o4; omega) E7
             have HD8 := Lib.hid D8
             clear D8 hg8 hbel8 ho8)
          | fail)
        go_roundg (nn - k)
        case measure => omega
        case rel => exact ⟨k + 1, s6, L ++ [(p, ch)], by go_num, by omega, by omega, HD8, Lib.hid (by rw [List.length_append, HLK.out]; rfl), HF6, E8⟩
    · have hfin : decLoop (nn - k) s L = (s, L) := by
        by_cases hs : s.2 = 0
        · have : nn - k = 0 := by omega
          rw [this]; rfl
        · exact decLoop_bad hs L
      rw [HF.out] at hfin
      have hdx : er = tailE s ∧ cap = cp ∧ FL = L := by
        have h := HD.out
        unfold decIx at h
        rw [H1.out] at h
        simp only at h
        rw [H2.out] at h
        simp only [Int.toNat_natCast] at h
        rw [HFIN.out, hfin] at h
        simp only [Prod.mk.injEq] at h
        exact ⟨h.1.symm, h.2.1.symm, h.2.2.symm⟩
      obtain ⟨her, rfl, rfl⟩ := hdx
      have hkg : k < nn → s.2 ≠ 0 := fun h h' => hgo ⟨h, h'⟩
      have HKG := Lib.hid hkg
      clear hgo hfin hkg HF HFIN H1 H2
      obtain ⟨As, cs, hbk, hlc, hcm2, hl6, hrs, hBg⟩ := HS.out.rd
      have q0 := hbk.cell 0
      have q1 := hbk.cell 1
      have f1 := hbk.free 1
      have HBK := Lib.hid hbk
      clear hbk hrs
      obtain ⟨ls, es⟩ := s
      simp only at q0 q1 hers hlc hl6
      have HHER := Lib.hid her
      obtain ⟨ns, hns⟩ : ∃ n, ls.length = n := ⟨_, rfl⟩
      rw [hns] at q0 hlc hl6
      have HNS := Lib.hid hns
      clear her hns
      by_cases hes : es = 0
      · subst hes
        have hkn : k = nn := by
          by_cases h : k < nn
          · exact absurd rfl (HKG.out h)
          · omega
        have hkd : decide ((k : Int) < (nn : Int)) = false := by rw [decide_eq_false_iff_not]; omega
        have hkd' : decide (k < nn) = false := by rw [decide_eq_false_iff_not]; omega
        by_cases hn0 : 0 < ns
        · have e6 : er = 6 := by rw [HHER.out]; unfold tailE; rw [if_pos ⟨rfl, by simp only; rw [HNS.out]; exact hn0⟩]
          have g1 : decide ((ns : Int) > 0) = true := by rw [decide_eq_true_iff]; omega
          have g2 : decide (0 < ns) = true := by rw [decide_eq_true_iff]; exact hn0
          have HE6 := Lib.hid e6
          clear hn0 e6
          go_wp2_with fail
          refine wp_region_quiet_lit (by kernel_rfl) (by kernel_rfl) ?_
          repeat (first | go_big_quiet_skip | (go_big_quiet_want; go_big_quiet_op; go_big_quiet_on))
          refine wpQuiet_nil ?_
          rintro _ ⟨nq, rfl⟩
          go_wp2
          go_ret2
          refine ⟨?_, .inl ⟨by rw [HE6.out]; decide, by rw [HE6.out]; rfl⟩⟩
          exact (hE.keep ((Keep2.refl B B wr).grown (grownBy_setCell _ _ _ _)) (by omega) (by omega)).drawn ((Drawn.refl _).step nq)
        · have hns0 : ns = 0 := by omega
          subst hns0
          have e0' : er = 0 := by rw [HHER.out]; unfold tailE; rw [if_neg (by simp only; rw [HNS.out]; simp)]
          obtain ⟨cm, hcm', hc1, hc2, hLc, hWf, _⟩ := decIx_ok (by rw [HD.out, e0'] : decIx l = (0, cap, FL))
          subst hcm'
          obtain ⟨wo, hwo⟩ : ∃ wo : World, wo = wr := ⟨_, rfl⟩
          subst hwo
          have hrow := HS.out.row
          obtain ⟨A7, c7, rfl, hc7, hm7, hr7⟩ := OwnE.slice hrow
          have HRW := Lib.hid (RdB.of hr7)
          obtain ⟨nL, hnL⟩ : ∃ n, FL.length = n := ⟨_, rfl⟩
          rw [hnL] at hLc hc7
          simp only [hnL]
          have HNL := Lib.hid hnL; have HW := Lib.hid hWf; have HE0 := Lib.hid e0'
          clear hrow hr7 hn0 e0' hWf hnL
          go_wp2_with fail
          refine (new_calls cm _ hc1 hc2).mono ?_
          rintro e w5 ⟨p', r', rfl, hp', hr', hx5, F5⟩
          have E5 := hE.trans F5
          have hBz : B < wo.heap.size := HS.out.rd.lt
          have RW5 := Lib.hid (HRW.out.kept fun b hb => F5.block b hb)
          go_wp2_with fail
          go_loopg [13] nL (fun g i wx => ∃ k : Nat, i = .int .i64 ((k : Int) - 1) ∧ k ≤ nL ∧ k ≤ g ∧ Ixd wx p' r' cm (FL.drop k) ∧ Ext w wx ∧ Hid (RdB wx wo.heap.size A7 (enCells FL)))
          case atStart => exact ⟨nL, by go_num, by omega, by omega, by rw [List.drop_of_length_le (by rw [HNL.out]; omega)]; exact hx5, E5, RW5⟩
          case round =>
            obtain ⟨k, rfl, hk, hg, hx, hE, HRX⟩ := hrel
            clear RW5 E5 hx5
            by_cases hk0 : k = 0
            · subst hk0
              have hz : ((((0 : Nat) : Int) - 1)) = -1 := by omega
              rw [List.drop_zero] at hx
              simp only [hz]
              go_wp2
              go_ret2
              exact ⟨hE, .inr ⟨HE0.out, p', r', rfl, by omega, by omega, by rw [Int.toNat_natCast]; exact hx⟩⟩
            · obtain ⟨j, rfl⟩ : ∃ j, k = j + 1 := ⟨k - 1, by omega⟩
              have hz : (((j + 1 : Nat) : Int) - 1) = (j : Int) := by omega
              have hjl : j < FL.length := by rw [HNL.out]; omega
              obtain ⟨b, o, rfl, hbb, hc⟩ := HRX.out (by rw [enCells_length]; omega)
              have k0 : wr.cell? ⟨b, o + j * 2, none⟩ = some (.int .u32 FL[j].1) := en_cell hjl hc 0 _ rfl
              have k1 : wr.cell? ⟨b, o + j * 2 + 1, none⟩ = some (.int .i64 FL[j].2) := en_cell hjl hc 1 _ rfl
              have hpf := put_front HW.out (by rw [HNL.out]; exact hLc) hjl
              have hok := HW.out.ok FL[j] (List.getElem_mem _)
              obtain ⟨y, hy⟩ : ∃ y, FL[j] = y := ⟨_, rfl⟩
              rw [hy] at k0 k1 hpf hok
              obtain ⟨y0, y1⟩ := y
              simp only at k0 k1 hpf
              have HPF := Lib.hid hpf; have HOK := Lib.hid hok; have HX3 := Lib.hid hx
              simp only [hz]
              clear hpf hok hx hc hy hz hk0 hjl
              go_wp2_with fail
              refine wp_region_still_tail 11 (by kernel_rfl) (by kernel_rfl) ?_
              simp only [List.take_succ_cons, List.take_zero, List.drop_succ_cons, List.drop_zero]
              obtain ⟨wd, hwd⟩ : ∃ W, wr.drew = W := ⟨_, rfl⟩
              have e2 : (World.mk wr.heap wr.tape (wr.drawn + 1) wr.os wr.output) = wd := hwd
              simp only [e2]
              have ED : Ext wr wd := hwd ▸ (Ext.refl wr).drew
              have d0 : wd.cell? ⟨b, o + j * 2, none⟩ = some (.int .u32 y0) := hwd ▸ k0
              have d1 : wd.cell? ⟨b, o + j * 2 + 1, none⟩ = some (.int .i64 y1) := hwd ▸ k1
              have HXD := Lib.hid (HX3.out.ext ED)
              have hEDx := hE.trans ED
              have HRD := Lib.hid (HRX.out.kept (w' := wd) fun b hb => by rw [← hwd]; rfl)
              clear hwd e2 k0 k1 ED
              have i1 : (0 : Int) ≤ (j : Int) := by omega
              have i2 : (j : Int) < (nL : Int) := by omega
              have i3 : ((j : Int)).toNat = j := by omega
              repeat still_step
              refine wpStill_nil ?_
              go_wp2_with fail
              refine (put_calls p' r' cm (FL.drop (j + 1)) y0 y1 wd HXD.out HOK.out).mono ?_
              rintro e w7 ⟨rfl, hx7, hk7⟩
              rw [HPF.out] at hx7
              have E7 := hEDx.keep hk7 (by omega) (by omega)
              have R7 := Lib.hid (HRD.out.kept fun b hb => hk7.block b (by have := HXD.out.1.lt; omega) (by omega) (by omega))
              clear hk7
              go_wp2_with fail
              go_roundg j
              case measure => omega
              case rel => exact ⟨j, by go_num, by omega, by omega, hx7, E7, R7⟩
      · have hne : ((es : Int) == 0) = false := by rw [beq_eq_false_iff_ne]; omega
        have hne2 : ((es : Int) != 0) = true := by rw [bne_iff_ne]; omega
        have e6 : er = es := by rw [HHER.out]; unfold tailE; rw [if_neg (fun h => hes h.1)]
        have HE6 := Lib.hid e6; have HES := Lib.hid hes
        clear hes e6
        by_cases hkn : k < nn
        · have hkd : decide ((k : Int) < (nn : Int)) = true := by rw [decide_eq_true_iff]; omega
          have hkd' : decide (k < nn) = true := by rw [decide_eq_true_iff]; exact hkn
          go_wp2_with fail
          refine wp_region_quiet_lit (by kernel_rfl) (by kernel_rfl) ?_
          repeat (first | go_big_quiet_skip | (go_big_quiet_want; go_big_quiet_op; go_big_quiet_on))
          refine wpQuiet_nil ?_
          rintro _ ⟨nq, rfl⟩
          go_wp2
          go_ret2
          exact ⟨hE.drawn ((Drawn.refl _).step nq), .inl ⟨by rw [HE6.out]; exact HES.out, by rw [HE6.out]; rfl⟩⟩
        · have hkd : decide ((k : Int) < (nn : Int)) = false := by rw [decide_eq_false_iff_not]; omega
          have hkd' : decide (k < nn) = false := by rw [decide_eq_false_iff_not]; exact hkn
          go_wp2_with fail
          refine wp_region_quiet_lit (by kernel_rfl) (by kernel_rfl) ?_
          repeat (first | go_big_quiet_skip | (go_big_quiet_want; go_big_quiet_op; go_big_quiet_on))
          refine wpQuiet_nil ?_
          rintro _ ⟨nq, rfl⟩
          go_wp2
          go_ret2
          exact ⟨hE.drawn ((Drawn.refl _).step nq), .inl ⟨by rw [HE6.out]; exact HES.out, by rw [HE6.out]; rfl⟩⟩

end Go.Proofs.Ytcjeclddpkinkaa
