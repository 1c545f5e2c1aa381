/- The contract of join. -/
import Derived.Test.YtcjeclddpkinkaaI2
set_option linter.unusedSimpArgs false
set_option linter.unusedVariables false
namespace Go.Proofs.Ytcjeclddpkinkaa
open Go.RowKit Go.ChangeMaps

/-- what join makes of the links, of the first, of the last -/
def joinA (f : Int → Option Lk) (b a : Int) : Int → Option Lk := match f b with | some l => updF f b (some (l.1, l.2.1, a)) | none => f
def joinB (f : Int → Option Lk) (b a : Int) : Int → Option Lk := match f a with | some l => updF f a (some (l.1, b, l.2.2)) | none => f
def joinF (f : Int → Option Lk) (b a : Int) : Int → Option Lk := joinB (joinA f b a) b a

theorem IxR.cell {w : World} {p r n : Nat} {cap fst lst : Int} {f : Int → Option Lk} (h : IxR w p r cap fst lst f n) : w.cell? ⟨p, 0, none⟩ = some (.int .i64 cap) ∧ w.cell? ⟨p, 1, none⟩ = some (.map (some r)) ∧ w.cell? ⟨p, 2, none⟩ = some (.int .i64 fst) ∧ w.cell? ⟨p, 3, none⟩ = some (.int .i64 lst) := by
  obtain ⟨h, _⟩ := h
  refine ⟨?_, ?_, ?_, ?_⟩ <;> simp [World.cell?, h]

theorem IxR.ne {w : World} {p r n : Nat} {cap fst lst : Int} {f : Int → Option Lk} (h : IxR w p r cap fst lst f n) : p ≠ r := by
  rintro rfl
  obtain ⟨h1, es, clock, h2, _⟩ := h
  rw [h1] at h2
  cases h2
theorem IxR.lt {w : World} {p r n : Nat} {cap fst lst : Int} {f : Int → Option Lk} (h : IxR w p r cap fst lst f n) : p < w.heap.size := (Array.getElem?_eq_some_iff.1 h.1).1
theorem IxR.ext {w w' : World} {p r n : Nat} {cap fst lst : Int} {f : Int → Option Lk} (h : IxR w p r cap fst lst f n) (k : Ext w w') : IxR w' p r cap fst lst f n := ⟨(k.block p h.lt).trans h.1, h.2.kept (k.block r h.2.lt)⟩
theorem IxR.turned {w w' : World} {p r n n' : Nat} {cap fst lst : Int} {f f' : Int → Option Lk} (h : IxR w p r cap fst lst f n) (k : w.grownBy w' (some r)) (hM : MapAt w' r (fun c => (f' c).map lv) n') : IxR w' p r cap fst lst f' n' := ⟨(k.block p h.lt (by simpa using h.ne)).trans h.1, hM⟩
theorem IxR.setFst {w : World} {p r n : Nat} {cap fst lst : Int} {f : Int → Option Lk} (h : IxR w p r cap fst lst f n) (a : Int) : IxR (w.setCell ⟨p, 2, none⟩ (.int .i64 a)) p r cap a lst f n := by
  have h1 := h.1
  refine ⟨?_, h.2.kept (Below.heap_setCell w _ _ _ (by show r ≠ p; exact fun e => h.ne e.symm))⟩
  simp [World.setCell, Array.getElem?_modify, h1]
theorem IxR.setLst {w : World} {p r n : Nat} {cap fst lst : Int} {f : Int → Option Lk} (h : IxR w p r cap fst lst f n) (a : Int) : IxR (w.setCell ⟨p, 3, none⟩ (.int .i64 a)) p r cap fst a f n := by
  have h1 := h.1
  refine ⟨?_, h.2.kept (Below.heap_setCell w _ _ _ (by show r ≠ p; exact fun e => h.ne e.symm))⟩
  simp [World.setCell, Array.getElem?_modify, h1]
theorem IxR.free {w : World} {p r n : Nat} {cap fst lst : Int} {f : Int → Option Lk} (h : IxR w p r cap fst lst f n) (j : Nat) : w.frozen? ⟨p, j, none⟩ = false := by
  have h1 := h.1
  simp [World.frozen?, h1]
theorem Keep2.setP {p r : Nat} {a b : World} (h : Keep2 p r a b) (o : Nat) (v : Value) : Keep2 p r a (b.setCell ⟨p, o, none⟩ v) := h.grownP (grownBy_setCell b p o v)

def Halted (p : Prop) : Prop := p
theorem Halted.intro {p : Prop} (h : Halted p) : p := h

set_option maxRecDepth 100000 in
set_option maxHeartbeats 1000000 in
theorem join_walk (p r n : Nat) (cap fst lst b a : Int) (f : Int → Option Lk) (w : World) (h : IxR w p r cap fst lst f n) (hb : In b) (ha : In a) (Post : World → Prop)
    (HP : Hid (∀ w', IxR w' p r cap (if (f b).isSome then fst else a) (if (joinA f b a a).isSome then lst else b) (joinF f b a) n → Keep2 p r w w' → Post w')) :
    Calls Try.prog 63 #[.pointer (some ⟨p, 0, none⟩), .int .i64 b, .int .i64 a] w fun e w' => (∃ v, e = .returned v) ∧ Post w' := by
  obtain ⟨c0, c1, c2, c3⟩ := h.cell
  cases hf : f b with
  | some l =>
    obtain ⟨l0, l1, l2⟩ := l
    have hM := h.2
    go_enter Try.func63, Try.ntmps63
    go_wp2_with (first
      | ((with_reducible show wpList _ _ _ (⟨some 16, _, _, _, _, _⟩ :: _) _ _); go_must (refine wpList_lookSome rfl (.tmp 14) (.tmp 15) rfl hM hb.wf rfl rfl hf ?_))
      | fail)
    clear c0 c1 c2 c3 hM
    have hx := h
    have hk := Keep2.refl p r w
    refine wp_region_still_tail 6 (by kernel_rfl) (by kernel_rfl) ?_
    simp only [List.take_succ_cons, List.take_zero, List.drop_succ_cons, List.drop_zero]
    obtain ⟨wa1, hw1⟩ : ∃ w1, w.alloc (.cells #[.int .u32 l0, .int .i64 l1, .int .i64 a] 88) = w1 := ⟨_, rfl⟩
    have hB1 : Blk wa1 w.heap.size 88 [.int .u32 l0, .int .i64 l1, .int .i64 a] := hw1 ▸ Blk.new w _ 88
    have E1 : Ext w wa1 := hw1 ▸ (Ext.refl w).alloc _
    simp only [hw1]
    clear hw1
    obtain ⟨wd1, hw2⟩ : ∃ w2, wa1.drew = w2 := ⟨_, rfl⟩
    have e2 : (World.mk wa1.heap wa1.tape (wa1.drawn + 1) wa1.os wa1.output) = wd1 := hw2
    have hB2 : Blk wd1 w.heap.size 88 [.int .u32 l0, .int .i64 l1, .int .i64 a] := hw2 ▸ hB1
    have E2 : Ext w wd1 := hw2 ▸ E1.drew
    simp only [e2]
    clear hw2 e2 hB1 E1
    have hx1 := hx.ext E2
    obtain ⟨d0, d1, d2, d3⟩ := hx1.cell
    have k0 := hB2.cell 0
    have k1 := hB2.cell 1
    have k2 := hB2.cell 2
    repeat still_step
    refine wpStill_nil ?_
    refine wpList_upd rfl (.tmp 25) (.tmp 26) (.tmp 27) rfl hx1.2 hb.wf rfl rfl (l := (l0, l1, a)) rfl ?_
    intro wu1 hMu hgu hsu
    have hxu := hx1.turned hgu hMu
    have hku := (hk.ext E2).grown hgu
    clear k0 k1 k2 d0 d1 d2 d3 hB2 E2 hx1 hMu hgu hsu hx hk
    rw [hf, if_pos (show (some (l0, l1, l2)).isSome = true from rfl)] at hxu
    obtain ⟨F, hF⟩ : ∃ F, joinA f b a = F := ⟨_, rfl⟩
    have e : updF f b (some (l0, l1, a)) = F := by rw [← hF]; unfold joinA; rw [hf]
    rw [e] at hxu
    have hx := hxu; have hk := hku
    clear hxu hku e
    obtain ⟨c0, c1, c2, c3⟩ := hx.cell
    have hf0 := hx.free 3
    have hM := hx.2
    cases hg : F a with
    | some m =>
      obtain ⟨m0, m1, m2⟩ := m
      go_wp2_with (first
        | ((with_reducible show wpList _ _ _ (⟨some 38, _, _, _, _, _⟩ :: _) _ _); go_must (refine wpList_lookSome rfl (.tmp 36) (.tmp 37) rfl hM ha.wf rfl rfl hg ?_))
        | fail)
      clear c0 c1 c2 c3 hM
      refine wp_region_still_tail 6 (by kernel_rfl) (by kernel_rfl) ?_
      simp only [List.take_succ_cons, List.take_zero, List.drop_succ_cons, List.drop_zero]
      obtain ⟨wa2, hw1⟩ : ∃ w1, wu1.alloc (.cells #[.int .u32 m0, .int .i64 b, .int .i64 m2] 88) = w1 := ⟨_, rfl⟩
      have hB1 : Blk wa2 wu1.heap.size 88 [.int .u32 m0, .int .i64 b, .int .i64 m2] := hw1 ▸ Blk.new wu1 _ 88
      have E1 : Ext wu1 wa2 := hw1 ▸ (Ext.refl wu1).alloc _
      simp only [hw1]
      clear hw1
      obtain ⟨wd2, hw2⟩ : ∃ w2, wa2.drew = w2 := ⟨_, rfl⟩
      have e2 : (World.mk wa2.heap wa2.tape (wa2.drawn + 1) wa2.os wa2.output) = wd2 := hw2
      have hB2 : Blk wd2 wu1.heap.size 88 [.int .u32 m0, .int .i64 b, .int .i64 m2] := hw2 ▸ hB1
      have E2 : Ext wu1 wd2 := hw2 ▸ E1.drew
      simp only [e2]
      clear hw2 e2 hB1 E1
      have hx2 := hx.ext E2
      obtain ⟨d0, d1, d2, d3⟩ := hx2.cell
      have k0 := hB2.cell 0
      have k1 := hB2.cell 1
      have k2 := hB2.cell 2
      repeat still_step
      refine wpStill_nil ?_
      refine wpList_upd rfl (.tmp 47) (.tmp 48) (.tmp 49) rfl hx2.2 ha.wf rfl rfl (l := (m0, b, m2)) rfl ?_
      intro wu2 hMu hgu hsu
      have hxu := hx2.turned hgu hMu
      have hku := (hk.ext E2).grown hgu
      clear k0 k1 k2 d0 d1 d2 d3 hB2 E2 hx2 hMu hgu hsu hx hk
      rw [hg, if_pos (show (some (m0, m1, m2)).isSome = true from rfl)] at hxu
      go_wp2
      go_end0
      have HA : joinA f b a a = some (m0, m1, m2) := by rw [hF]; exact hg
      refine ⟨⟨_, rfl⟩, HP.out _ ?_ hku⟩
      rw [HA, hf]
      have hJ : joinF f b a = updF F a (some (m0, b, m2)) := by unfold joinF joinB; rw [hF, hg]
      rw [hJ]
      exact hxu
    | none =>
      have hxa := hx.ext ((Ext.refl _).alloc (.cells #[.int .u32 0, .int .i64 0, .int .i64 0] 88))
      obtain ⟨d0, d1, d2, d3⟩ := hxa.cell
      have df := hxa.free 3
      have hxs := hxa.setLst b
      have hks := (hk.alloc (.cells #[.int .u32 0, .int .i64 0, .int .i64 0] 88)).setP 3 (.int .i64 b)
      go_wp2_with (first
        | ((with_reducible show wpList _ _ _ (⟨some 38, _, _, _, _, _⟩ :: _) _ _); go_must (refine wpList_lookNone rfl (.tmp 36) (.tmp 37) rfl hM ha.wf rfl rfl hg ?_))
        | fail)
      go_wp2
      go_end0
      have HA : joinA f b a a = none := by rw [hF]; exact hg
      refine ⟨⟨_, rfl⟩, HP.out _ ?_ hks⟩
      rw [HA, hf]
      have hJ : joinF f b a = F := by unfold joinF joinB; rw [hF, hg]
      rw [hJ]
      exact hxs
  | none =>
    have hM := h.2
    have hxa := h.ext ((Ext.refl _).alloc (.cells #[.int .u32 0, .int .i64 0, .int .i64 0] 88))
    obtain ⟨d0, d1, d2, d3⟩ := hxa.cell
    have df := hxa.free 2
    have hxs := hxa.setFst a
    have hks := ((Keep2.refl p r w).alloc (.cells #[.int .u32 0, .int .i64 0, .int .i64 0] 88)).setP 2 (.int .i64 a)
    obtain ⟨s0, s1, s2, s3⟩ := hxs.cell
    go_enter Try.func63, Try.ntmps63
    go_wp2_with (first
      | ((with_reducible show wpList _ _ _ (⟨some 16, _, _, _, _, _⟩ :: _) _ _); go_must (refine wpList_lookNone rfl (.tmp 14) (.tmp 15) rfl hM hb.wf rfl rfl hf ?_))
      | ((with_reducible show wpList _ _ _ (⟨some 38, _, _, _, _, _⟩ :: _) _ _); refine Halted.intro ?_)
      | fail)
    obtain ⟨wu1, hwu⟩ : ∃ x, (w.alloc (.cells #[.int .u32 0, .int .i64 0, .int .i64 0] 88)).setCell ⟨p, 2, none⟩ (.int .i64 a) = x := ⟨_, rfl⟩
    rw [hwu] at hxs hks
    simp only [hwu]
    unfold Halted
    obtain ⟨F, hF⟩ : ∃ F, joinA f b a = F := ⟨_, rfl⟩
    have e : f = F := by rw [← hF]; unfold joinA; rw [hf]
    have hx := hxs; have hk := hks
    rw [e] at hx
    clear e
    clear hwu hxa d0 d1 d2 d3 df s0 s1 s2 s3 c0 c1 c2 c3 hxs hks hM
    obtain ⟨c0, c1, c2, c3⟩ := hx.cell
    have hf0 := hx.free 3
    have hM := hx.2
    cases hg : F a with
    | some m =>
      obtain ⟨m0, m1, m2⟩ := m
      go_wp2_with (first
        | ((with_reducible show wpList _ _ _ (⟨some 38, _, _, _, _, _⟩ :: _) _ _); go_must (refine wpList_lookSome rfl (.tmp 36) (.tmp 37) rfl hM ha.wf rfl rfl hg ?_))
        | fail)
      clear c0 c1 c2 c3 hM
      refine wp_region_still_tail 6 (by kernel_rfl) (by kernel_rfl) ?_
      simp only [List.take_succ_cons, List.take_zero, List.drop_succ_cons, List.drop_zero]
      obtain ⟨wa2, hw1⟩ : ∃ w1, wu1.alloc (.cells #[.int .u32 m0, .int .i64 b, .int .i64 m2] 88) = w1 := ⟨_, rfl⟩
      have hB1 : Blk wa2 wu1.heap.size 88 [.int .u32 m0, .int .i64 b, .int .i64 m2] := hw1 ▸ Blk.new wu1 _ 88
      have E1 : Ext wu1 wa2 := hw1 ▸ (Ext.refl wu1).alloc _
      simp only [hw1]
      clear hw1
      obtain ⟨wd2, hw2⟩ : ∃ w2, wa2.drew = w2 := ⟨_, rfl⟩
      have e2 : (World.mk wa2.heap wa2.tape (wa2.drawn + 1) wa2.os wa2.output) = wd2 := hw2
      have hB2 : Blk wd2 wu1.heap.size 88 [.int .u32 m0, .int .i64 b, .int .i64 m2] := hw2 ▸ hB1
      have E2 : Ext wu1 wd2 := hw2 ▸ E1.drew
      simp only [e2]
      clear hw2 e2 hB1 E1
      have hx2 := hx.ext E2
      obtain ⟨d0, d1, d2, d3⟩ := hx2.cell
      have k0 := hB2.cell 0
      have k1 := hB2.cell 1
      have k2 := hB2.cell 2
      repeat still_step
      refine wpStill_nil ?_
      refine wpList_upd rfl (.tmp 47) (.tmp 48) (.tmp 49) rfl hx2.2 ha.wf rfl rfl (l := (m0, b, m2)) rfl ?_
      intro wu2 hMu hgu hsu
      have hxu := hx2.turned hgu hMu
      have hku := (hk.ext E2).grown hgu
      clear k0 k1 k2 d0 d1 d2 d3 hB2 E2 hx2 hMu hgu hsu hx hk
      rw [hg, if_pos (show (some (m0, m1, m2)).isSome = true from rfl)] at hxu
      go_wp2
      go_end0
      have HA : joinA f b a a = some (m0, m1, m2) := by rw [hF]; exact hg
      refine ⟨⟨_, rfl⟩, HP.out _ ?_ hku⟩
      rw [HA, hf]
      have hJ : joinF f b a = updF F a (some (m0, b, m2)) := by unfold joinF joinB; rw [hF, hg]
      rw [hJ]
      exact hxu
    | none =>
      have hxa := hx.ext ((Ext.refl _).alloc (.cells #[.int .u32 0, .int .i64 0, .int .i64 0] 88))
      obtain ⟨d0, d1, d2, d3⟩ := hxa.cell
      have df := hxa.free 3
      have hxs := hxa.setLst b
      have hks := (hk.alloc (.cells #[.int .u32 0, .int .i64 0, .int .i64 0] 88)).setP 3 (.int .i64 b)
      go_wp2_with (first
        | ((with_reducible show wpList _ _ _ (⟨some 38, _, _, _, _, _⟩ :: _) _ _); go_must (refine wpList_lookNone rfl (.tmp 36) (.tmp 37) rfl hM ha.wf rfl rfl hg ?_))
        | fail)
      go_wp2
      go_end0
      have HA : joinA f b a a = none := by rw [hF]; exact hg
      refine ⟨⟨_, rfl⟩, HP.out _ ?_ hks⟩
      rw [HA, hf]
      have hJ : joinF f b a = F := by unfold joinF joinB; rw [hF, hg]
      rw [hJ]
      exact hxs

theorem join_calls (p r n : Nat) (cap fst lst b a : Int) (f : Int → Option Lk) (w : World) (h : IxR w p r cap fst lst f n) (hb : In b) (ha : In a) :
    Calls Try.prog 63 #[.pointer (some ⟨p, 0, none⟩), .int .i64 b, .int .i64 a] w fun e w' => (∃ v, e = .returned v) ∧ IxR w' p r cap (if (f b).isSome then fst else a) (if (joinA f b a a).isSome then lst else b) (joinF f b a) n ∧ Keep2 p r w w' :=
  join_walk p r n cap fst lst b a f w h hb ha _ (Lib.hid fun _ h k => ⟨h, k⟩)

end Go.Proofs.Ytcjeclddpkinkaa
