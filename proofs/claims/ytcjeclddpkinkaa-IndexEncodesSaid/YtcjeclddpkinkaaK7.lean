/- The contract of the index's Encode. -/
import Derived.Test.YtcjeclddpkinkaaK1
import Derived.Test.YtcjeclddpkinkaaB6
import Derived.IntWalk
import Derived.Deep.DrawnRows
set_option linter.unusedSimpArgs false
set_option linter.unusedVariables false
namespace Go.Proofs.Ytcjeclddpkinkaa
open Go.RowKit Go.Shelf Go.ChangeMaps Ix

attribute [local go_sem] Oper.semAt_some

namespace Ix
def encEs (L : List En) : List UInt8 := L.flatMap fun x => Wz.enc x.1 ++ Wz.enc x.2
def encIx (cap : Nat) (L : List En) : List UInt8 := Wz.enc cap ++ Wz.enc L.length ++ encEs L
theorem encEs_append (L M : List En) : encEs (L ++ M) = encEs L ++ encEs M := by simp [encEs]
theorem encEs_len {L : List En} (h : ∀ x ∈ L, OkE x) : (encEs L).length ≤ L.length * 18 := by
  induction L with
  | nil => exact Nat.le_refl _
  | cons x L ih =>
    have e : encEs (x :: L) = Wz.enc x.1 ++ Wz.enc x.2 ++ encEs L := rfl
    have hx := h x (by simp)
    have h1 := Wz.enc_length x.1 (by have := hx.1; omega) (by have := hx.2.1; omega)
    have h2 := Wz.enc_length x.2 (by have := hx.2.2.1; omega) (by have := hx.2.2.2; omega)
    have h3 := ih fun y hy => h y (by simp [hy])
    rw [e, List.length_append, List.length_append, List.length_cons]
    omega
end Ix

theorem vals_ok (xs : List EnO) : ∀ x ∈ vals xs, OkE x := by
  intro x hx
  obtain ⟨y, _, rfl⟩ := List.mem_map.1 hx
  exact y.2
theorem own_cells {w : World} {base : Nat} {e : TypeId} {size n : Nat} {v : Value} {xs : List Value} (h : w.ownsRow base e size v n xs) : ∀ (j : Nat) (o : Obj), v.ownBlock = some j → w.heap[j]? = some o → o.isCells = true := by
  intro j o hj ho
  rcases h.2 with ⟨rfl, _⟩ | ⟨g, cap, cur, rfl, _, hg, _⟩
  · simp [Value.ownBlock] at hj
  · obtain rfl : g = j := by simpa [Value.ownBlock] using hj
    rw [hg] at ho; cases ho; rfl
theorem keepsO_ext {a b : World} (h : Ext a b) : KeepsOthers a b := KeepsOthers.of_grownBy (grownBy_below h none) (fun _ _ e => by cases e)
theorem boxed_ext {a b : World} {B : Nat} {t : TypeId} {v : Value} (h : Boxed a B t v) (k : Ext a b) : Boxed b B t v := h.kept (grownBy_below k none) (by simp)
theorem op_skip {P : Program} {Q : Exit → Act → World → Prop} {o : Oper} {a : Act} {w w' : World} {K : Act → World → Prop} (hrun : (execOp a.eval o).run P w = .ok .skip w') (h : K (a.put o.dst undef) w') : o.wp P a w K Q := by
  unfold Oper.wp
  rw [hrun]
  exact h

set_option maxRecDepth 100000 in
set_option maxHeartbeats 2000000 in
theorem encode_in (p r cap : Nat) (hcap : cap ≤ 1000000) (xs : List EnO) (hlen : xs.length ≤ 1000000) (w : World) (hL : Ixd w p r cap (vals xs)) :
    CallsIn Fence.wide 8 Try.prog 58 #[.pointer (some ⟨p, 0, none⟩)] w (RetB w (encIx cap (vals xs))) := by
  have hp := hL.1.lt
  have hr := hL.1.2.lt
  obtain ⟨c0, _, _, _⟩ := hL.1.cell
  have hvl : (vals xs).length = xs.length := List.length_map _
  have HL := Lib.hid hL
  have C1 := Lib.hid fun w => int_calls (cap : Int) w (by omega) (by omega)
  have C2 := Lib.hid fun w => int_calls (xs.length : Int) w (by omega) (by omega)
  have hl1 := Wz.enc_length (cap : Int) (by omega) (by omega)
  have hl2 := Wz.enc_length (xs.length : Int) (by omega) (by omega)
  clear hL
  refine callsIn_of_wp_marks Try.func58 rfl trivial ?_ rfl
  simp only [Try.ntmps58, List.size_toArray, List.length_cons, List.length_nil, Nat.reduceAdd, Nat.reduceSub, Array.replicate_succ, Array.replicate_zero, List.push_toArray, List.append_toArray, List.nil_append, List.cons_append]
  refine wpIn_wide.2 ?_
  go_wp2_with fail
  refine (C1.out _).mono ?_
  rintro e w1 ⟨v1, rfl, ho1, hb1⟩
  have E1 : Ext w w1 := hb1
  go_wp2_with fail
  refine (len_calls p r cap (vals xs) w1 (HL.out.ext E1)).mono ?_
  rintro e _ ⟨rfl, rfl⟩
  rw [hvl]
  go_wp2_with fail
  refine (C2.out _).mono ?_
  rintro e w2 ⟨v2, rfl, ho2, hb2⟩
  have E2 : Ext w w2 := E1.trans hb2
  obtain ⟨A2, c2, rfl, hc2, hm2, hr2⟩ := ho2.slice
  have ho1' : Own8 w2 w.heap.size v1 (Wz.enc (cap : Int)) := ho1.ext hb2
  have HO1 := Lib.hid ho1'; have HR2 := Lib.hid hr2; have HL2 := Lib.hid (HL.out.ext E2)
  obtain ⟨hd, hhd⟩ : ∃ l, Wz.enc (cap : Int) ++ Wz.enc (xs.length : Int) = l := ⟨_, rfl⟩
  have hdl : hd.length ≤ 18 := by rw [← hhd, List.length_append]; omega
  have HHD := Lib.hid hhd
  clear ho1 hb1 E1 hb2 ho2 hr2 ho1' hhd c0
  have hs2 : w.heap.size ≤ w2.heap.size := E2.size
  go_wp2_with (first
    | ((with_reducible show wpList _ _ _ (⟨some 14, _, _, _, _, _⟩ :: _) _ _); go_must (refine wpList_app8 _ rfl (.tmp 10) (.tmp 13) rfl w.heap.size v1 (Wz.enc (cap : Int)) rfl HO1.out A2 c2 (Wz.enc (xs.length : Int)) rfl HR2.out (by omega) hs2 ?_); intro v3 w3 ho3 hg3 hbel3
       have hb3 : Below w.heap.size w w3 := hbel3 _ _ (Nat.le_refl _) E2
       have hx3 : Ixd w3 p r cap (vals xs) := HL.out.ext hb3
       have hs3 : w.heap.size ≤ w3.heap.size := hb3.size
       rw [HHD.out] at ho3
       obtain ⟨A3, c3, rfl, hc3, hm3, hr3⟩ := ho3.slice
       obtain ⟨nh, hnh⟩ : ∃ n, hd.length = n := ⟨_, rfl⟩
       rw [hnh] at hdl ho3 hc3
       simp only [hnh]
       have HNH := Lib.hid hnh
       have HO3 := Lib.hid ho3; have HX3 := Lib.hid hx3
       clear hg3 hbel3 ho3 hx3 hr3 hnh HO1 HR2 HL2 E2)
    | fail)
  obtain ⟨Bb, hBb⟩ : ∃ n, w3.heap.size = n := ⟨_, rfl⟩
  have hs3' : w.heap.size ≤ Bb := by omega
  obtain ⟨W4, hW4⟩ : ∃ W, w3.alloc (.cells #[.slice A3 nh c3] 57) = W := ⟨_, rfl⟩
  have e4 : W4.heap.size = Bb + 1 := by rw [← hW4, ← hBb]; exact Array.size_push _
  have bO : Boxed W4 Bb 57 (.slice A3 nh c3) := by rw [← hW4, ← hBb]; exact Boxed.new _ _ _
  have hO4 : Own8 W4 w.heap.size (.slice A3 nh c3) hd := hW4 ▸ HO3.out.alloc _
  have hb4 : Below w.heap.size w W4 := hW4 ▸ hb3.alloc hs3 _
  have hx4 : Ixd W4 p r cap (vals xs) := HX3.out.ext (hW4 ▸ (Ext.refl w3).alloc _)
  rw [hBb, hW4]
  clear hW4 HO3 HX3 hb3
  refine (callsIn_wide.1 (entries_in Fence.wide 7 trivial rfl p _)).mono ?_
  rintro e _ ⟨rfl, rfl⟩
  rw [e4]
  have bN := Boxed.new W4 24 (.pointer (some ⟨p, 0, none⟩))
  rw [e4] at bN
  have hB0 : Below w.heap.size w (W4.alloc (.cells #[.pointer (some ⟨p, 0, none⟩)] 24)) := hb4.alloc (by omega) _
  have bO' := bO.alloc (.cells #[.pointer (some ⟨p, 0, none⟩)] 24)
  have hO' : Own8 (W4.alloc (.cells #[.pointer (some ⟨p, 0, none⟩)] 24)) w.heap.size (.slice A3 nh c3) hd := hO4.alloc _
  have hx' : Ixd (W4.alloc (.cells #[.pointer (some ⟨p, 0, none⟩)] 24)) p r cap (vals xs) := hx4.ext ((Ext.refl W4).alloc _)
  obtain ⟨W5, hW5⟩ : ∃ W, W4.alloc (.cells #[.pointer (some ⟨p, 0, none⟩)] 24) = W := ⟨_, rfl⟩
  have e5 : W5.heap.size = Bb + 2 := by rw [← hW5]; show (Array.push _ _).size = _; rw [Array.size_push, e4]
  rw [hW5] at bN hB0 bO' hO' hx'
  rw [hW5]
  have HX5 := Lib.hid hx'; have HO5 := Lib.hid hO'
  clear hW5 bO hO4 hb4 hx4 hx' hO' e4
  go_wp2_with fail
  refine (wpIn_wide (n := 8)).1 ?_
  refine wpIn_rangeFunc_ownG rfl (by decide) (gf := 69) (lb := #[.pointer (some ⟨Bb + 1, 0, none⟩)]) rfl trivial (enters_of Try.func69 (by kernel_rfl) rfl)
    (iter_stops Fence.wide 7 trivial rfl (by omega) (Bb + 1) w.heap.size p r cap hp hr xs W5 (by omega) (by omega) bN.cell HX5.out) KpB.trans (KpB.putObj (by omega) (by omega)) (Below.refl _ _) (fun _ => rfl)
    (fun pre W => ((∃ v, Boxed W Bb 57 v ∧ W.ownsRow w.heap.size 5 1 v (hd ++ encEs (vals pre)).length (u8s (hd ++ encEs (vals pre))) ∧ True) ∧ Boxed W (Bb + 1) 24 (.pointer (some ⟨p, 0, none⟩))) ∧ Below w.heap.size w W)
    (fun _ _ _ => False)
    (OwnFrom.and (OwnFrom.and (Own.from (holdsRow_own w.heap.size Bb 57 5 1 (fun pre => (hd ++ encEs (vals pre)).length) (fun pre => u8s (hd ++ encEs (vals pre))) (fun _ _ => True)) _) (Own.from (boxed_own (Bb + 1) 24 (fun _ => .pointer (some ⟨p, 0, none⟩))) _)) (ownFrom_below (Nat.le_refl _) (by omega)))
    (fun _ _ _ _ _ hs _ _ => hs)
    ⟨⟨⟨_, bO', by have := HO5.out; unfold Own8 at this; simp only [vals, List.map_nil, encEs, List.flatMap_nil, List.append_nil]; rw [HNH.out]; rw [HNH.out] at this; exact this, trivial⟩, bN⟩, hB0⟩
    (fun x => { tmps := #[.pointer (some ⟨p, 0, none⟩), undef, .slice none 0 0, .pointer (some ⟨Bb, 0, none⟩), .int .i64 x.1.2, .int .u32 x.1.1, .pointer (some ⟨p, 0, none⟩), .pointer (some ⟨p, 0, none⟩), .pointer (some ⟨p, 0, none⟩), .int .i64 cap, v1, .pointer (some ⟨p, 0, none⟩), .int .i64 xs.length, .slice A2 (Wz.enc (xs.length : Int)).length c2, .slice A3 nh c3, .pointer (some ⟨p, 0, none⟩), .func (.func 69) #[] #[.pointer (some ⟨Bb + 1, 0, none⟩)], .int .i64 x.1.2, .int .u32 x.1.1, undef, undef, undef, undef, undef, undef, undef, undef, undef], defers := [] }) ?assign ?body ?done ?stop
  case assign =>
    intro l x W K hK
    dsimp only [encE]
    gi_wp2
    exact hK
  case body =>
    rintro l pre x W ⟨⟨⟨v, hv, hrow, _⟩, hbn⟩, hB⟩ hlt
    have hok := x.2
    have C3 := Lib.hid fun w => int_calls x.1.1 w (by have := hok.1; omega) (by have := hok.2.1; omega)
    have C4 := Lib.hid fun w => int_calls x.1.2 w (by have := hok.2.2.1; omega) (by have := hok.2.2.2; omega)
    have g3 := Wz.enc_length x.1.1 (by have := hok.1; omega) (by have := hok.2.1; omega)
    have g4 := Wz.enc_length x.1.2 (by have := hok.2.2.1; omega) (by have := hok.2.2.2; omega)
    have hel := encEs_len (vals_ok pre)
    rw [show (vals pre).length = pre.length from List.length_map _] at hel
    have hcl : (hd ++ encEs (vals pre)).length ≤ 18 + pre.length * 18 := by rw [List.length_append, HNH.out]; omega
    have q1 : (0 : Int) ≤ x.1.1 := hok.1
    have q2 : x.1.1 ≤ (4294967295 : Int) := hok.2.1
    have hva : vals (pre ++ [x]) = vals pre ++ [x.1] := by rw [vals_append]; rfl
    obtain ⟨l0, hl0⟩ : ∃ l, hd ++ encEs (vals pre) = l := ⟨_, rfl⟩
    rw [hl0] at hcl
    simp only [hl0] at hrow
    have HL0 := Lib.hid hl0; have HVA := Lib.hid hva
    obtain ⟨A, cb, rfl, hcb, hmb, _⟩ := own_slice hrow
    obtain ⟨nb, hnb⟩ : ∃ n, l0.length = n := ⟨_, rfl⟩
    rw [hnb] at hcl hcb
    simp only [hnb] at hrow hv
    have HNB := Lib.hid hnb
    have hc := hv.cell
    have hO : Own8 W w.heap.size (.slice A nb cb) l0 := by unfold Own8; rw [hnb]; exact hrow
    have hsW := hB.size
    obtain ⟨⟨x0, x1⟩, hxok⟩ := x
    simp only at C3 C4 g3 g4 q1 q2 hva HVA
    dsimp only
    obtain ⟨e0, he0⟩ : ∃ l, Wz.enc x0 = l := ⟨_, rfl⟩
    obtain ⟨e1, he1⟩ : ∃ l, Wz.enc x1 = l := ⟨_, rfl⟩
    rw [he0] at C3 g3
    rw [he1] at C4 g4
    have HE0 := Lib.hid he0; have HE1 := Lib.hid he1
    obtain ⟨n0, hn0⟩ : ∃ n, e0.length = n := ⟨_, rfl⟩
    obtain ⟨n1, hn1⟩ : ∃ n, e1.length = n := ⟨_, rfl⟩
    rw [hn0] at g3
    rw [hn1] at g4
    have HN0 := Lib.hid hn0; have HN1 := Lib.hid hn1
    have i1 : IntKind.i64.wrap x0 = x0 := IntWalk.i64_in _ (by omega)
    clear hel hl0 hva hnb hok hrow he0 he1 hn0 hn1
    gi_wp2_with fail
    refine wpIn_round_any (by kernel_rfl) (by kernel_rfl) (by rintro ⟨a, w, h⟩; exact h) ?_
    refine wpAny_take (i := 1) (v := .int .u32 x0) rfl (by kernel_rfl) (by kernel_rfl) (by kernel_rfl) (fun _ _ _ h => h) (Or.inl ⟨by rfl, fun w' => by go_simp⟩) ?_
    refine wpAny_take (i := 2) (v := .int .i64 x0) rfl (by kernel_rfl) (by kernel_rfl) (by kernel_rfl) (fun _ _ _ h => h) (Or.inl ⟨by rfl, fun w' => by go_simp⟩) ?_
    refine wpAny_take (i := 5) (v := .int .i64 x1) rfl (by kernel_rfl) (by kernel_rfl) (by kernel_rfl) (fun _ _ _ h => h) (Or.inl ⟨by rfl, fun w' => by go_simp⟩) ?_
    simp only [Act.put, List.getElem_toArray, List.getElem_cons_succ, List.getElem_cons_zero, List.setIfInBounds_toArray, List.set_cons_succ, List.set_cons_zero]
    refine wpAny_two (i := 0) (j := 3) (by kernel_rfl) rfl rfl rfl rfl ?_ ?_
    · simp only [Go.wp_at_succ, Go.wp_at_zero]
      refine op_value (v := .slice A nb cb) (w' := W.drew) (by go_simp) ?_
      simp only [Act.put, List.getElem_toArray, List.getElem_cons_succ, List.getElem_cons_zero, List.setIfInBounds_toArray, List.set_cons_succ, List.set_cons_zero]
      refine wpAny_one (i := 3) (by kernel_rfl) rfl rfl ?_
      simp only [Go.wp_at_succ, Go.wp_at_zero]
      refine op_call (f := 40) (args := #[.int .i64 x0]) (by go_simp) ?_
      refine (C3.out _).mono ?_
      rintro e W1 ⟨v1, rfl, ho1, hb1⟩
      have E1 : Ext W W1 := (Ext.refl W).drew.trans hb1
      have bv1 := boxed_ext hv E1
      have bn1 := boxed_ext hbn E1
      have hO1 := hO.ext E1
      have hB1 := hB.trans (Below.mono E1 hsW)
      have KO1 := keepsO_ext E1
      have BW1 : Below w.heap.size W W1 := Below.mono E1 hsW
      obtain ⟨A1, c1, rfl, hc1, hm1, hr1⟩ := ho1.slice
      rw [HN0.out] at hc1
      rw [HN0.out]
      refine ⟨_, rfl, ?_⟩
      clear E1 hb1 ho1
      simp only [Act.put, List.getElem_toArray, List.getElem_cons_succ, List.getElem_cons_zero, List.setIfInBounds_toArray, List.set_cons_succ, List.set_cons_zero]
      refine wpAny_one (i := 4) (by kernel_rfl) rfl rfl ?_
      simp only [Go.wp_at_succ, Go.wp_at_zero]
      refine op_app8 (.tmp 19) (.tmp 22) rfl w.heap.size (.slice A nb cb) l0 rfl hO1 A1 c1 n0 e0 rfl HN0.out hr1 (by rw [HNB.out]; omega) hB1.size ?_
      intro v2 W2 ho2 hg2 hbel2
      have bv2 := bv1.kept hg2 (bv1.not_row (by decide) hO1)
      have bn2 := bn1.kept hg2 (bn1.not_row (by decide) hO1)
      have hB2 := hbel2 _ _ (Nat.le_refl _) hB1
      have KO2 := KO1.trans (KeepsOthers.of_grownBy hg2 (own_cells hO1))
      have BW2 := hbel2 _ _ (Nat.le_refl _) BW1
      clear hbel2 hg2 bv1 bn1 KO1 hB1 BW1 hO1 hc1 hm1 hr1
      simp only [Act.put, List.getElem_toArray, List.getElem_cons_succ, List.getElem_cons_zero, List.setIfInBounds_toArray, List.set_cons_succ, List.set_cons_zero]
      refine wpAny_one (i := 6) (by kernel_rfl) rfl rfl ?_
      simp only [Go.wp_at_succ, Go.wp_at_zero]
      refine op_call (f := 40) (args := #[.int .i64 x1]) (by go_simp) ?_
      refine (C4.out _).mono ?_
      rintro e W3 ⟨v3, rfl, ho3, hb3⟩
      have E3 : Ext W2 W3 := hb3
      have bv3 := boxed_ext bv2 E3
      have bn3 := boxed_ext bn2 E3
      have hO3 := ho2.ext E3
      have hB3 := hB2.trans (Below.mono E3 hB2.size)
      have KO3 := KO2.trans (keepsO_ext E3)
      have BW3 : Below w.heap.size W W3 := BW2.trans (Below.mono E3 hB2.size)
      obtain ⟨A3', c3', rfl, hc3', hm3', hr3'⟩ := ho3.slice
      rw [HN1.out] at hc3'
      rw [HN1.out]
      refine ⟨_, rfl, ?_⟩
      clear E3 hb3 ho3 bv2 bn2 hB2 KO2 BW2 ho2
      simp only [Act.put, List.getElem_toArray, List.getElem_cons_succ, List.getElem_cons_zero, List.setIfInBounds_toArray, List.set_cons_succ, List.set_cons_zero]
      refine wpAny_one (i := 7) (by kernel_rfl) rfl rfl ?_
      simp only [Go.wp_at_succ, Go.wp_at_zero]
      refine op_app8 (.tmp 23) (.tmp 25) rfl w.heap.size v2 (l0 ++ e0) rfl hO3 A3' c3' n1 e1 rfl HN1.out hr3' (by rw [List.length_append, HNB.out, HN0.out]; omega) hB3.size ?_
      intro v4 W4' ho4 hg4 hbel4
      have bv4 := bv3.kept hg4 (bv3.not_row (by decide) hO3)
      have bn4 := bn3.kept hg4 (bn3.not_row (by decide) hO3)
      have hB4 := hbel4 _ _ (Nat.le_refl _) hB3
      have KO4 := KO3.trans (KeepsOthers.of_grownBy hg4 (own_cells hO3))
      have BW4 := hbel4 _ _ (Nat.le_refl _) BW3
      clear hbel4 hg4 bv3 bn3 KO3 hB3 BW3 hO3 hc3' hm3' hr3'
      obtain ⟨A5, c5, rfl, hc5, hm5, hr5⟩ := ho4.slice
      have hcell := bv4.cell
      have hfree := bv4.frozen
      simp only [Act.put, List.getElem_toArray, List.getElem_cons_succ, List.getElem_cons_zero, List.setIfInBounds_toArray, List.set_cons_succ, List.set_cons_zero]
      refine wpAny_one (i := 8) (by kernel_rfl) rfl rfl ?_
      simp only [Go.wp_at_succ, Go.wp_at_zero]
      refine op_skip (w' := W4'.setCell ⟨Bb, 0, none⟩ (.slice A5 (l0 ++ e0 ++ e1).length c5)) (by go_simp) ?_
      refine wpAny_done (by kernel_rfl) ?_ _
      have bv5 := bv4.set (.slice A5 (l0 ++ e0 ++ e1).length c5)
      have bn5 := bn4.other (show Bb + 1 ≠ Bb by omega) (.slice A5 (l0 ++ e0 ++ e1).length c5)
      have hO5 := World.ownsRow.kept ho4 (grownBy_setCell W4' Bb 0 (.slice A5 (l0 ++ e0 ++ e1).length c5)) (.inr (bv4.not_row (by decide) ho4).symm)
      have hel : hd ++ encEs (vals (pre ++ [⟨(x0, x1), hxok⟩])) = l0 ++ e0 ++ e1 := by
        rw [HVA.out, encEs_append, ← List.append_assoc, HL0.out, ← HE0.out, ← HE1.out]
        simp [encEs]
      gi_wp2
      refine ⟨(KO4.trans (KeepsOthers.setCell _ _ _)).from _, ⟨BW4.setCell (p := ⟨Bb, 0, none⟩) hs3' _, (show _ = _ from bn5).trans (show _ = _ from hbn).symm⟩, ⟨⟨_, bv5, ?_, trivial⟩, bn5⟩, hB4.setCell (p := ⟨Bb, 0, none⟩) hs3' _⟩
      rw [hel]
      exact hO5
    · simp only [Go.wp_at_succ, Go.wp_at_zero]
      refine op_call (f := 40) (args := #[.int .i64 x0]) (by go_simp) ?_
      refine (C3.out _).mono ?_
      rintro e W1 ⟨v1, rfl, ho1, hb1⟩
      have E1 : Ext W W1 := (Ext.refl W).drew.trans hb1
      have bv1 := boxed_ext hv E1
      have bn1 := boxed_ext hbn E1
      have hO1 := hO.ext E1
      have hB1 := hB.trans (Below.mono E1 hsW)
      have KO1 := keepsO_ext E1
      have BW1 : Below w.heap.size W W1 := Below.mono E1 hsW
      obtain ⟨A1, c1, rfl, hc1, hm1, hr1⟩ := ho1.slice
      rw [HN0.out] at hc1
      rw [HN0.out]
      refine ⟨_, rfl, ?_⟩
      clear E1 hb1 ho1
      simp only [Act.put, List.getElem_toArray, List.getElem_cons_succ, List.getElem_cons_zero, List.setIfInBounds_toArray, List.set_cons_succ, List.set_cons_zero]
      refine wpAny_one (i := 0) (by kernel_rfl) rfl rfl ?_
      simp only [Go.wp_at_succ, Go.wp_at_zero]
      have hc1' := bv1.cell
      refine op_value (v := .slice A nb cb) (w' := W1) (by go_simp) ?_
      clear hc1'
      simp only [Act.put, List.getElem_toArray, List.getElem_cons_succ, List.getElem_cons_zero, List.setIfInBounds_toArray, List.set_cons_succ, List.set_cons_zero]
      refine wpAny_one (i := 4) (by kernel_rfl) rfl rfl ?_
      simp only [Go.wp_at_succ, Go.wp_at_zero]
      refine op_app8 (.tmp 19) (.tmp 22) rfl w.heap.size (.slice A nb cb) l0 rfl hO1 A1 c1 n0 e0 rfl HN0.out hr1 (by rw [HNB.out]; omega) hB1.size ?_
      intro v2 W2 ho2 hg2 hbel2
      have bv2 := bv1.kept hg2 (bv1.not_row (by decide) hO1)
      have bn2 := bn1.kept hg2 (bn1.not_row (by decide) hO1)
      have hB2 := hbel2 _ _ (Nat.le_refl _) hB1
      have KO2 := KO1.trans (KeepsOthers.of_grownBy hg2 (own_cells hO1))
      have BW2 := hbel2 _ _ (Nat.le_refl _) BW1
      clear hbel2 hg2 bv1 bn1 KO1 hB1 BW1 hO1 hc1 hm1 hr1
      simp only [Act.put, List.getElem_toArray, List.getElem_cons_succ, List.getElem_cons_zero, List.setIfInBounds_toArray, List.set_cons_succ, List.set_cons_zero]
      refine wpAny_one (i := 6) (by kernel_rfl) rfl rfl ?_
      simp only [Go.wp_at_succ, Go.wp_at_zero]
      refine op_call (f := 40) (args := #[.int .i64 x1]) (by go_simp) ?_
      refine (C4.out _).mono ?_
      rintro e W3 ⟨v3, rfl, ho3, hb3⟩
      have E3 : Ext W2 W3 := hb3
      have bv3 := boxed_ext bv2 E3
      have bn3 := boxed_ext bn2 E3
      have hO3 := ho2.ext E3
      have hB3 := hB2.trans (Below.mono E3 hB2.size)
      have KO3 := KO2.trans (keepsO_ext E3)
      have BW3 : Below w.heap.size W W3 := BW2.trans (Below.mono E3 hB2.size)
      obtain ⟨A3', c3', rfl, hc3', hm3', hr3'⟩ := ho3.slice
      rw [HN1.out] at hc3'
      rw [HN1.out]
      refine ⟨_, rfl, ?_⟩
      clear E3 hb3 ho3 bv2 bn2 hB2 KO2 BW2 ho2
      simp only [Act.put, List.getElem_toArray, List.getElem_cons_succ, List.getElem_cons_zero, List.setIfInBounds_toArray, List.set_cons_succ, List.set_cons_zero]
      refine wpAny_one (i := 7) (by kernel_rfl) rfl rfl ?_
      simp only [Go.wp_at_succ, Go.wp_at_zero]
      refine op_app8 (.tmp 23) (.tmp 25) rfl w.heap.size v2 (l0 ++ e0) rfl hO3 A3' c3' n1 e1 rfl HN1.out hr3' (by rw [List.length_append, HNB.out, HN0.out]; omega) hB3.size ?_
      intro v4 W4' ho4 hg4 hbel4
      have bv4 := bv3.kept hg4 (bv3.not_row (by decide) hO3)
      have bn4 := bn3.kept hg4 (bn3.not_row (by decide) hO3)
      have hB4 := hbel4 _ _ (Nat.le_refl _) hB3
      have KO4 := KO3.trans (KeepsOthers.of_grownBy hg4 (own_cells hO3))
      have BW4 := hbel4 _ _ (Nat.le_refl _) BW3
      clear hbel4 hg4 bv3 bn3 KO3 hB3 BW3 hO3 hc3' hm3' hr3'
      obtain ⟨A5, c5, rfl, hc5, hm5, hr5⟩ := ho4.slice
      have hcell := bv4.cell
      have hfree := bv4.frozen
      simp only [Act.put, List.getElem_toArray, List.getElem_cons_succ, List.getElem_cons_zero, List.setIfInBounds_toArray, List.set_cons_succ, List.set_cons_zero]
      refine wpAny_one (i := 8) (by kernel_rfl) rfl rfl ?_
      simp only [Go.wp_at_succ, Go.wp_at_zero]
      refine op_skip (w' := W4'.setCell ⟨Bb, 0, none⟩ (.slice A5 (l0 ++ e0 ++ e1).length c5)) (by go_simp) ?_
      refine wpAny_done (by kernel_rfl) ?_ _
      have bv5 := bv4.set (.slice A5 (l0 ++ e0 ++ e1).length c5)
      have bn5 := bn4.other (show Bb + 1 ≠ Bb by omega) (.slice A5 (l0 ++ e0 ++ e1).length c5)
      have hO5 := World.ownsRow.kept ho4 (grownBy_setCell W4' Bb 0 (.slice A5 (l0 ++ e0 ++ e1).length c5)) (.inr (bv4.not_row (by decide) ho4).symm)
      have hel : hd ++ encEs (vals (pre ++ [⟨(x0, x1), hxok⟩])) = l0 ++ e0 ++ e1 := by
        rw [HVA.out, encEs_append, ← List.append_assoc, HL0.out, ← HE0.out, ← HE1.out]
        simp [encEs]
      gi_wp2
      refine ⟨(KO4.trans (KeepsOthers.setCell _ _ _)).from _, ⟨BW4.setCell (p := ⟨Bb, 0, none⟩) hs3' _, (show _ = _ from bn5).trans (show _ = _ from hbn).symm⟩, ⟨⟨_, bv5, ?_, trivial⟩, bn5⟩, hB4.setCell (p := ⟨Bb, 0, none⟩) hs3' _⟩
      rw [hel]
      exact hO5
  case done =>
    rintro D ys W hD rfl ⟨⟨⟨v, hv, hrow, _⟩, hbn⟩, hB⟩ hK
    have hc := hv.cell
    go_wp2
    refine ⟨by simp, .inl ⟨_, _, rfl, run_takeDeferred hK, ?_⟩⟩
    have e : hd ++ encEs (vals ys) = encIx cap (vals ys) := by rw [← HHD.out]; unfold encIx; rw [hvl]
    rw [e] at hrow
    exact ⟨_, results_tmp rfl _ _ _, v, rfl, ownsRow_putObj hrow _ hK rfl, hB.trans (belowK_b (w := w) (Nat.le_refl _) W D _ _ (by omega) hK rfl rfl)⟩
  case stop =>
    rintro D c pre W _ _ h _
    exact h.elim

theorem encode_calls (p r cap : Nat) (L : List En) (hcap : cap ≤ 1000000) (hlen : L.length ≤ 1000000) (w : World) (hL : Ixd w p r cap L) :
    Calls Try.prog 58 #[.pointer (some ⟨p, 0, none⟩)] w (RetB w (encIx cap L)) := by
  have e := vals_withOk L hL.2.ok
  have h := encode_in p r cap hcap (withOk L hL.2.ok) (by rw [← List.length_map (f := fun x : EnO => x.1)]; show (vals _).length ≤ _; rw [e]; exact hlen) w (by rw [e]; exact hL)
  rw [e] at h
  exact callsIn_wide.1 h

end Go.Proofs.Ytcjeclddpkinkaa
