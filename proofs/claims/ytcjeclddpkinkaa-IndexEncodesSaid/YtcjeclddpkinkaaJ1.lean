/- play: the index of a script. -/
import Derived.Test.YtcjeclddpkinkaaI9
set_option linter.unusedSimpArgs false
set_option linter.unusedVariables false
namespace Go.Proofs.Ytcjeclddpkinkaa
open Go.RowKit Go.ChangeMaps Ix

namespace Ix
/-- a step of a script -/
structure Op3 where
  drop : Bool
  print : Int
  chunk : Int
def OkO (o : Op3) : Prop := 0 ≤ o.print ∧ o.print ≤ 4294967295 ∧ -9223372036854775808 ≤ o.chunk ∧ o.chunk ≤ 9223372036854775807
def opCells (l : List Op3) : List Value := l.flatMap fun o => [.bool o.drop, .int .u32 o.print, .int .i64 o.chunk]
def stepL (cap : Nat) (L : List En) (o : Op3) : List En := if o.drop then dropL o.chunk L else if okC o.chunk then (putL cap o.print o.chunk L).1 else L
def playL (cap : Nat) (l : List Op3) : List En := l.foldl (stepL cap) []
theorem playL_snoc (cap : Nat) (l : List Op3) (o : Op3) : playL cap (l ++ [o]) = stepL cap (playL cap l) o := by simp [playL]
theorem opCells_length (l : List Op3) : (opCells l).length = l.length * 3 := by
  induction l with
  | nil => rfl
  | cons x l ih =>
    have e : opCells (x :: l) = [.bool x.drop, .int .u32 x.print, .int .i64 x.chunk] ++ opCells l := rfl
    rw [e, List.length_append, ih, List.length_cons]
    simp only [List.length_cons, List.length_nil]
    omega
theorem op_at {l : List Op3} {u : Value} {k : Nat} (hk : k < l.length) (j : Nat) : ([.bool l[k].drop, .int .u32 l[k].print, .int .i64 l[k].chunk] : List Value)[j]? = some u → (opCells l)[k * 3 + j]? = some u := by
  induction l generalizing k with
  | nil => simp at hk
  | cons x l ih =>
    intro hu
    have e : opCells (x :: l) = [.bool x.drop, .int .u32 x.print, .int .i64 x.chunk] ++ opCells l := rfl
    have hj : j < 3 := (List.getElem?_eq_some_iff.1 hu).1
    cases k with
    | zero =>
      rw [e, List.getElem?_append_left (by simp; omega), Nat.zero_mul, Nat.zero_add]
      exact hu
    | succ k =>
      rw [e, List.getElem?_append_right (by simp; omega)]
      have := ih (k := k) (by simpa using hk) hu
      simp only [List.length_cons, List.length_nil]
      rw [show (k + 1) * 3 + j - (0 + 1 + 1 + 1) = k * 3 + j from by omega]
      exact this
theorem op_cell {w : World} {b o : Nat} {l : List Op3} {k : Nat} (hk : k < l.length) (hc : ∀ j u, (opCells l)[j]? = some u → w.cell? ⟨b, o + j, none⟩ = some u) :
    w.cell? ⟨b, o + k * 3, none⟩ = some (.bool l[k].drop) ∧ w.cell? ⟨b, o + k * 3 + 1, none⟩ = some (.int .u32 l[k].print) ∧ w.cell? ⟨b, o + k * 3 + 2, none⟩ = some (.int .i64 l[k].chunk) :=
  ⟨by have := hc _ _ (op_at hk 0 rfl); simpa [Nat.add_assoc] using this, by have := hc _ _ (op_at hk 1 rfl); simpa [Nat.add_assoc] using this, by have := hc _ _ (op_at hk 2 rfl); simpa [Nat.add_assoc] using this⟩
theorem okC_iff {c : Int} : okC c = true ↔ 1 ≤ c ∧ c ≤ 65536 := by simp [okC]
theorem stepL_wf {cap : Nat} {L : List En} (h : Wf L) {o : Op3} (ho : OkO o) : Wf (stepL cap L o) := by
  unfold stepL
  split
  · exact dropL_wf h _
  · split
    · rename_i hc
      have := okC_iff.1 hc
      exact putL_wf h ⟨ho.1, ho.2.1, this.1, this.2⟩
    · exact h
theorem dropL_len (c : Int) (L : List En) : (dropL c L).length ≤ L.length := List.length_filter_le _ _
theorem stepL_len (cap : Nat) (L : List En) (o : Op3) : (stepL cap L o).length ≤ L.length + 1 := by
  have := dropL_len o.chunk L
  unfold stepL
  split
  · omega
  · split
    · unfold putL
      split
      · simp only [List.length_cons, List.length_dropLast]; omega
      · simp only [List.length_cons]; omega
    · omega
theorem playL_len (cap : Nat) (l : List Op3) : (playL cap l).length ≤ l.length := by
  refine Wz.snoc_ind (P := fun l => (playL cap l).length ≤ l.length) (by simp [playL]) ?_ l
  intro l a ih
  rw [playL_snoc, List.length_append, List.length_singleton]
  have := stepL_len cap (playL cap l) a
  omega
end Ix

set_option maxRecDepth 100000 in
set_option maxHeartbeats 1000000 in
theorem play_bad (cap : Int) (A : Option Addr) (N c : Nat) (w : World) (h : (cap < 1 ∨ cap > 4096) ∨ N > 80) (hN : N ≤ 1000000000000000) :
    Calls Try.prog 18 #[.int .i64 cap, .slice A N c] w fun e w' => e = .returned (.tuple #[.pointer none, .bool false]) ∧ Ext w w' := by
  by_cases h1 : cap < 1 ∨ cap > 4096
  · clear h
    have hb := fun w => new_bad cap w h1
    clear h1
    go_enter Try.func18, Try.ntmps18
    go_wp2_with fail
    refine (hb _).mono ?_
    rintro e _ ⟨rfl, rfl⟩
    go_wp2
    go_ret2
    exact ⟨rfl, Ext.refl _⟩
  · have h80 := h.resolve_left h1
    obtain ⟨m, rfl⟩ : ∃ m : Nat, cap = (m : Int) := ⟨cap.toNat, by omega⟩
    have g : decide ((N : Int) > 80) = true := by rw [decide_eq_true_iff]; omega
    have hm1 : 1 ≤ m := by omega
    have hm2 : m ≤ 4096 := by omega
    clear h h1
    go_enter Try.func18, Try.ntmps18
    go_wp2_with fail
    refine (new_calls m _ hm1 hm2).mono ?_
    rintro e w1 ⟨p, r, rfl, hp, hr, hx1, E1⟩
    go_wp2
    go_ret2
    exact ⟨rfl, E1⟩

set_option maxRecDepth 100000 in
set_option maxHeartbeats 1000000 in
theorem play_calls (cap : Nat) (A : Option Addr) (N c : Nat) (l : List Op3) (w : World) (h1 : 1 ≤ cap) (h2 : cap ≤ 4096) (hA : Rd w A (opCells l)) (hN : l.length = N) (h80 : N ≤ 80) (hok : ∀ o ∈ l, OkO o) :
    Calls Try.prog 18 #[.int .i64 (cap : Int), .slice A N c] w fun e w' => ∃ p r, e = .returned (.tuple #[.pointer (some ⟨p, 0, none⟩), .bool true]) ∧ w.heap.size ≤ p ∧ w.heap.size ≤ r ∧ Ixd w' p r cap (playL cap l) ∧ Ext w w' := by
  have g : decide ((N : Int) > 80) = false := by rw [decide_eq_false_iff_not]; omega
  have HN := Lib.hid hN; have HOK := Lib.hid hok
  clear hN hok
  go_enter Try.func18, Try.ntmps18
  go_wp2_with fail
  refine (new_calls cap _ h1 h2).mono ?_
  rintro e w1 ⟨p, r, rfl, hp, hr, hx1, E1⟩
  go_wp2_with fail
  go_loopg [8] N (fun g i wr => ∃ k : Nat, i = .int .i64 (k : Int) ∧ k ≤ N ∧ N - k ≤ g ∧ Ixd wr p r cap (playL cap (l.take k)) ∧ Ext w wr)
  case atStart => exact ⟨0, rfl, by omega, by omega, hx1, E1⟩
  case round =>
    obtain ⟨k, rfl, hk, hg, hx, hE⟩ := hrel
    clear hx1 E1
    by_cases hkN : k < N
    · have hkl : k < l.length := by rw [HN.out]; exact hkN
      obtain ⟨b, o, rfl, hc⟩ := hA.ext hE (by rw [opCells_length]; omega)
      obtain ⟨k0, k1, k2⟩ := op_cell hkl hc
      have hok := HOK.out (l[k]) (List.getElem_mem _)
      have ht : l.take (k + 1) = l.take k ++ [l[k]] := by rw [List.take_add_one, List.getElem?_eq_getElem hkl]; rfl
      obtain ⟨op, hop⟩ : ∃ op, l[k] = op := ⟨_, rfl⟩
      rw [hop] at k0 k1 k2 hok ht
      obtain ⟨dr, pr, ch⟩ := op
      simp only at k0 k1 k2
      have HT := Lib.hid ht; have HOKO := Lib.hid hok
      have hwf : (Lit.int .i64 ch).wf = true := by
        have h1 : IntKind.i64.min = -9223372036854775808 := rfl
        have h2 : IntKind.i64.max = 9223372036854775807 := rfl
        have := hok.2.2
        simp only at this
        simp only [Lit.wf, Bool.and_eq_true, decide_eq_true_eq]
        omega
      have HX := Lib.hid hx
      clear ht hok hop hc hx
      cases dr with
      | true =>
        go_wp2_with fail
        refine (drop_calls p r cap (playL cap (l.take k)) ch _ HX.out hwf).mono ?_
        rintro e w3 ⟨rfl, hx3, hk3⟩
        have E3 := hE.keep hk3 hp hr
        go_wp2_with fail
        go_roundg (N - (k + 1))
        case measure => omega
        case rel => exact ⟨k + 1, by go_num, by omega, by omega, by rw [HT.out, playL_snoc]; exact hx3, E3⟩
      | false =>
        go_wp2_with fail
        refine wp_region_still_tail 11 (by kernel_rfl) (by kernel_rfl) ?_
        simp only [List.take_succ_cons, List.take_zero, List.drop_succ_cons, List.drop_zero]
        obtain ⟨wd, hw2⟩ : ∃ w2, wr.drew = w2 := ⟨_, rfl⟩
        have e2 : (World.mk wr.heap wr.tape (wr.drawn + 1) wr.os wr.output) = wd := hw2
        have E2 : Ext w wd := hw2 ▸ hE.drew
        have hxd : Ixd wd p r cap (playL cap (l.take k)) := HX.out.ext (hw2 ▸ (Ext.refl wr).drew)
        have d1 : wd.cell? ⟨b, o + k * 3 + 1, none⟩ = some (.int .u32 pr) := hw2 ▸ k1
        have d2 : wd.cell? ⟨b, o + k * 3 + 2, none⟩ = some (.int .i64 ch) := hw2 ▸ k2
        simp only [e2]
        have HXD := Lib.hid hxd
        clear hw2 e2 hxd HX k0 k1 k2
        have i1 : (0 : Int) ≤ (k : Int) := by omega
        have i2 : (k : Int) < (N : Int) := by omega
        have i3 : ((k : Int)).toNat = k := by omega
        repeat still_step
        refine wpStill_nil ?_
        cases hoc : okC ch with
        | true =>
          have hoc' := okC_iff.1 hoc
          have hxe : OkE (pr, ch) := ⟨HOKO.out.1, HOKO.out.2.1, hoc'.1, hoc'.2⟩
          have HOC := Lib.hid hoc
          clear hoc hoc'
          go_wp2_with fail
          refine (put_calls p r cap (playL cap (l.take k)) pr ch _ HXD.out hxe).mono ?_
          rintro e w3 ⟨rfl, hx3, hk3⟩
          have E3 := E2.keep hk3 hp hr
          go_wp2_with fail
          go_roundg (N - (k + 1))
          case measure => omega
          case rel => exact ⟨k + 1, by go_num, by omega, by omega, by rw [HT.out, playL_snoc]; unfold stepL; rw [if_neg (by simp), if_pos HOC.out]; exact hx3, E3⟩
        | false =>
          have HOC := Lib.hid hoc
          go_wp2_with fail
          refine (put_bad p r cap (playL cap (l.take k)) pr ch _ HXD.out HOC.out).mono ?_
          rintro e _ ⟨rfl, rfl⟩
          clear hoc
          go_wp2_with fail
          go_roundg (N - (k + 1))
          case measure => omega
          case rel => exact ⟨k + 1, by go_num, by omega, by omega, by rw [HT.out, playL_snoc]; unfold stepL; rw [if_neg (by simp), if_neg (by rw [HOC.out]; simp)]; exact HXD.out, E2⟩
    · go_wp2
      go_ret2
      have hkk : k = N := by omega
      refine ⟨p, r, rfl, hp, hr, ?_, hE⟩
      rw [List.take_of_length_le (by rw [HN.out]; omega)] at hx
      exact hx

end Go.Proofs.Ytcjeclddpkinkaa
