/- The contract of All, of the index. -/
import Derived.Test.YtcjeclddpkinkaaI6
import Derived.RangeFuncWrites
import Derived.Maps.AppendAt
set_option linter.unusedSimpArgs false
set_option linter.unusedVariables false
namespace Go.Proofs.Ytcjeclddpkinkaa
open Go.RowKit Go.Shelf Go.ChangeMaps Ix

attribute [local go_sem] Oper.semAt_some

/-- the cells of a list of entries -/
def enCells (L : List En) : List Value := L.flatMap fun x => [.int .u32 x.1, .int .i64 x.2]
theorem enCells_append (L M : List En) : enCells (L ++ M) = enCells L ++ enCells M := by simp [enCells]
theorem enCells_length (L : List En) : (enCells L).length = L.length * 2 := by
  induction L with
  | nil => rfl
  | cons x L ih =>
    have e : enCells (x :: L) = [.int .u32 x.1, .int .i64 x.2] ++ enCells L := rfl
    rw [e, List.length_append, ih, List.length_cons]
    simp only [List.length_cons, List.length_nil]
    omega
/-- a []api.Entry that the call owns -/
def OwnE (w : World) (base : Nat) (v : Value) (L : List En) : Prop := w.ownsRow base 39 2 v L.length (enCells L)
/-- the chunks that bear a fingerprint -/
def findL (q : Int) (L : List En) : List Int := (L.filter fun x => x.1 == q).map (·.2)
theorem findL_hit {q : Int} (L : List En) {x : En} (h : (x.1 == q) = true) : findL q (L ++ [x]) = findL q L ++ [x.2] := by simp [findL, List.filter_append, h]
theorem findL_miss {q : Int} (L : List En) {x : En} (h : (x.1 == q) = false) : findL q (L ++ [x]) = findL q L := by simp [findL, List.filter_append, h]
theorem findL_len (q : Int) (L : List En) : (findL q L).length ≤ L.length := by unfold findL; rw [List.length_map]; exact List.length_filter_le _ _
theorem info_en : (Try.prog.info? 39).map (fun i => (i.zero, i.size, i.bytes)) = some (some (.agg #[.int .u32 0, .int .i64 0]), 2, 16) := by kernel_rfl
theorem vals_append (xs ys : List EnO) : vals (xs ++ ys) = vals xs ++ vals ys := List.map_append

set_option maxRecDepth 100000 in
set_option maxHeartbeats 2000000 in
theorem all_in (F : Fence) (n : Nat) (h19 : F.fn 19) (h62 : F.fn 62) (h69 : F.fn 69) (hro : F.round = none) (hn : 3 ≤ n) (p r cap : Nat) (xs : List EnO) (hlen : xs.length ≤ 1000000) (w : World) (hL : Ixd w p r cap (vals xs)) :
    CallsIn F n Try.prog 19 #[.pointer (some ⟨p, 0, none⟩)] w fun e W' => ∃ v, e = .returned v ∧ OwnE W' w.heap.size v (vals xs) ∧ Below w.heap.size w W' := by
  have h1 : 1 ≤ n := by omega
  obtain ⟨i0, hi, hz0, hz1, hz2⟩ := info_parts info_en
  have hp := hL.1.lt
  have hr := hL.1.2.lt
  refine callsIn_of_wp_marks Try.func19 rfl h19 ?_ hro
  simp only [Try.ntmps19, List.size_toArray, List.length_cons, List.length_nil, Nat.reduceAdd, Nat.reduceSub, Array.replicate_succ, Array.replicate_zero, List.push_toArray, List.append_toArray, List.nil_append, List.cons_append]
  gi_wp2_with (gi_at_call 62; refine (entries_in F (n - 1) h62 hro _ _).mono ?_; rintro e w' ⟨rfl, rfl⟩)
  have bO := Boxed.new w 27 (.slice none 0 0)
  have bN := Boxed.new (w.alloc (.cells #[.slice none 0 0] 27)) 24 (.pointer (some ⟨p, 0, none⟩))
  rw [World.size_alloc] at bN
  have hB0 : Below w.heap.size w ((w.alloc (.cells #[.slice none 0 0] 27)).alloc (.cells #[.pointer (some ⟨p, 0, none⟩)] 24)) := ((Below.refl _ w).alloc (Nat.le_refl _) _).alloc (by simp) _
  refine wpIn_rangeFunc_ownG hro h1 (gf := 69) (lb := #[.pointer (some ⟨w.heap.size + 1, 0, none⟩)]) rfl h69 (enters_of Try.func69 (by kernel_rfl) rfl)
    (iter_stops F (n - 1) h69 hro (by omega) (w.heap.size + 1) w.heap.size p r cap hp hr xs _ (by simp; omega) (by simp) bN.cell (hL.below hB0 hp hr)) KpB.trans (KpB.putObj (by simp; omega) (by simp)) (Below.refl _ _) (fun _ => rfl)
    (fun pre W => ((∃ v, Boxed W w.heap.size 27 v ∧ W.ownsRow w.heap.size 39 2 v pre.length (enCells (vals pre)) ∧ True) ∧ Boxed W (w.heap.size + 1) 24 (.pointer (some ⟨p, 0, none⟩))) ∧ Below w.heap.size w W)
    (fun _ _ _ => False)
    (OwnFrom.and (OwnFrom.and (Own.from (holdsRow_own w.heap.size w.heap.size 27 39 2 (fun pre => pre.length) (fun pre => enCells (vals pre)) (fun _ _ => True)) _) (Own.from (boxed_own (w.heap.size + 1) 24 (fun _ => .pointer (some ⟨p, 0, none⟩))) _)) (ownFrom_below (Nat.le_refl _) (by simp; omega)))
    (fun _ _ _ _ _ hs _ _ => hs)
    ⟨⟨⟨_, bO.alloc _, World.ownsRow_nil _ _ _ _, trivial⟩, bN⟩, hB0⟩
    (fun x => { tmps := #[.pointer (some ⟨p, 0, none⟩), undef, .slice none 0 0, .pointer (some ⟨w.heap.size, 0, none⟩), .int .i64 x.1.2, .int .u32 x.1.1, .pointer (some ⟨p, 0, none⟩), .func (.func 69) #[] #[.pointer (some ⟨w.heap.size + 1, 0, none⟩)], .int .i64 x.1.2, .int .u32 x.1.1, undef, undef, undef, undef, undef, undef, undef], defers := [] }) ?assign ?body ?done ?stop
  case assign =>
    intro l x W K hK
    dsimp only [encE]
    gi_wp2
    exact hK
  case body =>
    rintro l pre x W ⟨⟨⟨v, hv, hrow, _⟩, hbn⟩, hB⟩ hlt
    have hc := hv.cell
    gi_wp2_with (first
      | (gi_at_builtin; refine wpListIn_append_own _ rfl (.tmp 10) (.tmp 14) 27 rfl w.heap.size 39 i0 (.agg #[.int .u32 0, .int .i64 0]) 2 16 Try.underlying27 hi hz0 hz1 hz2 rfl (by decide) _ _ _ rfl (hrow.alloc _) ⟨W.heap.size, 0, none⟩ 1 1 [.int .u32 x.1.1, .int .i64 x.1.2] rfl rfl ?c1 ?c2 ?c3 ?c4 ?c5 ?_)
      | fail)
    case c1 => intro j u hu; rw [Addr.add_lit, Nat.zero_add, (Blk.new W [.int .u32 x.1.1, .int .i64 x.1.2] 39).cell]; exact hu
    case c2 => intro u hu; simp at hu; rcases hu with rfl | rfl <;> rfl
    case c3 => simp only [maxLen]; omega
    case c4 => omega
    case c5 => have := hB.size; simp; omega
    intro v' w1 hown' hgrow _
    obtain ⟨g', cap', rfl⟩ := ownsRow_succ hown'
    obtain ⟨hv1, hv2, hr2, hk2, hb2⟩ := hv.appended (by decide) hrow hB.size (Nat.le_refl _) hown' hgrow
    have hc1 := hv1.cell
    have hf1 := hv1.frozen
    have hbn1 := (hbn.alloc (.cells #[.int .u32 x.1.1, .int .i64 x.1.2] 39)).kept hgrow (hbn.not_row (by decide) hrow)
    have hbn2 := hbn1.other (show w.heap.size + 1 ≠ w.heap.size by omega) (.slice (some ⟨g', 0, none⟩) (pre.length + 1) cap')
    gi_wp2
    exact ⟨hk2.from _, ⟨hb2, (show _ = _ from hbn2).trans (show _ = _ from hbn).symm⟩, ⟨⟨_, hv2, by rw [vals_append, enCells_append, List.length_append]; exact hr2, trivial⟩, hbn2⟩, hB.trans hb2⟩
  case done =>
    rintro D ys W hD rfl ⟨⟨⟨v, hv, hrow, _⟩, hbn⟩, hB⟩ hK
    have hc := hv.cell
    gi_wp2
    refine ⟨by simp, .inl ⟨_, _, rfl, run_takeDeferred hK, ?_⟩⟩
    exact ⟨_, results_tmp rfl _ _ _, v, rfl, by unfold OwnE; rw [show (vals ys).length = ys.length from List.length_map _]; exact ownsRow_putObj hrow _ hK rfl, hB.trans (belowK_b (w := w) (Nat.le_refl _) W D _ _ (by simp at hD; omega) hK rfl rfl)⟩
  case stop =>
    rintro D c pre W _ _ h _
    exact h.elim

/-- a list in order, each entry with its proof -/
def withOk : (L : List En) → (∀ x ∈ L, OkE x) → List EnO
  | [], _ => []
  | x :: t, h => ⟨x, h x (by simp)⟩ :: withOk t (fun y hy => h y (by simp [hy]))
theorem vals_withOk : ∀ (L : List En) (h : ∀ x ∈ L, OkE x), vals (withOk L h) = L
  | [], _ => rfl
  | x :: t, h => by
    have := vals_withOk t (fun y hy => h y (by simp [hy]))
    show x :: vals (withOk t _) = x :: t
    rw [this]

theorem all_calls (p r cap : Nat) (L : List En) (hlen : L.length ≤ 1000000) (w : World) (hL : Ixd w p r cap L) :
    Calls Try.prog 19 #[.pointer (some ⟨p, 0, none⟩)] w fun e W' => ∃ v, e = .returned v ∧ OwnE W' w.heap.size v L ∧ Below w.heap.size w W' := by
  have e := vals_withOk L hL.2.ok
  have h := all_in Fence.wide 8 trivial trivial trivial rfl (by omega) p r cap (withOk L hL.2.ok) (by rw [← List.length_map (f := fun x : EnO => x.1)]; show (vals _).length ≤ _; rw [e]; exact hlen) w (by rw [e]; exact hL)
  rw [e] at h
  exact callsIn_wide.1 h

set_option maxRecDepth 100000 in
set_option maxHeartbeats 2000000 in
theorem find_in (F : Fence) (n : Nat) (h21 : F.fn 21) (h62 : F.fn 62) (h69 : F.fn 69) (hro : F.round = none) (hn : 3 ≤ n) (p r cap : Nat) (q : Int) (xs : List EnO) (hlen : xs.length ≤ 1000000) (w : World) (hL : Ixd w p r cap (vals xs)) :
    CallsIn F n Try.prog 21 #[.pointer (some ⟨p, 0, none⟩), .int .u32 q] w fun e W' => ∃ v, e = .returned v ∧ Own64 W' w.heap.size v (findL q (vals xs)) ∧ Below w.heap.size w W' := by
  have h1 : 1 ≤ n := by omega
  obtain ⟨i0, hi, hz0, hz1, hz2⟩ := info_parts info_int
  have hp := hL.1.lt
  have hr := hL.1.2.lt
  refine callsIn_of_wp_marks Try.func21 rfl h21 ?_ hro
  simp only [Try.ntmps21, List.size_toArray, List.length_cons, List.length_nil, Nat.reduceAdd, Nat.reduceSub, Array.replicate_succ, Array.replicate_zero, List.push_toArray, List.append_toArray, List.nil_append, List.cons_append]
  gi_wp2_with (gi_at_call 62; refine (entries_in F (n - 1) h62 hro _ _).mono ?_; rintro e w' ⟨rfl, rfl⟩)
  have bQ := Boxed.new w 32 (.int .u32 q)
  have bO := Boxed.new (w.alloc (.cells #[.int .u32 q] 32)) 30 (.slice none 0 0)
  have bN := Boxed.new ((w.alloc (.cells #[.int .u32 q] 32)).alloc (.cells #[.slice none 0 0] 30)) 24 (.pointer (some ⟨p, 0, none⟩))
  simp only [World.size_alloc] at bO bN
  have hB0 : Below w.heap.size w (((w.alloc (.cells #[.int .u32 q] 32)).alloc (.cells #[.slice none 0 0] 30)).alloc (.cells #[.pointer (some ⟨p, 0, none⟩)] 24)) := (((Below.refl _ w).alloc (Nat.le_refl _) _).alloc (by simp) _).alloc (by simp; omega) _
  refine wpIn_rangeFunc_ownG hro h1 (gf := 69) (lb := #[.pointer (some ⟨w.heap.size + 1 + 1, 0, none⟩)]) rfl h69 (enters_of Try.func69 (by kernel_rfl) rfl)
    (iter_stops F (n - 1) h69 hro (by omega) (w.heap.size + 1 + 1) w.heap.size p r cap hp hr xs _ (by simp; omega) (by simp) bN.cell (hL.below hB0 hp hr)) KpB.trans (KpB.putObj (by simp; omega) (by simp)) (Below.refl _ _) (fun _ => rfl)
    (fun pre W => (((∃ v, Boxed W (w.heap.size + 1) 30 v ∧ W.ownsRow w.heap.size 3 1 v (findL q (vals pre)).length (i64s (findL q (vals pre))) ∧ True) ∧ Boxed W w.heap.size 32 (.int .u32 q)) ∧ Boxed W (w.heap.size + 1 + 1) 24 (.pointer (some ⟨p, 0, none⟩))) ∧ Below w.heap.size w W)
    (fun _ _ _ => False)
    (OwnFrom.and (OwnFrom.and (OwnFrom.and (Own.from (holdsRow_own w.heap.size (w.heap.size + 1) 30 3 1 (fun pre => (findL q (vals pre)).length) (fun pre => i64s (findL q (vals pre))) (fun _ _ => True)) _) (Own.from (boxed_own w.heap.size 32 (fun _ => .int .u32 q)) _)) (Own.from (boxed_own (w.heap.size + 1 + 1) 24 (fun _ => .pointer (some ⟨p, 0, none⟩))) _)) (ownFrom_below (Nat.le_refl _) (by simp; omega)))
    (fun _ _ _ _ _ hs _ _ => hs)
    ⟨⟨⟨⟨_, bO.alloc _, World.ownsRow_nil _ _ _ _, trivial⟩, (bQ.alloc _).alloc _⟩, bN⟩, hB0⟩
    (fun x => { tmps := #[.pointer (some ⟨p, 0, none⟩), .int .u32 q, undef, .pointer (some ⟨w.heap.size, 0, none⟩), .slice none 0 0, .pointer (some ⟨w.heap.size + 1, 0, none⟩), .int .i64 x.1.2, .int .u32 x.1.1, .pointer (some ⟨p, 0, none⟩), .func (.func 69) #[] #[.pointer (some ⟨w.heap.size + 1 + 1, 0, none⟩)], .int .i64 x.1.2, .int .u32 x.1.1, undef, undef, undef, undef, undef, undef, undef, undef], defers := [] }) ?assign ?body ?done ?stop
  case assign =>
    intro l x W K hK
    dsimp only [encE]
    gi_wp2
    exact hK
  case body =>
    rintro l pre x W ⟨⟨⟨⟨v, hv, hrow, _⟩, hq⟩, hbn⟩, hB⟩ hlt
    have hc := hv.cell
    have hcq := hq.cell
    have hvl : (findL q (vals pre)).length ≤ 1000000 := by
      have := findL_len q (vals pre)
      have e : (vals pre).length = pre.length := List.length_map _
      omega
    cases hx : (x.1.1 == q) with
    | true =>
      have HH := Lib.hid (findL_hit (vals pre) hx)
      obtain ⟨K0, hK0⟩ : ∃ k, (findL q (vals pre)).length = k := ⟨_, rfl⟩
      rw [hK0] at hrow hvl
      have HK0 := Lib.hid hK0
      clear hK0
      gi_wp2_with (first
        | (gi_at_builtin; refine wpListIn_append_own _ rfl (.tmp 15) (.tmp 17) 30 rfl w.heap.size 3 i0 (.int .i64 0) 1 8 Try.underlying30 hi hz0 hz1 hz2 rfl (by decide) _ _ _ rfl (hrow.alloc _) ⟨W.heap.size, 0, none⟩ 1 1 [.int .i64 x.1.2] rfl rfl ?c1 ?c2 ?c3 ?c4 ?c5 ?_)
        | fail)
      case c1 => exact cell_one_new _ _ _
      case c2 => simp [Value.oneCell']
      case c3 => simp only [maxLen]; omega
      case c4 => omega
      case c5 => have := hB.size; simp; omega
      intro v' w1 hown' hgrow _
      obtain ⟨g', cap', rfl⟩ := ownsRow_succ hown'
      obtain ⟨hv1, hv2, hr2, hk2, hb2⟩ := hv.appended (by decide) hrow hB.size (by omega) hown' hgrow
      have hc1 := hv1.cell
      have hf1 := hv1.frozen
      have hbn1 := (hbn.alloc (.cells #[.int .i64 x.1.2] 3)).kept hgrow (hbn.not_row (by decide) hrow)
      have hbn2 := hbn1.other (show w.heap.size + 1 + 1 ≠ w.heap.size + 1 by omega) (.slice (some ⟨g', 0, none⟩) (K0 + 1) cap')
      have hq1 := (hq.alloc (.cells #[.int .i64 x.1.2] 3)).kept hgrow (hq.not_row (by decide) hrow)
      have hq2 := hq1.other (show w.heap.size ≠ w.heap.size + 1 by omega) (.slice (some ⟨g', 0, none⟩) (K0 + 1) cap')
      gi_wp2
      refine ⟨hk2.from _, ⟨hb2, (show _ = _ from hbn2).trans (show _ = _ from hbn).symm⟩, ⟨⟨⟨_, hv2, ?_, trivial⟩, hq2⟩, hbn2⟩, hB.trans hb2⟩
      rw [vals_append, show vals [x] = [x.1] from rfl, HH.out, i64s_append, List.length_append, HK0.out]
      exact hr2
    | false =>
      have HH := Lib.hid (findL_miss (vals pre) hx)
      gi_wp2
      refine ⟨KeepsFrom.refl _ _, ⟨Below.refl _ _, rfl⟩, ⟨⟨⟨v, hv, ?_, trivial⟩, hq⟩, hbn⟩, hB⟩
      rw [vals_append, show vals [x] = [x.1] from rfl, HH.out]
      exact hrow
  case done =>
    rintro D ys W hD rfl ⟨⟨⟨⟨v, hv, hrow, _⟩, _⟩, hbn⟩, hB⟩ hK
    have hc := hv.cell
    gi_wp2
    refine ⟨by simp, .inl ⟨_, _, rfl, run_takeDeferred hK, ?_⟩⟩
    exact ⟨_, results_tmp rfl _ _ _, v, rfl, ownsRow_putObj hrow _ hK rfl, hB.trans (belowK_b (w := w) (Nat.le_refl _) W D _ _ (by simp at hD; omega) hK rfl rfl)⟩
  case stop =>
    rintro D c pre W _ _ h _
    exact h.elim

theorem find_calls (p r cap : Nat) (q : Int) (L : List En) (hlen : L.length ≤ 1000000) (w : World) (hL : Ixd w p r cap L) :
    Calls Try.prog 21 #[.pointer (some ⟨p, 0, none⟩), .int .u32 q] w fun e W' => ∃ v, e = .returned v ∧ Own64 W' w.heap.size v (findL q L) ∧ Below w.heap.size w W' := by
  have e := vals_withOk L hL.2.ok
  have h := find_in Fence.wide 8 trivial trivial trivial rfl (by omega) p r cap q (withOk L hL.2.ok) (by rw [← List.length_map (f := fun x : EnO => x.1)]; show (vals _).length ≤ _; rw [e]; exact hlen) w (by rw [e]; exact hL)
  rw [e] at h
  exact callsIn_wide.1 h

end Go.Proofs.Ytcjeclddpkinkaa
