/- The contract of the reference's Same: two lists of entries compared. -/
import Derived.Test.YtcjeclddpkinkaaI7
import Derived.Laws.StructEq
set_option linter.unusedSimpArgs false
set_option linter.unusedVariables false
namespace Go.Proofs.Ytcjeclddpkinkaa
open Go.RowKit Go.ChangeMaps Ix

theorem en_fields : ((Try.prog.fieldsOf 39).toList.map fun f => (f.name, f.type, f.offset)) = [("Print", 32, 0), ("Chunk", 3, 1)] := by kernel_rfl
theorem en_und : Try.prog.underlying 39 = some (.struct (Try.prog.fieldsOf 39)) := by kernel_rfl
theorem en_stood : Try.prog.stoodInHeld 39 = false := by kernel_rfl
theorem en_guard : Try.prog.eqGuardType Try.prog.depth 39 = false := by kernel_rfl
theorem u32_und : Try.prog.underlying 32 = some (.int .u32) := by kernel_rfl
theorem agg_en : AggOf Try.prog 39 2 := ⟨by kernel_rfl, by kernel_rfl⟩
theorem isAgg_u32 (w : World) : (isAgg 32).run Try.prog w = .ok false w := by simp [isAgg, run_underlying u32_und]
theorem isAgg_int (w : World) : (isAgg 3).run Try.prog w = .ok false w := by simp [isAgg, run_underlying Try.und_i]

def enV (x : En) : Value := .agg #[.int .u32 x.1, .int .i64 x.2]
theorem run_eqEn (w : World) (x y : En) : (Op.equal 39 (enV x) (enV y)).run Try.prog w = .ok (decide (x = y)) w := by
  have hf := en_fields
  obtain ⟨f, g, hfg, h1, h2, h3, h4, h5, h6⟩ : ∃ f g, (Try.prog.fieldsOf 39).toList = [f, g] ∧ f.name = "Print" ∧ f.type = 32 ∧ f.offset = 0 ∧ g.name = "Chunk" ∧ g.type = 3 ∧ g.offset = 1 := by
    generalize (Try.prog.fieldsOf 39).toList = l at hf
    rcases l with _ | ⟨f, _ | ⟨g, _ | ⟨x, l⟩⟩⟩
    · cases hf
    · simp at hf
    · simp only [List.map_cons, List.map_nil, List.cons.injEq, Prod.mk.injEq, and_true] at hf
      exact ⟨f, g, rfl, hf.1.1, hf.1.2.1, hf.1.2.2, hf.2.1, hf.2.2.1, hf.2.2.2⟩
    · simp at hf
  unfold Op.equal enV
  rw [show Op.maxDepth = 9998 + 1 + 1 from rfl, run_equalIn_struct w (9998 + 1) 39 _ _ en_und en_stood, hfg]
  obtain ⟨x0, x1⟩ := x
  obtain ⟨y0, y1⟩ := y
  have p1 : ∀ a b : Int, (part 32 #[.int .u32 a, .int .i64 b] 0).run Try.prog w = .ok (.int .u32 a) w := fun a b => by simp [part, isAgg_u32, Result.andThen]
  have p2 : ∀ a b : Int, (part 3 #[.int .u32 a, .int .i64 b] 1).run Try.prog w = .ok (.int .i64 b) w := fun a b => by simp [part, isAgg_int, Result.andThen]
  have q1 : ∀ a b : Int, (Op.equalIn 9999 32 (.int .u32 a) (.int .u32 b)).run Try.prog w = .ok (a == b) w := fun a b => run_eqInt u32_und 9998 a b
  have q2 : ∀ a b : Int, (Op.equalIn 9999 3 (.int .i64 a) (.int .i64 b)).run Try.prog w = .ok (a == b) w := fun a b => run_eqInt Try.und_i 9998 a b
  simp only [Op.eqFields, h1, h2, h3, h4, h5, h6, ne_eq, String.reduceEq, not_false_eq_true, if_true, Sem.run_bind, p1, p2, q1, q2, Result.andThen_ok, Nat.reduceAdd]
  by_cases e1 : x0 = y0
  · by_cases e2 : x1 = y1
    · subst e1; subst e2; simp [p2, q2, Result.andThen]
    · have e2' : (x1 == y1) = false := by rw [beq_eq_false_iff_ne]; exact e2
      subst e1
      simp [e2', e2, p2, q2, Result.andThen]
  · have e1' : (x0 == y0) = false := by rw [beq_eq_false_iff_ne]; exact e1
    simp [e1', e1]
theorem quiet_neqEn {C : World → Prop} {o : Oper} {a : Act} {K : Act → Prop} (p q : Operand) (r : TypeId) (ho : o.op = .binOp .neq 39 p q r) (x y : En) (hp : a.eval p = enV x) (hq : a.eval q = enV y) (z : Bool) (hz : (!(decide (x = y))) = z) (hk : K (a.put o.dst (.bool z))) : o.quiet Try.prog a C K := by
  subst hz
  refine quiet_any _ ?_ hk
  intro w _
  have h := run_eqEn w x y
  unfold enV at hp hq h
  unfold execOp
  rw [ho]
  simp only [Sem.run_bind, Sem.run_pure, hp, hq, run_eqGuard_agg w BinOp.neq 39 p q _ _ en_guard, binOp, h, Result.andThen]

/-- element k of a list of entries in memory -/
theorem en_at {L : List En} {u : Value} {k : Nat} (hk : k < L.length) (j : Nat) : ([.int .u32 L[k].1, .int .i64 L[k].2] : List Value)[j]? = some u → (enCells L)[k * 2 + j]? = some u := by
  induction L generalizing k with
  | nil => simp at hk
  | cons x L ih =>
    intro hu
    have e : enCells (x :: L) = [.int .u32 x.1, .int .i64 x.2] ++ enCells L := rfl
    have hj : j < 2 := (List.getElem?_eq_some_iff.1 hu).1
    cases k with
    | zero =>
      rw [e, List.getElem?_append_left (by simp; omega), Nat.zero_mul, Nat.zero_add]
      exact hu
    | succ k =>
      rw [e, List.getElem?_append_right (by simp; omega)]
      have := ih (k := k) (by simpa using hk) hu
      simp only [List.length_cons, List.length_nil]
      rw [show (k + 1) * 2 + j - (0 + 1 + 1) = k * 2 + j from by omega]
      exact this
theorem en_cell {w : World} {b o : Nat} {L : List En} {k : Nat} (hk : k < L.length) (hc : ∀ j u, (enCells L)[j]? = some u → w.cell? ⟨b, o + j, none⟩ = some u) :
    ∀ j u, ([.int .u32 L[k].1, .int .i64 L[k].2] : List Value)[j]? = some u → w.cell? ⟨b, o + k * 2 + j, none⟩ = some u := by
  intro j u hu
  rw [Nat.add_assoc]
  exact hc _ _ (en_at hk j hu)

set_option maxRecDepth 100000 in
set_option maxHeartbeats 400000 in
/-- the reference's Same -/
theorem sameen_calls (A B : Option Addr) (N M c d : Nat) (l m : List En) (w : World) (hl : Rd w A (enCells l)) (hm : Rd w B (enCells m)) (hNl : l.length = N) (hMm : m.length = M) (hll : N ≤ 1000000000000) (hml : M ≤ 1000000000000) (r : Bool) (hb : r = true ↔ l = m) :
    Calls Try.prog 20 #[.slice A N c, .slice B M d] w fun e w' => e = .returned (.bool r) ∧ Drawn w w' := by
  subst hNl; subst hMm
  have HB := Lib.hid hb; clear hb
  by_cases hlen : (l.length : Int) = m.length
  · have hne : ((l.length : Int) != m.length) = false := by rw [hlen]; simp
    have hle : l.length = m.length := by omega
    have HE := Lib.hid hle; clear hle hlen
    obtain ⟨N, hN⟩ : ∃ N, l.length = N := ⟨_, rfl⟩
    obtain ⟨M, hM⟩ : ∃ M, m.length = M := ⟨_, rfl⟩
    rw [hN, hM] at hne HE
    rw [hN] at hll ⊢
    rw [hM] at hml ⊢
    have HN := Lib.hid hN; have HM := Lib.hid hM; clear hN hM
    go_enter Try.func20, Try.ntmps20
    go_wp2
    go_loopg [5] N (fun g i wr => ∃ k : Nat, i = .int .i64 (k : Int) ∧ k ≤ N ∧ N - k ≤ g ∧ Hid (l.take k = m.take k) ∧ Drawn w wr)
    case atStart => exact ⟨0, rfl, by omega, by omega, Lib.hid rfl, Drawn.refl _⟩
    case round =>
      obtain ⟨k, rfl, hk, hg, HT, ⟨q, rfl⟩⟩ := hrel
      by_cases hkN : k < N
      · have h1 : k < l.length := by rw [HN.out]; exact hkN
        have h2 : k < m.length := by rw [HM.out, ← HE.out]; exact hkN
        have hkM : k < M := by rw [← HE.out]; exact hkN
        obtain ⟨b1, o1, rfl, hc1⟩ := hl (by rw [enCells_length]; omega)
        obtain ⟨b2, o2, rfl, hc2⟩ := hm (by rw [enCells_length]; omega)
        have hx1 := en_cell h1 hc1
        have hx2 := en_cell h2 hc2
        have ht1 : l.take (k + 1) = l.take k ++ [l[k]] := by rw [List.take_add_one, List.getElem?_eq_getElem h1]; rfl
        have ht2 : m.take (k + 1) = m.take k ++ [m[k]] := by rw [List.take_add_one, List.getElem?_eq_getElem h2]; rfl
        have hsame : l[k] ≠ m[k] → l ≠ m := fun hn he => hn (by subst he; rfl)
        obtain ⟨x, hx⟩ : ∃ x, l[k] = x := ⟨_, rfl⟩
        obtain ⟨y, hy⟩ : ∃ y, m[k] = y := ⟨_, rfl⟩
        rw [hx] at hx1 ht1 hsame
        rw [hy] at hx2 ht2 hsame
        have HT1 := Lib.hid ht1; have HT2 := Lib.hid ht2; have HS := Lib.hid hsame
        have HX1 := Lib.hid hx1; have HX2 := Lib.hid hx2
        clear ht1 ht2 hc1 hc2 hl hm hx hy hsame h1 h2 hx1 hx2
        by_cases hxy : x = y
        · have hz : (!(decide (x = y))) = false := by rw [decide_eq_true hxy]; rfl
          have HZ := Lib.hid hz
          have HXY := Lib.hid hxy
          clear hz hxy
          go_wp2
          refine wp_region_quiet_lit (by kernel_rfl) (by kernel_rfl) ?_
          repeat (first
            | go_big_quiet_skip
            | (go_big_quiet_want; refine quiet_loadAgg agg_en (.tmp 19) rfl b1 (o1 + k * 2) rfl [.int .u32 x.1, .int .i64 x.2] rfl HX1.out ?_; go_simp; go_big_quiet_on)
            | (go_big_quiet_want; refine quiet_loadAgg agg_en (.tmp 23) rfl b2 (o2 + k * 2) rfl [.int .u32 y.1, .int .i64 y.2] rfl HX2.out ?_; go_simp; go_big_quiet_on)
            | (go_big_quiet_want; refine quiet_neqEn (.tmp 20) (.tmp 24) _ rfl x y rfl rfl false HZ.out ?_; go_simp; go_big_quiet_on)
            | (go_big_quiet_want; go_big_quiet_op; go_big_quiet_on))
          refine wpQuiet_nil ?_
          rintro _ ⟨nq, rfl⟩
          go_wp2
          go_roundg (N - (k + 1))
          case measure => omega
          case rel => exact ⟨k + 1, by go_num, by omega, by omega, Lib.hid (by rw [HT1.out, HT2.out, HT.out]; rw [HXY.out]), by repeat (first | exact Drawn.refl _ | refine Drawn.step ?_ _)⟩
        · have hz : (!(decide (x = y))) = true := by rw [decide_eq_false hxy]; rfl
          have HZ := Lib.hid hz
          clear hz
          have hr : r = false := by
            cases r with
            | false => rfl
            | true => exact absurd (HB.out.1 rfl) (HS.out hxy)
          subst hr
          clear hxy
          go_wp2
          refine wp_region_quiet_lit (by kernel_rfl) (by kernel_rfl) ?_
          repeat (first
            | go_big_quiet_skip
            | (go_big_quiet_want; refine quiet_loadAgg agg_en (.tmp 19) rfl b1 (o1 + k * 2) rfl [.int .u32 x.1, .int .i64 x.2] rfl HX1.out ?_; go_simp; go_big_quiet_on)
            | (go_big_quiet_want; refine quiet_loadAgg agg_en (.tmp 23) rfl b2 (o2 + k * 2) rfl [.int .u32 y.1, .int .i64 y.2] rfl HX2.out ?_; go_simp; go_big_quiet_on)
            | (go_big_quiet_want; refine quiet_neqEn (.tmp 20) (.tmp 24) _ rfl x y rfl rfl true HZ.out ?_; go_simp; go_big_quiet_on)
            | (go_big_quiet_want; go_big_quiet_op; go_big_quiet_on))
          refine wpQuiet_nil ?_
          rintro _ ⟨nq, rfl⟩
          go_wp2
          go_ret
          exact ⟨rfl, by repeat (first | exact Drawn.refl _ | refine Drawn.step ?_ _)⟩
      · have hr : r = true := HB.out.2 (by
          have := HT.out
          have hk2 : k = N := by omega
          rwa [List.take_of_length_le (by rw [HN.out]; omega), List.take_of_length_le (by rw [HM.out, ← HE.out]; omega)] at this)
        subst hr
        go_wp2
        go_ret
        exact ⟨rfl, by repeat (first | exact Drawn.refl _ | refine Drawn.step ?_ _)⟩
  · have hne : ((l.length : Int) != m.length) = true := by rw [bne_iff_ne]; exact hlen
    have hr : r = false := by
      cases r with
      | false => rfl
      | true => exact absurd (by rw [HB.out.1 rfl]) hlen
    subst hr
    clear hlen
    go_enter Try.func20, Try.ntmps20
    go_wp2
    go_ret
    exact ⟨rfl, Drawn.refl _⟩

end Go.Proofs.Ytcjeclddpkinkaa
