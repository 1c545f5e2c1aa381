/- The readers of numbers, of the index and of its reference. -/
import Derived.Test.YtcjeclddpkinkaaK8
import Derived.Test.YtcjeclddpkinkaaK3
set_option linter.unusedSimpArgs false
set_option linter.unusedVariables false
namespace Go.Proofs.Ytcjeclddpkinkaa
open Go.RowKit Go.ChangeMaps Ix

/-- the cells xs lie behind the address A, in a block below B -/
def RdB (w : World) (B : Nat) (A : Option Addr) (xs : List Value) : Prop := 0 < xs.length → ∃ b o, A = some ⟨b, o, none⟩ ∧ b < B ∧ ∀ j u, xs[j]? = some u → w.cell? ⟨b, o + j, none⟩ = some u
theorem RdB.rd {w : World} {B : Nat} {A : Option Addr} {xs : List Value} (h : RdB w B A xs) : Rd w A xs := fun hl => by
  obtain ⟨b, o, e, _, hc⟩ := h hl
  exact ⟨b, o, e, hc⟩
theorem RdB.of {w : World} {A : Option Addr} {xs : List Value} (h : Rd w A xs) : RdB w w.heap.size A xs := fun hl => by
  obtain ⟨b, o, e, hc⟩ := h hl
  exact ⟨b, o, e, lt_of_cell (hc 0 _ (List.getElem?_eq_getElem hl)), hc⟩
theorem RdB.kept {w w' : World} {B : Nat} {A : Option Addr} {xs : List Value} (h : RdB w B A xs) (hb : ∀ b, b < B → w'.heap[b]? = w.heap[b]?) : RdB w' B A xs := fun hl => by
  obtain ⟨b, o, e, hB, hc⟩ := h hl
  exact ⟨b, o, e, hB, fun j u hu => (cell_same (hb b hB)).trans (hc j u hu)⟩
theorem RdB.cut {w w' : World} {B : Nat} {A A' : Option Addr} {xs ys : List Value} (h : RdB w B A xs) (hr : Rd w' A' ys) (hA : ∀ q' : Addr, A' = some q' → ∃ q : Addr, A = some q ∧ q.block = q'.block) (hl : 0 < ys.length → 0 < xs.length) : RdB w' B A' ys := fun hy => by
  obtain ⟨b, o, e, hB, hc⟩ := h (hl hy)
  obtain ⟨b', o', e', hc'⟩ := hr hy
  obtain ⟨q, hq, hb⟩ := hA _ e'
  rw [e] at hq
  obtain rfl := Option.some.inj hq
  simp only at hb
  exact ⟨b', o', e', by omega, hc'⟩
/-- block g is a reader: what is left lies in blocks below B -/
def RdrA (w : World) (B g ty : Nat) (s : Rs) (A : Option Addr) (c : Nat) : Prop :=
  Blk w g ty [.slice A s.1.length c, .int .i64 (s.2 : Int)] ∧ s.1.length ≤ c ∧ c ≤ maxLen ∧ s.1.length ≤ 1000000 ∧ RdB w B A (u8s s.1) ∧ B ≤ g
def Rdr (w : World) (B g ty : Nat) (s : Rs) : Prop := ∃ A c, RdrA w B g ty s A c
theorem Rdr.lt {w : World} {B g ty : Nat} {s : Rs} (h : Rdr w B g ty s) : g < w.heap.size := by
  obtain ⟨A, c, h⟩ := h
  exact h.1.lt
theorem Rdr.base {w : World} {B g ty : Nat} {s : Rs} (h : Rdr w B g ty s) : B ≤ g := by
  obtain ⟨A, c, h⟩ := h
  exact h.2.2.2.2.2
theorem Rdr.kept {w w' : World} {B g ty : Nat} {s : Rs} (h : Rdr w B g ty s) (hg : w'.heap[g]? = w.heap[g]?) (hb : ∀ b, b < B → w'.heap[b]? = w.heap[b]?) : Rdr w' B g ty s := by
  obtain ⟨A, c, h1, h2, h3, h4, h5, h6⟩ := h
  exact ⟨A, c, hg.trans h1, h2, h3, h4, h5.kept hb, h6⟩
theorem Rdr.ext {w w' : World} {B g ty : Nat} {s : Rs} (h : Rdr w B g ty s) (k : Ext w w') : Rdr w' B g ty s :=
  h.kept (k.block g h.lt) fun b hb => k.block b (by have := h.lt; have := h.base; omega)
theorem Rdr.keep {w w' : World} {B g ty p r : Nat} {s : Rs} (h : Rdr w B g ty s) (k : Keep2 p r w w') (h1 : g ≠ p) (h2 : g ≠ r) (h3 : B ≤ p) (h4 : B ≤ r) : Rdr w' B g ty s :=
  h.kept (k.block g h.lt h1 h2) fun b hb => k.block b (by have := h.lt; have := h.base; omega) (by omega) (by omega)
theorem Rdr.er {w : World} {B g ty : Nat} {s : Rs} (h : Rdr w B g ty s) : w.cell? ⟨g, 1, none⟩ = some (.int .i64 (s.2 : Int)) := by
  obtain ⟨A, c, h⟩ := h
  exact h.1.cell 1
/-- the error is set -/
theorem Rdr.setE {w : World} {B g ty : Nat} {s : Rs} (h : Rdr w B g ty s) (e : Nat) : Rdr (w.setCell ⟨g, 1, none⟩ (.int .i64 (e : Int))) B g ty (s.1, e) := by
  obtain ⟨A, c, h1, h2, h3, h4, h5, h6⟩ := h
  refine ⟨A, c, h1.set 1 _, h2, h3, h4, h5.kept fun b hb => ?_, h6⟩
  exact Below.heap_setCell _ _ _ _ (by show b ≠ g; omega)

/-- slicing, with the block that it stays in -/
theorem wpList_sliceB {P : Program} (w : World) {ops : Array Oper} {rest : List Oper} {o : Oper} {a : Act} {Q : Exit → Act → World → Prop} (hgd : o.guard = none) (x : Operand) (lo hi' : Option Operand) (t : TypeId)
    (ho : o.op = .slice t x lo hi' none) (e : TypeId) (i : TypeInfo) (size : Nat) (ht : P.underlying t = some (.slice e)) (hi : P.info? e = some i) (hsz : i.size = size)
    (A : Option Addr) (n cap : Nat) (xs : List Value) (hx : a.eval x = .slice A n cap) (hr : Rd w A xs) (hn : n ≤ cap) (l h : Nat)
    (hlo : (lo = none ∧ l = 0) ∨ ∃ p k, lo = some p ∧ a.eval p = .int k (l : Int)) (hhi : (hi' = none ∧ h = n) ∨ ∃ p k, hi' = some p ∧ a.eval p = .int k (h : Int)) (hlh : l ≤ h) (hhn : h ≤ n)
    (hK : ∀ A', Rd w A' ((xs.drop (l * size)).take ((h - l) * size)) → (∀ q' : Addr, A' = some q' → ∃ q : Addr, A = some q ∧ q.block = q'.block) → wpList P ops Q rest (a.put o.dst (.slice A' (h - l) (cap - l))) w) : wpList P ops Q (o :: rest) a w := by
  subst hsz
  refine wpList_value (w' := w) hgd ?_ (hK _ (hr.cut (n := n) (l := l) (m := h - l) (cap := cap) (s := i.size) (by omega) hn) ?_)
  · unfold execOp
    rw [ho]
    have h1 := run_slice_all3 (P := P) w t e i ht hi A n cap (lo.map a.eval) (hi'.map a.eval) l h
      (by rcases hlo with ⟨rfl, rfl⟩ | ⟨p, k, rfl, hp⟩
          · exact .inl ⟨rfl, rfl⟩
          · exact .inr ⟨k, by rw [Option.map_some, hp]⟩)
      (by rcases hhi with ⟨rfl, rfl⟩ | ⟨p, k, rfl, hp⟩
          · exact .inl ⟨rfl, rfl⟩
          · exact .inr ⟨k, by rw [Option.map_some, hp]⟩) hlh (by omega)
    simp only [Option.map_none, Sem.run_bind, Sem.run_pure, hx, h1, Result.andThen]
  · intro q' hA
    split at hA
    · exact ⟨q', hA, rfl⟩
    · cases A with
      | none => cases hA
      | some q =>
        simp only [Option.map_some, Option.some.injEq] at hA
        subst hA
        refine ⟨q, rfl, ?_⟩
        unfold Addr.add
        split <;> rfl

set_option maxRecDepth 100000 in
set_option maxHeartbeats 1000000 in
theorem number_calls (B g : Nat) (lo hi : Int) (s : Rs) (w : World) (h : Rdr w B g 103 s) (he : s.2 ≤ 6) :
    Calls Try.prog 67 #[.pointer (some ⟨g, 0, none⟩), .int .i64 lo, .int .i64 hi] w fun e w' => e = .returned (.int .i64 (numR lo hi s).1) ∧ Rdr w' B g 103 (numR lo hi s).2 ∧ Keep2 g g w w' := by
  by_cases h0 : s.2 = 0
  · obtain ⟨l, e⟩ := s
    simp only at h0
    subst h0
    obtain ⟨A, c, hb, hlc, hcm, hl6, hr, hBg⟩ := h
    simp only at hb hlc hl6 hr
    obtain ⟨n, u, er, hd⟩ : ∃ n u er, Wz.dec l = (n, u, er) := ⟨_, _, _, rfl⟩
    have hle := Wz.dec_le l
    have hee := Wz.dec_er l
    rw [hd] at hle hee
    simp only at hle hee
    have hg := fun w' (hr : Rd w' A (u8s l)) => getint_calls A l.length c l w' hr (by omega) hlc hcm rfl hd
    obtain ⟨N, hN⟩ : ∃ N, l.length = N := ⟨_, rfl⟩
    have HN := Lib.hid hN
    rw [hN] at hb hlc hl6 hle
    simp only [hN] at hg
    have k0 : w.cell? ⟨g, 0, none⟩ = some (.slice A N c) := hb.cell 0
    have k1 : w.cell? ⟨g, 1, none⟩ = some (.int .i64 0) := hb.cell 1
    have f0 : w.frozen? ⟨g, 0, none⟩ = false := hb.free 0
    have f1 : w.frozen? ⟨g, 1, none⟩ = false := hb.free 1
    have HB := Lib.hid hb; have HR := Lib.hid hr; have HG := Lib.hid (hg w hr.rd); have HD := Lib.hid hd
    clear hb hr hg hN hd he
    by_cases her : er = 0
    · subst her
      by_cases hrng : n < lo ∨ hi < n
      · have hv : numR lo hi (l, 0) = (0, (l, 6)) := by unfold numR; rw [HD.out]; simp only; rw [if_neg (by simp), if_neg (by simp), if_pos hrng]
        have HV := Lib.hid hv
        have HRD : Hid (Rdr w B g 103 (l, 0)) := Lib.hid ⟨A, c, by rw [HN.out]; exact HB.out, by rw [HN.out]; exact hlc, hcm, by rw [HN.out]; exact hl6, HR.out, hBg⟩
        clear hv
        by_cases hlt : n < lo
        · have g1 : decide (n < lo) = true := decide_eq_true hlt
          clear hrng hlt
          go_enter Try.func67, Try.ntmps67
          go_wp2_with fail
          refine HG.out.mono ?_
          rintro e _ ⟨rfl, rfl⟩
          go_wp2
          go_ret
          rw [HV.out]
          exact ⟨rfl, HRD.out.setE 6, (Keep2.refl g g w).grown (grownBy_setCell _ _ _ _)⟩
        · have g1 : decide (n < lo) = false := decide_eq_false hlt
          have g2 : decide (n > hi) = true := by rw [decide_eq_true_iff]; omega
          clear hrng hlt
          go_enter Try.func67, Try.ntmps67
          go_wp2_with fail
          refine HG.out.mono ?_
          rintro e _ ⟨rfl, rfl⟩
          go_wp2
          go_ret
          rw [HV.out]
          exact ⟨rfl, HRD.out.setE 6, (Keep2.refl g g w).grown (grownBy_setCell _ _ _ _)⟩
      · have g1 : decide (n < lo) = false := by rw [decide_eq_false_iff_not]; omega
        have g2 : decide (n > hi) = false := by rw [decide_eq_false_iff_not]; omega
        have hv : numR lo hi (l, 0) = (n, (l.drop u, 0)) := by unfold numR; rw [HD.out]; simp only; rw [if_neg (by simp), if_neg (by simp), if_neg hrng]
        have HV := Lib.hid hv
        clear hv hrng
        obtain ⟨i0, hi0, hz0, hz1, hz2⟩ := info_parts info_u8
        go_enter Try.func67, Try.ntmps67
        go_wp2_with fail
        refine HG.out.mono ?_
        rintro e _ ⟨rfl, rfl⟩
        go_wp2_with (first
          | ((with_reducible show wpList _ _ _ (⟨some 48, _, _, _, _, _⟩ :: _) _ _); go_must (refine wpList_sliceB _ rfl (.tmp 46) (some (.tmp 47)) none 57 rfl 5 i0 1 Try.underlying57 hi0 hz1 A N c (u8s l) rfl (HR.out.kept fun b hb => Below.heap_setCell _ _ _ _ (show b ≠ g by omega)).rd hlc u N (.inr ⟨_, .i64, rfl, rfl⟩) (.inl ⟨rfl, rfl⟩) hle.1 (Nat.le_refl _) ?_); intro A5 hr5 hA5)
          | fail)
        go_ret
        rw [HV.out]
        have e5 : List.take ((N - u) * 1) (List.drop (u * 1) (u8s l)) = u8s (l.drop u) := by
          rw [Nat.mul_one, Nat.mul_one, List.take_of_length_le (by rw [List.length_drop, u8s_length, HN.out]; omega), u8s, u8s, List.map_drop]
        rw [e5] at hr5
        refine ⟨rfl, ⟨A5, c - u, ?_, ?_, ?_, ?_, ?_, hBg⟩, ((Keep2.refl g g w).grown (grownBy_setCell _ _ _ _)).grown (grownBy_setCell _ _ _ _)⟩
        · have := (HB.out.set 1 (.int .i64 0)).set 0 (.slice A5 (N - u) (c - u))
          simp only [List.length_drop, HN.out]
          exact this
        · simp only [List.length_drop, HN.out]; omega
        · omega
        · simp only [List.length_drop, HN.out]; omega
        · have h5 := RdB.cut (HR.out.kept (w' := w.setCell ⟨g, 1, none⟩ (.int .i64 0)) fun b hb => Below.heap_setCell _ _ _ _ (show b ≠ g by omega)) hr5 hA5 (by rw [u8s_length, u8s_length, List.length_drop]; omega)
          exact h5.kept fun b hb => Below.heap_setCell _ _ _ _ (show b ≠ g by omega)
    · have hv : numR lo hi (l, 0) = (0, (l, er)) := by unfold numR; rw [HD.out]; simp only; rw [if_neg (by simp), if_pos her]
      have HV := Lib.hid hv
      have HRD : Hid (Rdr w B g 103 (l, 0)) := Lib.hid ⟨A, c, by rw [HN.out]; exact HB.out, by rw [HN.out]; exact hlc, hcm, by rw [HN.out]; exact hl6, HR.out, hBg⟩
      have g1 : ((er : Int) == 0) = false := by rw [beq_eq_false_iff_ne]; omega
      have g2 : ((er : Int) != 0) = true := by rw [bne_iff_ne]; omega
      clear hv her
      go_enter Try.func67, Try.ntmps67
      go_wp2_with fail
      refine HG.out.mono ?_
      rintro e _ ⟨rfl, rfl⟩
      go_wp2
      go_ret
      rw [HV.out]
      exact ⟨rfl, HRD.out.setE er, (Keep2.refl g g w).grown (grownBy_setCell _ _ _ _)⟩
  · have hne : ((s.2 : Int) != 0) = true := by rw [bne_iff_ne]; omega
    have HV := Lib.hid (numR_bad (lo := lo) (hi := hi) h0)
    have HX := Lib.hid h
    have k1 := h.er
    obtain ⟨e, hee⟩ : ∃ e, s.2 = e := ⟨_, rfl⟩
    rw [hee] at hne k1
    clear h h0 hee
    go_enter Try.func67, Try.ntmps67
    go_wp2
    go_ret
    rw [HV.out]
    exact ⟨rfl, HX.out, Keep2.refl _ _ _⟩

end Go.Proofs.Ytcjeclddpkinkaa
