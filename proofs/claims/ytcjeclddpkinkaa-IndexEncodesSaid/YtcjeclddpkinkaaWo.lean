/- The contracts of the reference's SameInts and SameDigests: two rows compared. -/
import Derived.Test.YtcjeclddpkinkaaWn
import Derived.ChangeKeysEq
import Derived.Laws.StructEq
set_option linter.unusedSimpArgs false
set_option linter.unusedVariables false
namespace Go.Proofs.Ytcjeclddpkinkaa
open Go.RowKit

theorem u8_und : Try.prog.underlying 5 = some (.int .u8) := by kernel_rfl
theorem dg_und : Try.prog.underlying 95 = some (.array 16 5) := by kernel_rfl
theorem u8_one : Try.prog.cellsOf 5 = 1 := by kernel_rfl
theorem u8_plain : Try.prog.plainKey 5 = true := by kernel_rfl
theorem dg_guard : Try.prog.eqGuardType Try.prog.depth 95 = false := by kernel_rfl
theorem u8_info : ∃ i, Try.prog.info? 5 = some i := Option.isSome_iff_exists.1 (by kernel_rfl)
theorem run_eqInt {P : Program} {w : World} {t : TypeId} {k : IntKind} (hu : P.underlying t = some (.int k)) (d : Nat) (a b : Int) : (Op.equalIn (d + 1) t (.int k a) (.int k b)).run P w = .ok (a == b) w := by
  simp [Op.equalIn, run_underlying hu]

section
variable {w : World}
theorem run_part8 (x : List UInt8) (i : Nat) (hi : i < x.length) : (part 5 (u8s x).toArray i).run Try.prog w = .ok (.int .u8 ((x.getD i 0).toNat)) w := by
  refine run_part_plain w u8_plain ?_
  rw [List.getElem?_toArray]
  exact u8s_at hi
theorem run_eqItems8 (d : Nat) (x y : List UInt8) : ∀ (is : List Nat), (∀ i ∈ is, i < x.length ∧ i < y.length) →
    (Op.eqItems (d + 1) 5 1 (u8s x).toArray (u8s y).toArray is).run Try.prog w = .ok (is.all fun i => x.getD i 0 == y.getD i 0) w
  | [], _ => by simp [Op.eqItems]
  | i :: is, h => by
    have hi := h i (by simp)
    have ih := run_eqItems8 d x y is (fun j hj => h j (by simp [hj]))
    simp only [Op.eqItems, Sem.run_bind, Nat.mul_one, run_part8 x i hi.1, run_part8 y i hi.2, run_eqInt u8_und, Result.andThen_ok]
    have he : (((x.getD i 0).toNat : Int) == (y.getD i 0).toNat) = (x.getD i 0 == y.getD i 0) := by
      rw [Bool.eq_iff_iff, beq_iff_eq, beq_iff_eq]
      constructor
      · intro h; exact UInt8.toNat_inj.1 (by omega)
      · intro h; rw [h]
    rw [he]
    cases hb : (x.getD i 0 == y.getD i 0)
    · rw [List.all_cons, hb]; rfl
    · rw [List.all_cons, hb]; simpa using ih
theorem all_range (x y : List UInt8) (n : Nat) (hx : x.length = n) (hy : y.length = n) : ((List.range n).all fun i => x.getD i 0 == y.getD i 0) = decide (x = y) := by
  rw [Bool.eq_iff_iff, List.all_eq_true, decide_eq_true_iff]
  constructor
  · intro h
    apply List.ext_getElem?
    intro i
    by_cases hi : i < n
    · have := h i (List.mem_range.2 hi)
      rw [beq_iff_eq] at this
      simp only [List.getD] at this
      rw [List.getElem?_eq_getElem (by omega), List.getElem?_eq_getElem (by omega)] at this ⊢
      simpa using this
    · rw [List.getElem?_eq_none (by omega), List.getElem?_eq_none (by omega)]
  · intro h; subst h; intro i _; simp
theorem run_equalDg (x y : List UInt8) (hx : x.length = 16) (hy : y.length = 16) : (Op.equal 95 (.agg (u8s x).toArray) (.agg (u8s y).toArray)).run Try.prog w = .ok (decide (x = y)) w := by
  obtain ⟨i, hi⟩ := u8_info
  unfold Op.equal
  rw [show Op.maxDepth = 9998 + 1 + 1 from rfl, run_equalIn_array w (9998 + 1) _ _ dg_und hi, u8_one, run_eqItems8 9998 x y _ (fun i h => by have := List.mem_range.1 h; omega), all_range x y 16 hx hy]
end

/-- an operation that yields a value in any world, in a quiet walk -/
theorem quiet_any {P : Program} {C : World → Prop} {o : Oper} {a : Act} {K : Act → Prop} (v : Value) (h : ∀ w, C w → (execOp a.eval o).run P w = .ok (.value v) w) (hk : K (a.put o.dst v)) : o.quiet P a C K :=
  ⟨v, fun w hw => by unfold Oper.quietAt; rw [h w hw]; exact ⟨rfl, rfl⟩, hk⟩
theorem quiet_loadAgg {P : Program} {t : TypeId} {n : Nat} (hT : AggOf P t n) {o : Oper} {a : Act} {K : Act → Prop} {w : World} (x : Operand) (ho : o.op = .load t x)
    (b off : Nat) (hx : a.eval x = .pointer (some ⟨b, off, none⟩)) (cs : List Value) (hl : cs.length = n) (hc : ∀ j u, cs[j]? = some u → w.cell? ⟨b, off + j, none⟩ = some u)
    (hk : K (a.put o.dst (.agg cs.toArray))) : o.quiet P a (fun w' => ∃ n, w' = w.drewN n) K := by
  refine quiet_any _ ?_ hk
  rintro w' ⟨m, rfl⟩
  unfold execOp
  rw [ho]
  simp only [Sem.run_bind, Sem.run_pure, hx, run_loadAgg hT (w.drewN m) b off cs hl hc, Result.andThen]
theorem quiet_neqDg {C : World → Prop} {o : Oper} {a : Act} {K : Act → Prop} (p q : Operand) (r : TypeId) (ho : o.op = .binOp .neq 95 p q r) (x y : List UInt8) (hp : a.eval p = .agg (u8s x).toArray) (hq : a.eval q = .agg (u8s y).toArray)
    (hx : x.length = 16) (hy : y.length = 16) (z : Bool) (hz : (!(decide (x = y))) = z) (hk : K (a.put o.dst (.bool z))) : o.quiet Try.prog a C K := by
  subst hz
  refine quiet_any _ ?_ hk
  intro w _
  unfold execOp
  rw [ho]
  simp only [Sem.run_bind, Sem.run_pure, hp, hq, run_eqGuard_agg w BinOp.neq 95 p q (u8s x).toArray (u8s y).toArray dg_guard, binOp, run_equalDg x y hx hy, Result.andThen]


set_option maxRecDepth 100000 in
set_option maxHeartbeats 400000 in
theorem sameints_calls (A B : Option Addr) (N M c d : Nat) (l m : List Int) (w : World) (hl : Rd w A (i64s l)) (hm : Rd w B (i64s m)) (hNl : l.length = N) (hMm : m.length = M) (hll : N ≤ 17592186044416) (hml : M ≤ 17592186044416) (r : Bool) (hb : r = true ↔ l = m) :
    Calls Try.prog 22 #[.slice A N c, .slice B M d] w fun e w' => e = .returned (.bool r) ∧ Drawn w w' := by
  subst hNl; subst hMm
  have HB := Lib.hid hb; clear hb
  by_cases hlen : (l.length : Int) = m.length
  · have hne : ((l.length : Int) != m.length) = false := by rw [hlen]; simp
    have hle : l.length = m.length := by omega
    have HE := Lib.hid hle; clear hle hlen
    obtain ⟨N, hN⟩ : ∃ N, l.length = N := ⟨_, rfl⟩
    obtain ⟨M, hM⟩ : ∃ M, m.length = M := ⟨_, rfl⟩
    rw [hN, hM] at hne HE
    rw [hN] at hll ⊢
    rw [hM] at hml ⊢
    have HN := Lib.hid hN; have HM := Lib.hid hM; clear hN hM
    go_enter Try.func22, Try.ntmps22
    go_wp2
    go_loopg [5] N (fun g i wr => ∃ k : Nat, i = .int .i64 (k : Int) ∧ k ≤ N ∧ N - k ≤ g ∧ Hid (l.take k = m.take k) ∧ Drawn w wr)
    case atStart => exact ⟨0, rfl, by omega, by omega, Lib.hid rfl, Drawn.refl _⟩
    case round =>
      obtain ⟨k, rfl, hk, hg, HT, ⟨q, rfl⟩⟩ := hrel
      by_cases hkN : k < N
      · have h1 : k < l.length := by rw [HN.out]; exact hkN
        have h2 : k < m.length := by rw [HM.out, ← HE.out]; exact hkN
        have hkM : k < M := by rw [← HE.out]; exact hkN
        obtain ⟨b1, o1, rfl, hc1⟩ := hl (by rw [i64s_length]; omega)
        obtain ⟨b2, o2, rfl, hc2⟩ := hm (by rw [i64s_length]; omega)
        have hx1 := hc1 k _ (i64s_at h1)
        have hx2 := hc2 k _ (i64s_at h2)
        have ht1 : l.take (k + 1) = l.take k ++ [l.getD k 0] := by rw [List.take_add_one, List.getD, List.getElem?_eq_getElem h1]; rfl
        have ht2 : m.take (k + 1) = m.take k ++ [m.getD k 0] := by rw [List.take_add_one, List.getD, List.getElem?_eq_getElem h2]; rfl
        have hlk : l.getD k 0 = l[k] := by simp [List.getD, h1]
        have hmk : m.getD k 0 = m[k] := by simp [List.getD, h2]
        obtain ⟨x, hx⟩ : ∃ x, l.getD k 0 = x := ⟨_, rfl⟩
        obtain ⟨y, hy⟩ : ∃ y, m.getD k 0 = y := ⟨_, rfl⟩
        rw [hx] at hx1 ht1
        rw [hy] at hx2 ht2
        have HT1 := Lib.hid ht1; have HT2 := Lib.hid ht2
        have HX := Lib.hid hx; have HY := Lib.hid hy
        clear ht1 ht2 hc1 hc2 hl hm hx hy hlk hmk h1 h2
        by_cases hxy : x = y
        · subst hxy
          have hz : (x != x) = false := by simp
          go_wp2
          go_quiet (fail)
          go_wp2
          go_roundg (N - (k + 1))
          case measure => omega
          case rel => exact ⟨k + 1, by go_num, by omega, by omega, Lib.hid (by rw [HT1.out, HT2.out, HT.out]), by repeat (first | exact Drawn.refl _ | refine Drawn.step ?_ _)⟩
        · have hz : (x != y) = true := by
            rw [bne_iff_ne]; exact hxy
          have hr : r = false := by
            cases r with
            | false => rfl
            | true =>
              have := HB.out.1 rfl
              exact absurd (by rw [← HX.out, ← HY.out, this]) hxy
          subst hr
          clear hxy
          go_wp2
          go_quiet (fail)
          go_wp2
          go_ret
          exact ⟨rfl, by repeat (first | exact Drawn.refl _ | refine Drawn.step ?_ _)⟩
      · have hr : r = true := HB.out.2 (by
          have := HT.out
          have hk2 : k = N := by omega
          rwa [List.take_of_length_le (by rw [HN.out]; omega), List.take_of_length_le (by rw [HM.out, ← HE.out]; omega)] at this)
        subst hr
        go_wp2
        go_ret
        exact ⟨rfl, by repeat (first | exact Drawn.refl _ | refine Drawn.step ?_ _)⟩
  · have hne : ((l.length : Int) != m.length) = true := by rw [bne_iff_ne]; exact hlen
    have hr : r = false := by
      cases r with
      | false => rfl
      | true => exact absurd (by rw [HB.out.1 rfl]) hlen
    subst hr
    clear hlen
    go_enter Try.func22, Try.ntmps22
    go_wp2
    go_ret
    exact ⟨rfl, Drawn.refl _⟩


set_option maxRecDepth 100000 in
set_option maxHeartbeats 400000 in
/-- the reference's SameDigests -/
theorem samedigests_calls (A B : Option Addr) (N M c d : Nat) (l m : List Wz.Dg) (w : World) (hl : Rd w A (u8s (Wz.flat l))) (hm : Rd w B (u8s (Wz.flat m))) (hNl : l.length = N) (hMm : m.length = M) (hll : N ≤ 1000000000000) (hml : M ≤ 1000000000000) (r : Bool) (hb : r = true ↔ l = m) :
    Calls Try.prog 56 #[.slice A N c, .slice B M d] w fun e w' => e = .returned (.bool r) ∧ Drawn w w' := by
  subst hNl; subst hMm
  have HB := Lib.hid hb; clear hb
  by_cases hlen : (l.length : Int) = m.length
  · have hne : ((l.length : Int) != m.length) = false := by rw [hlen]; simp
    have hle : l.length = m.length := by omega
    have HE := Lib.hid hle; clear hle hlen
    obtain ⟨N, hN⟩ : ∃ N, l.length = N := ⟨_, rfl⟩
    obtain ⟨M, hM⟩ : ∃ M, m.length = M := ⟨_, rfl⟩
    rw [hN, hM] at hne HE
    rw [hN] at hll ⊢
    rw [hM] at hml ⊢
    have HN := Lib.hid hN; have HM := Lib.hid hM; clear hN hM
    go_enter Try.func56, Try.ntmps56
    go_wp2
    go_loopg [5] N (fun g i wr => ∃ k : Nat, i = .int .i64 (k : Int) ∧ k ≤ N ∧ N - k ≤ g ∧ Hid (l.take k = m.take k) ∧ Drawn w wr)
    case atStart => exact ⟨0, rfl, by omega, by omega, Lib.hid rfl, Drawn.refl _⟩
    case round =>
      obtain ⟨k, rfl, hk, hg, HT, ⟨q, rfl⟩⟩ := hrel
      by_cases hkN : k < N
      · have h1 : k < l.length := by rw [HN.out]; exact hkN
        have h2 : k < m.length := by rw [HM.out, ← HE.out]; exact hkN
        have hkM : k < M := by rw [← HE.out]; exact hkN
        obtain ⟨b1, o1, rfl, hc1⟩ := hl (by rw [u8s_length, Wz.flat_length]; omega)
        obtain ⟨b2, o2, rfl, hc2⟩ := hm (by rw [u8s_length, Wz.flat_length]; omega)
        have hx1 := dg_cell h1 hc1
        have hx2 := dg_cell h2 hc2
        have ht1 : l.take (k + 1) = l.take k ++ [l[k]] := by rw [List.take_add_one, List.getElem?_eq_getElem h1]; rfl
        have ht2 : m.take (k + 1) = m.take k ++ [m[k]] := by rw [List.take_add_one, List.getElem?_eq_getElem h2]; rfl
        have hsame : l[k] ≠ m[k] → l ≠ m := fun hn he => hn (by subst he; rfl)
        obtain ⟨x, hx⟩ : ∃ x, l[k] = x := ⟨_, rfl⟩
        obtain ⟨y, hy⟩ : ∃ y, m[k] = y := ⟨_, rfl⟩
        rw [hx] at hx1 ht1 hsame
        rw [hy] at hx2 ht2 hsame
        obtain ⟨x, x16⟩ := x
        obtain ⟨y, y16⟩ := y
        simp only at hx1 hx2
        have hxl : (u8s x).length = 16 := by rw [u8s_length]; exact x16
        have hyl : (u8s y).length = 16 := by rw [u8s_length]; exact y16
        have HXL := Lib.hid hxl; have HYL := Lib.hid hyl
        have HX16 := Lib.hid x16; have HY16 := Lib.hid y16
        have HT1 := Lib.hid ht1; have HT2 := Lib.hid ht2; have HS := Lib.hid hsame
        have HX1 := Lib.hid hx1; have HX2 := Lib.hid hx2
        clear ht1 ht2 hc1 hc2 hl hm hx hy hsame h1 h2 hx1 hx2 hxl hyl
        by_cases hxy : x = y
        · have hz : (!(decide (x = y))) = false := by rw [decide_eq_true hxy]; rfl
          have HZ := Lib.hid hz
          have HXY := Lib.hid hxy
          clear hz hxy
          go_wp2
          refine wp_region_quiet_lit (by kernel_rfl) (by kernel_rfl) ?_
          repeat (first
            | go_big_quiet_skip
            | (go_big_quiet_want; refine quiet_loadAgg agg_dg (.tmp 19) rfl b1 (o1 + k * 16) rfl (u8s x) HXL.out HX1.out ?_; go_simp; go_big_quiet_on)
            | (go_big_quiet_want; refine quiet_loadAgg agg_dg (.tmp 23) rfl b2 (o2 + k * 16) rfl (u8s y) HYL.out HX2.out ?_; go_simp; go_big_quiet_on)
            | (go_big_quiet_want; refine quiet_neqDg (.tmp 20) (.tmp 24) _ rfl x y rfl rfl HX16.out HY16.out false HZ.out ?_; go_simp; go_big_quiet_on)
            | (go_big_quiet_want; go_big_quiet_op; go_big_quiet_on))
          refine wpQuiet_nil ?_
          rintro _ ⟨nq, rfl⟩
          go_wp2
          go_roundg (N - (k + 1))
          case measure => omega
          case rel => exact ⟨k + 1, by go_num, by omega, by omega, Lib.hid (by rw [HT1.out, HT2.out, HT.out]; congr 2; exact Subtype.ext HXY.out), by repeat (first | exact Drawn.refl _ | refine Drawn.step ?_ _)⟩
        · have hz : (!(decide (x = y))) = true := by rw [decide_eq_false hxy]; rfl
          have HZ := Lib.hid hz
          clear hz
          have hr : r = false := by
            cases r with
            | false => rfl
            | true => exact absurd (HB.out.1 rfl) (HS.out (by intro h; exact hxy (congrArg Subtype.val h)))
          subst hr
          clear hxy
          go_wp2
          refine wp_region_quiet_lit (by kernel_rfl) (by kernel_rfl) ?_
          repeat (first
            | go_big_quiet_skip
            | (go_big_quiet_want; refine quiet_loadAgg agg_dg (.tmp 19) rfl b1 (o1 + k * 16) rfl (u8s x) HXL.out HX1.out ?_; go_simp; go_big_quiet_on)
            | (go_big_quiet_want; refine quiet_loadAgg agg_dg (.tmp 23) rfl b2 (o2 + k * 16) rfl (u8s y) HYL.out HX2.out ?_; go_simp; go_big_quiet_on)
            | (go_big_quiet_want; refine quiet_neqDg (.tmp 20) (.tmp 24) _ rfl x y rfl rfl HX16.out HY16.out true HZ.out ?_; go_simp; go_big_quiet_on)
            | (go_big_quiet_want; go_big_quiet_op; go_big_quiet_on))
          refine wpQuiet_nil ?_
          rintro _ ⟨nq, rfl⟩
          go_wp2
          go_ret
          exact ⟨rfl, by repeat (first | exact Drawn.refl _ | refine Drawn.step ?_ _)⟩
      · have hr : r = true := HB.out.2 (by
          have := HT.out
          have hk2 : k = N := by omega
          rwa [List.take_of_length_le (by rw [HN.out]; omega), List.take_of_length_le (by rw [HM.out, ← HE.out]; omega)] at this)
        subst hr
        go_wp2
        go_ret
        exact ⟨rfl, by repeat (first | exact Drawn.refl _ | refine Drawn.step ?_ _)⟩
  · have hne : ((l.length : Int) != m.length) = true := by rw [bne_iff_ne]; exact hlen
    have hr : r = false := by
      cases r with
      | false => rfl
      | true => exact absurd (by rw [HB.out.1 rfl]) hlen
    subst hr
    clear hlen
    go_enter Try.func56, Try.ntmps56
    go_wp2
    go_ret
    exact ⟨rfl, Drawn.refl _⟩

end Go.Proofs.Ytcjeclddpkinkaa
