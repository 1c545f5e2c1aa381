/- From a law's walk to its row: the arguments are opened once, the law answers true, the arguments read as they did. -/
import Derived.Test.YtcjeclddpkinkaaB3
import Derived.Test.YtcjeclddpkinkaaRows
import Derived.ProofKit
import Derived.SizedLaws
import Derived.ChangeMaps5
import Derived.OpenShut
set_option linter.unusedSimpArgs false
set_option linter.unusedVariables false
namespace Go.Proofs.Ytcjeclddpkinkaa
open Go.ChangeShapes Go.WideShapes Go.ChangeAt Go.RowKit

theorem Try.own : ownKnob Try.prog.godebug = none := by kernel_rfl
theorem Try.laidOut : laidOutB Try.prog = true := by kernel_rfl

def readsB (P : Program) (ts : List TypeId) : Bool := ts.all fun t => P.readableRec t && decide (t < P.types.size)

theorem below_trodAll {H : Type} {enc : TypeId × Value → H} {P : Program} (hl : laidOutB P = true) {W W' : World} (hb : Below W.heap.size W W') : ∀ {ts : List TypeId} {vs : List Value} {ds : List (DataW H)} {ps : List MemPlace},
    readsB P ts = true → DataW.TrodAll enc P W 0 (fun _ => true) true ts vs ds ps → (∀ x ∈ ps, x.block < W.heap.size) → DataW.TrodAll enc P W' 0 (fun b => decide (b < W.heap.size)) true ts vs ds ps
  | [], [], [], _, _, h, _ => h
  | [], [], _ :: _, _, _, h, _ => h.elim
  | [], _ :: _, _, _, _, h, _ => h.elim
  | _ :: _, [], _, _, _, h, _ => h.elim
  | _ :: _, _ :: _, [], _, _, h, _ => h.elim
  | t :: ts, v :: vs, d :: ds, ps, hr, h, hlt => by
    obtain ⟨p, q, h1, h2, rfl⟩ := h
    simp only [readsB, List.all_cons, Bool.and_eq_true, decide_eq_true_eq] at hr
    exact ⟨p, q, Below.trod hl hr.1.1 hr.1.2 h1 hb (fun x hx => hlt x (List.mem_append_left _ hx)), below_trodAll hl hb (by simpa [readsB] using hr.2) h2 (fun x hx => hlt x (List.mem_append_right _ hx)), rfl⟩

set_option maxRecDepth 100000 in
/-- A LAW THAT ANSWERS TRUE AND LEAVES ALL MEMORY THAT IT FOUND -/
theorem lift_law {f : FuncId} {fn : Func} {s : ChangeSpec} (os : Os) (started : os.Started) (H : Type) (enc : TypeId × Value → H) (hfn : Try.checked.prog.funcs[f]? = some fn) (noInit : Try.checked.prog.inits.idxOf? f = none)
    (witness : ∃ (w : World) (tape : Tape) (i : Input), w.os = os ∧ (w.forCall tape i).Shaped Try.checked.prog ∧ i.vars = [] ∧ Input.okWide Try.checked.prog (w.forCall tape i) .any w.heap.size f i ∧
      s.pre6 enc Try.checked.prog fn [] false (w.forCall tape i).memory i.args ∧ Assume.holds {} Try.checked.prog (lone (Frame.enter Try.checked.prog f i.args .normal) [] (w.forCall tape i)))
    (hv : s.vars = []) (hreads : readsB Try.prog fn.params.toList = true) (hres : fn.resultTypes = #[4])
    (hs : ∀ W args ds p, DataW.TrodAll enc Try.prog W 0 (fun _ => true) true fn.params.toList args ds p → s.fn H (ds ++ []) = { results := [.lit (.bool true)], args := ds })
    (law : ∀ (W : World) (base : Nat) (args : Array Value) (ds : List (DataW H)) (p : List MemPlace), (∀ (j : Nat) t v, fn.params[j]? = some t → args[j]? = some v → Value.okWide Try.prog W .any base t v) →
      DataW.TrodAll enc Try.prog W 0 (fun _ => true) true fn.params.toList args.toList ds p → (DataW.weightsEach Try.prog (fn.params.toList ++ s.plain.varTypes Try.prog) (ds ++ [])).all (· ≤ reachBytes) = true → Calls Try.prog f args W (RetT W)) :
    ReturnsInHanded {} Try.checked os f .any (s.pre6 enc Try.checked.prog fn [] false) (s.post enc Try.checked.prog fn false true false false) := by
  refine returnsInHanded_of_change_sized (C := Try.checked) Try.own started noInit hfn witness ?_
  intro W base args ds gs before hval0 hW _ hsz0 _
  have hW' := hW
  obtain ⟨p, q, hA, hV, rfl, _, _⟩ := hW
  rw [hv] at hV
  obtain ⟨rfl, rfl⟩ := trodVars_none hV
  simp only [List.append_nil] at hW'
  have hlt : ∀ x ∈ p, x.block < W.heap.size := fun x hx => by simpa using hW'.lt x hx
  refine (law W base args ds p hval0 hA hsz0).mono ?_
  rintro e W' ⟨rfl, hE⟩
  have hspec := hs W _ ds p hA
  refine ⟨_, rfl, ds, [], p, [], p, [], hW', ?_, ?_, ?_, Below.frame hE _, fun h => by cases h⟩
  · rw [hspec, hres]
    exact trodAll_mk1 (shut_bool Try.underlying4 true)
  · rw [hspec]
    exact below_trodAll Try.laidOut hE hreads hA hlt
  · rw [hspec, hv]; rfl


/-! ### the arguments opened -/
section
variable {H : Type} {enc : TypeId × Value → H} {W : World} {base : Nat} {p : List MemPlace} {d : DataW H} {v : Value}
theorem Try.und_u8 : Try.prog.underlying 5 = some (.int .u8) := by kernel_rfl
theorem Try.und_int : Try.prog.underlying 3 = some (.int .i64) := by kernel_rfl
theorem Try.und_dg : Try.prog.underlying 95 = some (.array 16 5) := by kernel_rfl
theorem Try.und_bs : Try.prog.underlying 57 = some (.slice 5) := by kernel_rfl
theorem Try.und_is : Try.prog.underlying 30 = some (.slice 3) := by kernel_rfl
theorem Try.und_ds : Try.prog.underlying 55 = some (.slice 95) := by kernel_rfl
theorem Try.und_str : Try.prog.underlying 9 = some .string := by kernel_rfl
theorem Try.cells_u8 : Try.prog.cellsOf 5 = 1 := by kernel_rfl
theorem Try.cells_int : Try.prog.cellsOf 3 = 1 := by kernel_rfl
theorem Try.cells_dg : Try.prog.cellsOf 95 = 16 := by kernel_rfl

theorem wf_u8 {n : Int} (h : (Lit.int .u8 n).wf = true) : n = ((UInt8.ofNat n.toNat).toNat : Int) := by
  have h1 : IntKind.u8.min = 0 := rfl
  have h2 : IntKind.u8.max = 255 := rfl
  simp only [Lit.wf, Bool.and_eq_true, decide_eq_true_eq] at h
  rw [UInt8.toNat_ofNat', Nat.mod_eq_of_lt (by omega)]
  omega
theorem wf_i64 {n : Int} (h : (Lit.int .i64 n).wf = true) : -9223372036854775808 ≤ n ∧ n ≤ 9223372036854775807 := by
  have h1 : IntKind.i64.min = -9223372036854775808 := rfl
  have h2 : IntKind.i64.max = 9223372036854775807 := rfl
  simp only [Lit.wf, Bool.and_eq_true, decide_eq_true_eq] at h
  omega

set_option maxRecDepth 100000 in
theorem opens_int {t : TypeId} (ht : Try.prog.underlying t = some (.int .i64)) (hval : Value.okWide Try.prog W .any base t v) (h : DataW.Trod enc Try.prog W 0 (fun _ => true) true t v d p) :
    ∃ n : Int, v = .int .i64 n ∧ -9223372036854775808 ≤ n ∧ n ≤ 9223372036854775807 := by
  obtain ⟨n, rfl, _, _, hw⟩ := open_int ht hval h
  exact ⟨n, rfl, wf_i64 hw⟩

set_option maxRecDepth 100000 in
theorem opens_str {ts : List TypeId} {xs : List (DataW H)} {j : Nat} (hsz : (DataW.weightsEach Try.prog ts xs).all (· ≤ reachBytes) = true) (hj : ts[j]? = some 9) (hx : xs[j]? = some d)
    (hval : Value.okWide Try.prog W .any base 9 v) (h : DataW.Trod enc Try.prog W 0 (fun _ => true) true 9 v d p) : ∃ s : ByteArray, v = .string s ∧ s.size ≤ 140737488351232 := by
  obtain ⟨s, rfl, rfl, _, _⟩ := Go.ChangeMaps.open_string Try.und_str hval h
  have := sized_string hsz hj hx
  refine ⟨s, rfl, ?_⟩
  have e : s.data.toList.length = s.size := rfl
  unfold reachBytes at this
  omega

set_option maxRecDepth 100000 in
theorem opens_8 {ts : List TypeId} {xs : List (DataW H)} {j : Nat} (hsz : (DataW.weightsEach Try.prog ts xs).all (· ≤ reachBytes) = true) (hj : ts[j]? = some 57) (hx : xs[j]? = some d)
    (hval : Value.okWide Try.prog W .any base 57 v) (h : DataW.Trod enc Try.prog W 0 (fun _ => true) true 57 v d p) :
    ∃ A N c l, v = .slice A N c ∧ Rd W A (u8s l) ∧ l.length = N ∧ N ≤ c ∧ c ≤ maxLen ∧ N ≤ 140737488351232 := by
  obtain ⟨a0, len, cap, rfl⟩ := okWide_slice Try.und_bs hval
  obtain ⟨fuel, hf⟩ := h
  rcases open_ints Try.und_bs Try.und_u8 Try.cells_u8 hf with ⟨hcs, _⟩ | ⟨a, len', cap', zs, hcs, _, hl, hm, hz, he, hcell, hwz⟩
  · simp [Value.cells] at hcs
    obtain ⟨rfl, rfl, rfl⟩ := hcs
    exact ⟨_, _, _, [], rfl, Rd.nil _ _, rfl, Nat.le_refl _, Nat.zero_le _, Nat.zero_le _⟩
  · simp [Value.cells] at hcs
    obtain ⟨rfl, rfl, rfl⟩ := hcs
    simp only [if_true] at hz
    simp only [Prod.mk.injEq] at he
    obtain ⟨rfl, rfl⟩ := he
    have hb1 : Try.prog.bytesOf 5 = 1 := by kernel_rfl
    have hs := sized_slice hsz hj hx Try.und_bs
    rw [hb1] at hs
    simp only [lits, List.length_map, List.length_take, List.length_drop, reachBytes] at hs
    refine ⟨some a, len, cap, (zs.take len).map fun n => UInt8.ofNat n.toNat, rfl, ?_, by rw [List.length_map, List.length_take]; omega, hl, hm, by omega⟩
    intro hp
    have hlen : 0 < len := by
      rw [u8s_length, List.length_map, List.length_take] at hp; omega
    obtain ⟨b, off, spot⟩ := a
    have hspot : spot = none := by simpa [Addr.add] using World.cell?_spot (hcell 0 (by omega))
    subst hspot
    refine ⟨b, off, rfl, fun i u hu => ?_⟩
    have hi : i < len := by
      have := (List.getElem?_eq_some_iff.1 hu).1
      rw [u8s_length, List.length_map, List.length_take] at this; omega
    have hc := hcell i (by omega)
    have hg : zs.getD i 0 = zs[i]'(by omega) := by simp [List.getD, List.getElem?_eq_getElem (show i < zs.length by omega)]
    have hw := wf_u8 (hwz (zs[i]'(by omega)) (List.getElem_mem _))
    rw [← hg] at hw
    have hu2 : u = .int .u8 (zs.getD i 0) := by
      rw [u8s, List.getElem?_map, List.getElem?_map, List.getElem?_take, if_pos hi, List.getElem?_eq_getElem (by omega)] at hu
      simp only [Option.map_some, Option.some.injEq] at hu
      rw [← hu, ← hg, ← hw]
    rw [Addr.add_lit] at hc
    rw [hu2, hc]

set_option maxRecDepth 100000 in
theorem opens_64 {ts : List TypeId} {xs : List (DataW H)} {j : Nat} (hsz : (DataW.weightsEach Try.prog ts xs).all (· ≤ reachBytes) = true) (hj : ts[j]? = some 30) (hx : xs[j]? = some d)
    (hval : Value.okWide Try.prog W .any base 30 v) (h : DataW.Trod enc Try.prog W 0 (fun _ => true) true 30 v d p) :
    ∃ A N c l, v = .slice A N c ∧ Rd W A (i64s l) ∧ l.length = N ∧ N ≤ c ∧ c ≤ maxLen ∧ N ≤ 17592186043904 ∧ Wz.In64 l := by
  obtain ⟨a0, len, cap, rfl⟩ := okWide_slice Try.und_is hval
  obtain ⟨fuel, hf⟩ := h
  rcases open_ints Try.und_is Try.und_int Try.cells_int hf with ⟨hcs, _⟩ | ⟨a, len', cap', zs, hcs, _, hl, hm, hz, he, hcell, hwz⟩
  · simp [Value.cells] at hcs
    obtain ⟨rfl, rfl, rfl⟩ := hcs
    exact ⟨_, _, _, [], rfl, Rd.nil _ _, rfl, Nat.le_refl _, Nat.zero_le _, Nat.zero_le _, by intro x hx; simp at hx⟩
  · simp [Value.cells] at hcs
    obtain ⟨rfl, rfl, rfl⟩ := hcs
    simp only [if_true] at hz
    simp only [Prod.mk.injEq] at he
    obtain ⟨rfl, rfl⟩ := he
    have hb1 : Try.prog.bytesOf 3 = 8 := by kernel_rfl
    have hs := sized_slice hsz hj hx Try.und_is
    rw [hb1] at hs
    simp only [lits, List.length_map, List.length_take, List.length_drop, reachBytes] at hs
    refine ⟨some a, len, cap, zs.take len, rfl, ?_, by rw [List.length_take]; omega, hl, hm, by omega, fun x hx => wf_i64 (hwz x (List.mem_of_mem_take hx))⟩
    intro hp
    have hlen : 0 < len := by
      rw [i64s_length, List.length_take] at hp; omega
    obtain ⟨b, off, spot⟩ := a
    have hspot : spot = none := by simpa [Addr.add] using World.cell?_spot (hcell 0 (by omega))
    subst hspot
    refine ⟨b, off, rfl, fun i u hu => ?_⟩
    have hi : i < len := by
      have := (List.getElem?_eq_some_iff.1 hu).1
      rw [i64s_length, List.length_take] at this; omega
    have hc := hcell i (by omega)
    have hg : zs.getD i 0 = zs[i]'(by omega) := by simp [List.getD, List.getElem?_eq_getElem (show i < zs.length by omega)]
    have hu2 : u = .int .i64 (zs.getD i 0) := by
      rw [i64s, List.getElem?_map, List.getElem?_take, if_pos hi, List.getElem?_eq_getElem (by omega)] at hu
      simp only [Option.map_some, Option.some.injEq] at hu
      rw [← hu, ← hg]
    rw [Addr.add_lit] at hc
    rw [hu2, hc]

theorem addr_add_add (a : Addr) (m n : Nat) : (a.add m).add n = a.add (m + n) := by
  unfold Addr.add
  by_cases h1 : m = 0 <;> by_cases h2 : n = 0 <;> simp_all [Nat.add_assoc]

theorem list_of {α : Type} (P : Nat → α → Prop) : ∀ n, (∀ i, i < n → ∃ x, P i x) → ∃ l : List α, l.length = n ∧ ∀ i (h : i < l.length), P i l[i]
  | 0, _ => ⟨[], rfl, fun i h => by simp at h⟩
  | n + 1, h => by
    obtain ⟨l, hl, hp⟩ := list_of P n (fun i hi => h i (by omega))
    obtain ⟨x, hx⟩ := h n (by omega)
    refine ⟨l ++ [x], by simp [hl], fun i hi => ?_⟩
    rw [List.length_append, List.length_singleton] at hi
    by_cases h2 : i < l.length
    · rw [List.getElem_append_left h2]; exact hp i h2
    · have : i = l.length := by omega
      subst this
      rw [List.getElem_append_right (Nat.le_refl _)]
      simp only [Nat.sub_self, List.getElem_cons_zero]
      rw [hl]; exact hx

set_option maxRecDepth 100000 in
theorem opens_D {ts : List TypeId} {xs : List (DataW H)} {j : Nat} (hsz : (DataW.weightsEach Try.prog ts xs).all (· ≤ reachBytes) = true) (hj : ts[j]? = some 55) (hx : xs[j]? = some d)
    (hval : Value.okWide Try.prog W .any base 55 v) (h : DataW.Trod enc Try.prog W 0 (fun _ => true) true 55 v d p) :
    ∃ A N c l, v = .slice A N c ∧ Rd W A (u8s (Wz.flat l)) ∧ l.length = N ∧ N ≤ c ∧ c ≤ maxLen ∧ N ≤ 8796093021952 := by
  obtain ⟨a0, len, cap, rfl⟩ := okWide_slice Try.und_ds hval
  obtain ⟨fuel, hf⟩ := h
  rcases DataW.trod_slice Try.und_ds hf with ⟨hcs, _⟩ | ⟨a, len', cap', elems, rest, n, _, hcs, he, _, hl, hm, hlen, hel, _, _⟩
  · simp [Value.cells] at hcs
    obtain ⟨rfl, rfl, rfl⟩ := hcs
    exact ⟨_, _, _, [], rfl, Rd.nil _ _, rfl, Nat.le_refl _, Nat.zero_le _, Nat.zero_le _⟩
  · simp [Value.cells] at hcs
    obtain ⟨rfl, rfl, rfl⟩ := hcs
    simp only [Prod.mk.injEq] at he
    obtain ⟨rfl, rfl⟩ := he
    have hb1 : Try.prog.bytesOf 95 = 16 := by kernel_rfl
    have hs := sized_slice hsz hj hx Try.und_ds
    rw [hb1] at hs
    simp only [List.length_map, reachBytes] at hs
    have each : ∀ i, i < len → ∃ x : Wz.Dg, ∀ q, q < 16 → W.cell? (a.add (i * 16 + q)) = some (.int .u8 ((x.1.getD q 0).toNat)) := by
      intro i hi
      have h1 := hel i hi
      rw [Try.cells_dg, List.getElem?_eq_getElem (by omega), Option.bind_eq_some_iff] at h1
      obtain ⟨cs, hcs, hy⟩ := h1
      obtain ⟨_, hcl, hcc⟩ := World.cells?_some hcs
      obtain ⟨ys, m, _, _, _, hyl, hys⟩ := DataW.trod_array Try.und_dg hy
      rw [Try.cells_u8] at hys
      have h2 : ∀ q, q < 16 → ∃ c : UInt8, W.cell? (a.add (i * 16 + q)) = some (.int .u8 (c.toNat : Int)) := by
        intro q hq
        have h3 := hys q hq
        rw [List.getElem?_eq_getElem (by omega), Nat.mul_one] at h3
        obtain ⟨z, e1, _, hw⟩ := DataW.trod_int Try.und_u8 h3
        refine ⟨UInt8.ofNat z.toNat, ?_⟩
        rw [← wf_u8 hw]
        have h4 := hcc q hq
        have e2 : cs[q]? = some (.int .u8 z) := by
          have := congrArg (fun l => l[0]?) e1
          simpa [List.getElem?_take, List.getElem?_drop] using this
        rw [← e2, ← h4, addr_add_add]
      obtain ⟨l, hll, hlp⟩ := list_of (fun q (c : UInt8) => W.cell? (a.add (i * 16 + q)) = some (.int .u8 (c.toNat : Int))) 16 h2
      refine ⟨⟨l, hll⟩, fun q hq => ?_⟩
      have h5 := hlp q (by omega)
      rw [h5]
      simp [List.getD, List.getElem?_eq_getElem (show q < l.length by omega)]
    obtain ⟨l, hll, hlp⟩ := list_of (fun i (x : Wz.Dg) => ∀ q, q < 16 → W.cell? (a.add (i * 16 + q)) = some (.int .u8 ((x.1.getD q 0).toNat))) len each
    refine ⟨some a, len, cap, l, rfl, ?_, hll, hl, hm, by omega⟩
    intro hp
    have hlen0 : 0 < len := by
      rw [u8s_length, Wz.flat_length] at hp; omega
    obtain ⟨b, off, spot⟩ := a
    have hspot : spot = none := by simpa [Addr.add] using World.cell?_spot (hlp 0 (by omega) 0 (by omega))
    subst hspot
    refine ⟨b, off, rfl, fun i u hu => ?_⟩
    have hi : i < 16 * len := by
      have := (List.getElem?_eq_some_iff.1 hu).1
      rw [u8s_length, Wz.flat_length] at this; omega
    have hk : i / 16 < l.length := by omega
    have hpt := Wz.flat_part hk
    have hget : (Wz.flat l)[i]? = (l[i / 16]).1[i % 16]? := by
      rw [← hpt, List.getElem?_take, if_pos (by omega), List.getElem?_drop]
      congr 1
      omega
    have hc := hlp (i / 16) hk (i % 16) (by omega)
    have hq : i % 16 < (l[i / 16]).1.length := by rw [(l[i / 16]).2]; omega
    rw [u8s, List.getElem?_map, hget, List.getElem?_eq_getElem hq] at hu
    simp only [Option.map_some, Option.some.injEq] at hu
    rw [← hu]
    have e3 : (l[i / 16]).1.getD (i % 16) 0 = (l[i / 16]).1[i % 16] := by simp [List.getD, List.getElem?_eq_getElem hq]
    rw [e3, show i / 16 * 16 + i % 16 = i from by omega, Addr.add_lit] at hc
    rw [← hc]
end

end Go.Proofs.Ytcjeclddpkinkaa
