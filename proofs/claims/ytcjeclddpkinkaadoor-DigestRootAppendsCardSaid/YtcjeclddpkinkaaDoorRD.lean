/- From a law's walk to its row, where the row lists variables of the program: the variables, the arguments opened, the law answers true, the arguments read as they did. -/
import Derived.Test.YtcjeclddpkinkaaDoorD27
import Derived.Test.YtcjeclddpkinkaaDoorRows
import Derived.Test.YtcjeclddpkinkaaDoorTie
import Derived.Test.YtcjeclddpkinkaaDoorCards
import Derived.ProofKit
import Derived.SizedLaws
import Derived.ChangeMaps5
import Derived.LaidMore
import Derived.OpenShut
import Derived.Stop.Joined
import Derived.SevenTiedAt
set_option linter.unusedSimpArgs false
set_option linter.unusedVariables false
namespace Go.Proofs.YtcjeclddpkinkaaDoor
open Go.ChangeShapes Go.WideShapes Go.ChangeAt Go.RowKit

theorem Tryd.own : ownKnob Tryd.prog.godebug = none := by kernel_rfl
theorem Tryd.laidOut : laidOutB Tryd.prog = true := by kernel_rfl

namespace Wz
theorem flat_drop (d : List Dg) : ∀ k, (flat d).drop (16 * k) = flat (d.drop k) := by
  induction d with
  | nil => intro k; simp [flat]
  | cons x d ih =>
    intro k
    cases k with
    | zero => simp
    | succ k =>
      have e : flat (x :: d) = x.1 ++ flat d := rfl
      rw [e, List.drop_succ_cons, ← ih k, show 16 * (k + 1) = x.1.length + 16 * k from by rw [x.2]; omega, List.drop_length_add_append]
theorem flat_part {d : List Dg} {k : Nat} (hk : k < d.length) : ((flat d).drop (16 * k)).take 16 = (d[k]).1 := by
  rw [flat_drop, List.drop_eq_getElem_cons hk]
  have e : flat (d[k] :: d.drop (k + 1)) = (d[k]).1 ++ flat (d.drop (k + 1)) := rfl
  rw [e, List.take_append_of_le_length (by rw [(d[k]).2]; omega), List.take_of_length_le (by rw [(d[k]).2]; omega)]
end Wz

/-! ### the listed variables -/
abbrev laid3 : List (String × DataW Unit) := [("solvent/solventref02.constants", Rows.laid_solvent_solventref02_constants), ("solvent/digest.constants", Rows.laid_solvent_digest_constants), ("solvent/digest.start", Rows.laid_solvent_digest_start)]
abbrev laid2 : List (String × DataW Unit) := [("solvent/digest.constants", Rows.laid_solvent_digest_constants), ("solvent/digest.start", Rows.laid_solvent_digest_start)]
def litsU (l : List UInt32) : DataW Unit := .agg (l.map fun k => .lit (.int .u32 (k.toNat : Int)))
theorem lits_refc : (Rows.laid_solvent_solventref02_constants : DataW Unit) = litsU Kc := by kernel_rfl
theorem lits_progc : (Rows.laid_solvent_digest_constants : DataW Unit) = litsU Kc := by kernel_rfl
theorem lits_start : (Rows.laid_solvent_digest_start : DataW Unit) = litsU H0 := by kernel_rfl
theorem und_u32 : Tryd.prog.underlying 133 = some (.int .u32) := by kernel_rfl
theorem cells_u32 : Tryd.prog.cellsOf 133 = 1 := by kernel_rfl
theorem laid_words {enc : TypeId × Value → Unit} {W : World} {base : Nat} {sp : Nat → Bool} {held : Bool} {fuel : Nat} {t : TypeId} {cs : List Value} {n : Nat} {l : List UInt32} {p : List MemPlace} (ht : Tryd.prog.underlying t = some (.array n 133)) (hn : l.length = n)
    (h : DataW.trod enc Tryd.prog W base sp held fuel t cs = some (litsU l, p)) : ∀ (j : Nat) (v : Value), (us l)[j]? = some v → cs[j]? = some v := by
  obtain ⟨xs, m, _, hx, _, hl, hel⟩ := DataW.trod_array ht h
  intro j v hj
  have hjn : j < n := by
    have := (List.getElem?_eq_some_iff.1 hj).1
    rw [us_length] at this; omega
  have h1 := hel j hjn
  rw [cells_u32, Nat.mul_one, List.getElem?_eq_getElem (by omega)] at h1
  obtain ⟨z, e1, e2, hw⟩ := DataW.trod_int und_u32 h1
  simp only [litsU, Prod.mk.injEq, DataW.agg.injEq] at hx
  have h2 := congrArg (fun l => l[j]?) hx.1
  simp only [List.getElem?_map] at h2
  rw [List.getElem?_eq_getElem (by omega), List.getElem?_eq_getElem (by omega), e2] at h2
  simp only [Option.map_some, Option.some.injEq, DataW.lit.injEq, Lit.int.injEq, true_and] at h2
  have h3 := congrArg (fun l => l[0]?) e1
  simp only [List.getElem?_take, List.getElem?_drop, List.getElem?_cons_zero, Nat.lt_one_iff, if_true, Nat.add_zero] at h3
  rw [h3, ← h2]
  rw [us_at (by omega)] at hj
  rw [← hj]
  simp [List.getD, List.getElem?_eq_getElem (show j < l.length by omega)]
  rfl
theorem gRef : Tryd.prog.globalNamed "solvent/solventref02.constants" = some 1 := by kernel_rfl
theorem gPro : Tryd.prog.globalNamed "solvent/digest.constants" = some 2 := by kernel_rfl
theorem gSta : Tryd.prog.globalNamed "solvent/digest.start" = some 0 := by kernel_rfl
theorem tRef : (Tryd.prog.globals[1]?).map (·.type) = some 139 := by kernel_rfl
theorem tPro : (Tryd.prog.globals[2]?).map (·.type) = some 139 := by kernel_rfl
theorem tSta : (Tryd.prog.globals[0]?).map (·.type) = some 134 := by kernel_rfl
theorem und_139 : Tryd.prog.underlying 139 = some (.array 64 133) := by kernel_rfl
theorem und_134 : Tryd.prog.underlying 134 = some (.array 8 133) := by kernel_rfl
theorem laid_cells {enc : TypeId × Value → Unit} {W : World} {base : Nat} {sp : Nat → Bool} {held : Bool} {fuel : Nat} {t : TypeId} {nm : String} {g : Nat} {cs : Array Value} {n : Nat} {l : List UInt32} {p : List MemPlace} (hg : Tryd.prog.globalNamed nm = some g) (hv : W.var? Tryd.prog nm = some cs) (ht : Tryd.prog.underlying t = some (.array n 133)) (hn : l.length = n)
    (h : DataW.trod enc Tryd.prog W base sp held fuel t cs.toList = some (litsU l, p)) : CellsAt W g (us l) := by
  intro j v hj
  rw [Nat.zero_add, World.var?_cell hg hv j, ← Array.getElem?_toList]
  exact laid_words ht hn h j v hj
theorem glo2 {W : World} (h : laidMetH Tryd.prog laid2 W) : Glo W := by
  rw [MakeChecks.laidMetH_plain _ _ _ (by kernel_rfl)] at h
  obtain ⟨ps, ⟨g0, t0, cs0, f0, p0, q0, hg0, ht0, hv0, hd0, ⟨g1, t1, cs1, f1, p1, q1, hg1, ht1, hv1, hd1, _, _⟩, _⟩, _, _⟩ := h
  obtain rfl := Option.some.inj (gPro.symm.trans hg0)
  obtain rfl := Option.some.inj (gSta.symm.trans hg1)
  obtain rfl := Option.some.inj (tPro.symm.trans ht0)
  obtain rfl := Option.some.inj (tSta.symm.trans ht1)
  rw [lits_progc] at hd0
  rw [lits_start] at hd1
  exact ⟨laid_cells gSta hv1 und_134 rfl hd1, laid_cells gPro hv0 und_139 rfl hd0⟩
theorem glo3 {W : World} (h : laidMetH Tryd.prog laid3 W) : GloR W := by
  rw [MakeChecks.laidMetH_plain _ _ _ (by kernel_rfl)] at h
  obtain ⟨ps, ⟨gr, tr, csr, fr, pr, qr, hgr, htr, hvr, hdr, ⟨g0, t0, cs0, f0, p0, q0, hg0, ht0, hv0, hd0, ⟨g1, t1, cs1, f1, p1, q1, hg1, ht1, hv1, hd1, _, _⟩, _⟩, _⟩, _, _⟩ := h
  obtain rfl := Option.some.inj (gRef.symm.trans hgr)
  obtain rfl := Option.some.inj (gPro.symm.trans hg0)
  obtain rfl := Option.some.inj (gSta.symm.trans hg1)
  obtain rfl := Option.some.inj (tRef.symm.trans htr)
  obtain rfl := Option.some.inj (tPro.symm.trans ht0)
  obtain rfl := Option.some.inj (tSta.symm.trans ht1)
  rw [lits_refc] at hdr
  rw [lits_progc] at hd0
  rw [lits_start] at hd1
  exact ⟨⟨laid_cells gSta hv1 und_134 rfl hd1, laid_cells gPro hv0 und_139 rfl hd0⟩, laid_cells gRef hvr und_139 rfl hdr⟩
/-- the door's own heap meets the condition -/
theorem door_met3 (os : Os) (args : Array Value) : laidMetH Tryd.prog laid3 ((World.doorLaid Tryd.prog 24 os).forCall (fun _ _ => 0) ⟨#[], args, []⟩).memory :=
  laidMetH_of_parts3 (fuel := 8) (laidMet_of_run' 8 (by kernel_rfl) (by kernel_rfl)) (by kernel_rfl) (by kernel_rfl)
theorem door_met2 (os : Os) (args : Array Value) : laidMetH Tryd.prog laid2 ((World.doorLaid Tryd.prog 24 os).forCall (fun _ _ => 0) ⟨#[], args, []⟩).memory :=
  laidMetH_of_parts3 (fuel := 8) (laidMet_of_run' 8 (by kernel_rfl) (by kernel_rfl)) (by kernel_rfl) (by kernel_rfl)

def readsB (P : Program) (ts : List TypeId) : Bool := ts.all fun t => P.readableRec t && decide (t < P.types.size)

theorem below_trodAll {H : Type} {enc : TypeId × Value → H} {P : Program} (hl : laidOutB P = true) {W W' : World} (hb : Below W.heap.size W W') : ∀ {ts : List TypeId} {vs : List Value} {ds : List (DataW H)} {ps : List MemPlace},
    readsB P ts = true → DataW.TrodAll enc P W 0 (fun _ => true) true ts vs ds ps → (∀ x ∈ ps, x.block < W.heap.size) → DataW.TrodAll enc P W' 0 (fun b => decide (b < W.heap.size)) true ts vs ds ps
  | [], [], [], _, _, h, _ => h
  | [], [], _ :: _, _, _, h, _ => h.elim
  | [], _ :: _, _, _, _, h, _ => h.elim
  | _ :: _, [], _, _, _, h, _ => h.elim
  | _ :: _, _ :: _, [], _, _, h, _ => h.elim
  | t :: ts, v :: vs, d :: ds, ps, hr, h, hlt => by
    obtain ⟨p, q, h1, h2, rfl⟩ := h
    simp only [readsB, List.all_cons, Bool.and_eq_true, decide_eq_true_eq] at hr
    exact ⟨p, q, Below.trod hl hr.1.1 hr.1.2 h1 hb (fun x hx => hlt x (List.mem_append_left _ hx)), below_trodAll hl hb (by simpa [readsB] using hr.2) h2 (fun x hx => hlt x (List.mem_append_right _ hx)), rfl⟩

set_option maxRecDepth 100000 in
/-- A LAW THAT ANSWERS TRUE AND LEAVES ALL MEMORY THAT IT FOUND -/
theorem lift_law {f : FuncId} {fn : Func} {s : ChangeSpec} (laid : List (String × DataW Unit)) (os : Os) (started : os.Started) (H : Type) (enc : TypeId × Value → H) (hfn : Tryd.checked.prog.funcs[f]? = some fn) (noInit : Tryd.checked.prog.inits.idxOf? f = none)
    (witness : ∃ (w : World) (tape : Tape) (i : Input), w.os = os ∧ (w.forCall tape i).Shaped Tryd.checked.prog ∧ i.vars = [] ∧ Input.okWide Tryd.checked.prog (w.forCall tape i) .any w.heap.size f i ∧
      ((s.pre enc Tryd.checked.prog fn [] false (w.forCall tape i).memory i.args ∧ laidMetH Tryd.prog laid (w.forCall tape i).memory) ∧ sizedMet enc Tryd.checked.prog fn (OpenSpec.ofChange s) false (w.forCall tape i).memory i.args) ∧ Assume.holds {} Tryd.checked.prog (lone (Frame.enter Tryd.checked.prog f i.args .normal) [] (w.forCall tape i)))
    (hv : s.vars = []) (hreads : readsB Tryd.prog fn.params.toList = true) (hres : fn.resultTypes = #[4])
    (hs : ∀ W args ds p, DataW.TrodAll enc Tryd.prog W 0 (fun _ => true) true fn.params.toList args ds p → s.fn H (ds ++ []) = { results := [.lit (.bool true)], args := ds })
    (law : ∀ (W : World) (base : Nat) (args : Array Value) (ds : List (DataW H)) (p : List MemPlace), (∀ (j : Nat) t v, fn.params[j]? = some t → args[j]? = some v → Value.okWide Tryd.prog W .any base t v) →
      DataW.TrodAll enc Tryd.prog W 0 (fun _ => true) true fn.params.toList args.toList ds p → (DataW.weightsEach Tryd.prog (fn.params.toList ++ s.plain.varTypes Tryd.prog) (ds ++ [])).all (· ≤ reachBytes) = true → laidMetH Tryd.prog laid W →
      Calls Tryd.prog f args W (fun e w' => e = .returned (.bool true) ∧ Ext W w')) :
    ReturnsInHanded {} Tryd.checked os f .any (fun w args => (s.pre enc Tryd.checked.prog fn [] false w args ∧ laidMetH Tryd.prog laid w) ∧ sizedMet enc Tryd.checked.prog fn (OpenSpec.ofChange s) false w args) (s.post enc Tryd.checked.prog fn false true false false) := by
  refine returnsInHanded_of_change_and (C := Tryd.checked) (X := fun w _ => laidMetH Tryd.prog laid w) (fun _ _ _ hh h => h.of_heap hh) Tryd.own started noInit hfn witness ?_
  intro W base args ds gs before hval0 hW _ hsz0 hL _
  have hW' := hW
  obtain ⟨p, q, hA, hV, rfl, _, _⟩ := hW
  rw [hv] at hV
  obtain ⟨rfl, rfl⟩ := trodVars_none hV
  simp only [List.append_nil] at hW'
  have hlt : ∀ x ∈ p, x.block < W.heap.size := fun x hx => by simpa using hW'.lt x hx
  refine (law W base args ds p hval0 hA hsz0 hL).mono ?_
  rintro e W' ⟨rfl, hE⟩
  have hspec := hs W _ ds p hA
  refine ⟨_, rfl, ds, [], p, [], p, [], hW', ?_, ?_, ?_, Below.frame hE _, fun h => by cases h⟩
  · rw [hspec, hres]
    exact trodAll_mk1 (shut_bool Tryd.underlying4 true)
  · rw [hspec]
    exact below_trodAll Tryd.laidOut hE hreads hA hlt
  · rw [hspec, hv]; rfl

/-! ### the arguments opened -/
section
variable {H : Type} {enc : TypeId × Value → H} {W : World} {base : Nat} {p : List MemPlace} {d : DataW H} {v : Value}
theorem Tryd.und_u8 : Tryd.prog.underlying 5 = some (.int .u8) := by kernel_rfl
theorem Tryd.und_int : Tryd.prog.underlying 3 = some (.int .i64) := by kernel_rfl
theorem Tryd.und_dg : Tryd.prog.underlying 45 = some (.array 16 5) := by kernel_rfl
theorem Tryd.und_bs : Tryd.prog.underlying 34 = some (.slice 5) := by kernel_rfl
theorem Tryd.und_is : Tryd.prog.underlying 52 = some (.slice 3) := by kernel_rfl
theorem Tryd.und_ds : Tryd.prog.underlying 63 = some (.slice 45) := by kernel_rfl
theorem Tryd.und_str : Tryd.prog.underlying 9 = some .string := by kernel_rfl
theorem Tryd.cells_u8 : Tryd.prog.cellsOf 5 = 1 := by kernel_rfl
theorem Tryd.cells_int : Tryd.prog.cellsOf 3 = 1 := by kernel_rfl
theorem Tryd.cells_dg : Tryd.prog.cellsOf 45 = 16 := by kernel_rfl

theorem wf_u8 {n : Int} (h : (Lit.int .u8 n).wf = true) : n = ((UInt8.ofNat n.toNat).toNat : Int) := by
  have h1 : IntKind.u8.min = 0 := rfl
  have h2 : IntKind.u8.max = 255 := rfl
  simp only [Lit.wf, Bool.and_eq_true, decide_eq_true_eq] at h
  rw [UInt8.toNat_ofNat', Nat.mod_eq_of_lt (by omega)]
  omega
theorem wf_i64 {n : Int} (h : (Lit.int .i64 n).wf = true) : -9223372036854775808 ≤ n ∧ n ≤ 9223372036854775807 := by
  have h1 : IntKind.i64.min = -9223372036854775808 := rfl
  have h2 : IntKind.i64.max = 9223372036854775807 := rfl
  simp only [Lit.wf, Bool.and_eq_true, decide_eq_true_eq] at h
  omega

set_option maxRecDepth 100000 in
theorem opens_int {t : TypeId} (ht : Tryd.prog.underlying t = some (.int .i64)) (hval : Value.okWide Tryd.prog W .any base t v) (h : DataW.Trod enc Tryd.prog W 0 (fun _ => true) true t v d p) :
    ∃ n : Int, v = .int .i64 n ∧ -9223372036854775808 ≤ n ∧ n ≤ 9223372036854775807 := by
  obtain ⟨n, rfl, _, _, hw⟩ := open_int ht hval h
  exact ⟨n, rfl, wf_i64 hw⟩

set_option maxRecDepth 100000 in
theorem opens_str {ts : List TypeId} {xs : List (DataW H)} {j : Nat} (hsz : (DataW.weightsEach Tryd.prog ts xs).all (· ≤ reachBytes) = true) (hj : ts[j]? = some 9) (hx : xs[j]? = some d)
    (hval : Value.okWide Tryd.prog W .any base 9 v) (h : DataW.Trod enc Tryd.prog W 0 (fun _ => true) true 9 v d p) : ∃ s : ByteArray, v = .string s ∧ s.size ≤ 140737488351232 := by
  obtain ⟨s, rfl, rfl, _, _⟩ := Go.ChangeMaps.open_string Tryd.und_str hval h
  have := sized_string hsz hj hx
  refine ⟨s, rfl, ?_⟩
  have e : s.data.toList.length = s.size := rfl
  unfold reachBytes at this
  omega

set_option maxRecDepth 100000 in
theorem opens_8 {ts : List TypeId} {xs : List (DataW H)} {j : Nat} (hsz : (DataW.weightsEach Tryd.prog ts xs).all (· ≤ reachBytes) = true) (hj : ts[j]? = some 34) (hx : xs[j]? = some d)
    (hval : Value.okWide Tryd.prog W .any base 34 v) (h : DataW.Trod enc Tryd.prog W 0 (fun _ => true) true 34 v d p) :
    ∃ A N c l, v = .slice A N c ∧ Rd W A (u8s l) ∧ l.length = N ∧ N ≤ c ∧ c ≤ maxLen ∧ N ≤ 140737488351232 := by
  obtain ⟨a0, len, cap, rfl⟩ := okWide_slice Tryd.und_bs hval
  obtain ⟨fuel, hf⟩ := h
  rcases open_ints Tryd.und_bs Tryd.und_u8 Tryd.cells_u8 hf with ⟨hcs, _⟩ | ⟨a, len', cap', zs, hcs, _, hl, hm, hz, he, hcell, hwz⟩
  · simp [Value.cells] at hcs
    obtain ⟨rfl, rfl, rfl⟩ := hcs
    exact ⟨_, _, _, [], rfl, Rd.nil _ _, rfl, Nat.le_refl _, Nat.zero_le _, Nat.zero_le _⟩
  · simp [Value.cells] at hcs
    obtain ⟨rfl, rfl, rfl⟩ := hcs
    simp only [if_true] at hz
    simp only [Prod.mk.injEq] at he
    obtain ⟨rfl, rfl⟩ := he
    have hb1 : Tryd.prog.bytesOf 5 = 1 := by kernel_rfl
    have hs := sized_slice hsz hj hx Tryd.und_bs
    rw [hb1] at hs
    simp only [lits, List.length_map, List.length_take, List.length_drop, reachBytes] at hs
    refine ⟨some a, len, cap, (zs.take len).map fun n => UInt8.ofNat n.toNat, rfl, ?_, by rw [List.length_map, List.length_take]; omega, hl, hm, by omega⟩
    intro hp
    have hlen : 0 < len := by
      rw [u8s_length, List.length_map, List.length_take] at hp; omega
    obtain ⟨b, off, spot⟩ := a
    have hspot : spot = none := by simpa [Addr.add] using World.cell?_spot (hcell 0 (by omega))
    subst hspot
    refine ⟨b, off, rfl, fun i u hu => ?_⟩
    have hi : i < len := by
      have := (List.getElem?_eq_some_iff.1 hu).1
      rw [u8s_length, List.length_map, List.length_take] at this; omega
    have hc := hcell i (by omega)
    have hg : zs.getD i 0 = zs[i]'(by omega) := by simp [List.getD, List.getElem?_eq_getElem (show i < zs.length by omega)]
    have hw := wf_u8 (hwz (zs[i]'(by omega)) (List.getElem_mem _))
    rw [← hg] at hw
    have hu2 : u = .int .u8 (zs.getD i 0) := by
      rw [u8s, List.getElem?_map, List.getElem?_map, List.getElem?_take, if_pos hi, List.getElem?_eq_getElem (by omega)] at hu
      simp only [Option.map_some, Option.some.injEq] at hu
      rw [← hu, ← hg, ← hw]
    rw [Addr.add_lit] at hc
    rw [hu2, hc]

theorem addr_add_add (a : Addr) (m n : Nat) : (a.add m).add n = a.add (m + n) := by
  unfold Addr.add
  by_cases h1 : m = 0 <;> by_cases h2 : n = 0 <;> simp_all [Nat.add_assoc]

theorem list_of {α : Type} (P : Nat → α → Prop) : ∀ n, (∀ i, i < n → ∃ x, P i x) → ∃ l : List α, l.length = n ∧ ∀ i (h : i < l.length), P i l[i]
  | 0, _ => ⟨[], rfl, fun i h => by simp at h⟩
  | n + 1, h => by
    obtain ⟨l, hl, hp⟩ := list_of P n (fun i hi => h i (by omega))
    obtain ⟨x, hx⟩ := h n (by omega)
    refine ⟨l ++ [x], by simp [hl], fun i hi => ?_⟩
    rw [List.length_append, List.length_singleton] at hi
    by_cases h2 : i < l.length
    · rw [List.getElem_append_left h2]; exact hp i h2
    · have : i = l.length := by omega
      subst this
      rw [List.getElem_append_right (Nat.le_refl _)]
      simp only [Nat.sub_self, List.getElem_cons_zero]
      rw [hl]; exact hx

set_option maxRecDepth 100000 in
theorem opens_D {ts : List TypeId} {xs : List (DataW H)} {j : Nat} (hsz : (DataW.weightsEach Tryd.prog ts xs).all (· ≤ reachBytes) = true) (hj : ts[j]? = some 63) (hx : xs[j]? = some d)
    (hval : Value.okWide Tryd.prog W .any base 63 v) (h : DataW.Trod enc Tryd.prog W 0 (fun _ => true) true 63 v d p) :
    ∃ A N c l, v = .slice A N c ∧ Rd W A (u8s (Wz.flat l)) ∧ l.length = N ∧ N ≤ c ∧ c ≤ maxLen ∧ N ≤ 8796093021952 := by
  obtain ⟨a0, len, cap, rfl⟩ := okWide_slice Tryd.und_ds hval
  obtain ⟨fuel, hf⟩ := h
  rcases DataW.trod_slice Tryd.und_ds hf with ⟨hcs, _⟩ | ⟨a, len', cap', elems, rest, n, _, hcs, he, _, hl, hm, hlen, hel, _, _⟩
  · simp [Value.cells] at hcs
    obtain ⟨rfl, rfl, rfl⟩ := hcs
    exact ⟨_, _, _, [], rfl, Rd.nil _ _, rfl, Nat.le_refl _, Nat.zero_le _, Nat.zero_le _⟩
  · simp [Value.cells] at hcs
    obtain ⟨rfl, rfl, rfl⟩ := hcs
    simp only [Prod.mk.injEq] at he
    obtain ⟨rfl, rfl⟩ := he
    have hb1 : Tryd.prog.bytesOf 45 = 16 := by kernel_rfl
    have hs := sized_slice hsz hj hx Tryd.und_ds
    rw [hb1] at hs
    simp only [List.length_map, reachBytes] at hs
    have each : ∀ i, i < len → ∃ x : Wz.Dg, ∀ q, q < 16 → W.cell? (a.add (i * 16 + q)) = some (.int .u8 ((x.1.getD q 0).toNat)) := by
      intro i hi
      have h1 := hel i hi
      rw [Tryd.cells_dg, List.getElem?_eq_getElem (by omega), Option.bind_eq_some_iff] at h1
      obtain ⟨cs, hcs, hy⟩ := h1
      obtain ⟨_, hcl, hcc⟩ := World.cells?_some hcs
      obtain ⟨ys, m, _, _, _, hyl, hys⟩ := DataW.trod_array Tryd.und_dg hy
      rw [Tryd.cells_u8] at hys
      have h2 : ∀ q, q < 16 → ∃ c : UInt8, W.cell? (a.add (i * 16 + q)) = some (.int .u8 (c.toNat : Int)) := by
        intro q hq
        have h3 := hys q hq
        rw [List.getElem?_eq_getElem (by omega), Nat.mul_one] at h3
        obtain ⟨z, e1, _, hw⟩ := DataW.trod_int Tryd.und_u8 h3
        refine ⟨UInt8.ofNat z.toNat, ?_⟩
        rw [← wf_u8 hw]
        have h4 := hcc q hq
        have e2 : cs[q]? = some (.int .u8 z) := by
          have := congrArg (fun l => l[0]?) e1
          simpa [List.getElem?_take, List.getElem?_drop] using this
        rw [← e2, ← h4, addr_add_add]
      obtain ⟨l, hll, hlp⟩ := list_of (fun q (c : UInt8) => W.cell? (a.add (i * 16 + q)) = some (.int .u8 (c.toNat : Int))) 16 h2
      refine ⟨⟨l, hll⟩, fun q hq => ?_⟩
      have h5 := hlp q (by omega)
      rw [h5]
      simp [List.getD, List.getElem?_eq_getElem (show q < l.length by omega)]
    obtain ⟨l, hll, hlp⟩ := list_of (fun i (x : Wz.Dg) => ∀ q, q < 16 → W.cell? (a.add (i * 16 + q)) = some (.int .u8 ((x.1.getD q 0).toNat))) len each
    refine ⟨some a, len, cap, l, rfl, ?_, hll, hl, hm, by omega⟩
    intro hp
    have hlen0 : 0 < len := by
      rw [u8s_length, Wz.flat_length] at hp; omega
    obtain ⟨b, off, spot⟩ := a
    have hspot : spot = none := by simpa [Addr.add] using World.cell?_spot (hlp 0 (by omega) 0 (by omega))
    subst hspot
    refine ⟨b, off, rfl, fun i u hu => ?_⟩
    have hi : i < 16 * len := by
      have := (List.getElem?_eq_some_iff.1 hu).1
      rw [u8s_length, Wz.flat_length] at this; omega
    have hk : i / 16 < l.length := by omega
    have hpt := Wz.flat_part hk
    have hget : (Wz.flat l)[i]? = (l[i / 16]).1[i % 16]? := by
      rw [← hpt, List.getElem?_take, if_pos (by omega), List.getElem?_drop]
      congr 1
      omega
    have hc := hlp (i / 16) hk (i % 16) (by omega)
    have hq : i % 16 < (l[i / 16]).1.length := by rw [(l[i / 16]).2]; omega
    rw [u8s, List.getElem?_map, hget, List.getElem?_eq_getElem hq] at hu
    simp only [Option.map_some, Option.some.injEq] at hu
    rw [← hu]
    have e3 : (l[i / 16]).1.getD (i % 16) 0 = (l[i / 16]).1[i % 16] := by simp [List.getD, List.getElem?_eq_getElem hq]
    rw [e3, show i / 16 * 16 + i % 16 = i from by omega, Addr.add_lit] at hc
    rw [← hc]
end

end Go.Proofs.YtcjeclddpkinkaaDoor
