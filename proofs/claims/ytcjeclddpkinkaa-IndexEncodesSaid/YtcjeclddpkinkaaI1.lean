/- A map keyed by int, as a function: look-up, store, delete, len on the block that holds it. -/
import Derived.Test.YtcjeclddpkinkaaB4
import Derived.Maps.OwnSet
set_option linter.unusedSimpArgs false
set_option linter.unusedVariables false
namespace Go.Proofs.Ytcjeclddpkinkaa
open Go.RowKit Go.ChangeMaps

def updF {α : Type} (f : Int → Option α) (c : Int) (v : Option α) : Int → Option α := fun c' => if c' = c then v else f c'
theorem updF_same {α : Type} (f : Int → Option α) (c : Int) (v : Option α) : updF f c v c = v := if_pos rfl
theorem updF_other {α : Type} (f : Int → Option α) {c c' : Int} (v : Option α) (h : c' ≠ c) : updF f c v c' = f c' := if_neg h

/-- what the entries hold, as a function -/
structure KV (es : List MapEntry) (f : Int → Option Value) : Prop where
  keys : ∀ x ∈ es, ∃ c : Int, x.key = .int .i64 c ∧ (Lit.int .i64 c).wf = true
  apart : es.Pairwise fun x y => x.key ≠ y.key
  get : ∀ c v, f c = some v ↔ ∃ x ∈ es, x.key = .int .i64 c ∧ x.val = v

theorem KV.none {es : List MapEntry} {f : Int → Option Value} (h : KV es f) {c : Int} : f c = Option.none ↔ ∀ x ∈ es, x.key ≠ .int .i64 c := by
  constructor
  · intro h0 x hx hk
    have := (h.get c x.val).2 ⟨x, hx, hk, rfl⟩
    rw [h0] at this
    cases this
  · intro h0
    cases hf : f c with
    | none => rfl
    | some v =>
      obtain ⟨x, hx, hk, _⟩ := (h.get c v).1 hf
      exact absurd hk (h0 x hx)
theorem KV.push {es : List MapEntry} {f : Int → Option Value} (h : KV es f) {c : Int} (hw : (Lit.int .i64 c).wf = true) (hn : ∀ x ∈ es, x.key ≠ .int .i64 c) (v : Value) (b : Nat) : KV (es ++ [⟨.int .i64 c, v, b⟩]) (updF f c (some v)) := by
  refine ⟨?_, ?_, ?_⟩
  · intro x hx
    rcases List.mem_append.1 hx with hx | hx
    · exact h.keys x hx
    · rw [List.mem_singleton.1 hx]; exact ⟨c, rfl, hw⟩
  · rw [List.pairwise_append]
    refine ⟨h.apart, List.pairwise_singleton _ _, ?_⟩
    intro x hx y hy
    rw [List.mem_singleton.1 hy]
    exact hn x hx
  · intro c' v'
    by_cases hc : c' = c
    · subst hc
      rw [updF_same]
      constructor
      · intro e; cases e; exact ⟨_, List.mem_append_right _ (List.mem_singleton.2 rfl), rfl, rfl⟩
      · rintro ⟨x, hx, hk, rfl⟩
        rcases List.mem_append.1 hx with hx | hx
        · exact absurd hk (hn x hx)
        · rw [List.mem_singleton.1 hx]
    · rw [updF_other _ _ hc, h.get]
      constructor
      · rintro ⟨x, hx, h1, h2⟩; exact ⟨x, List.mem_append_left _ hx, h1, h2⟩
      · rintro ⟨x, hx, h1, h2⟩
        rcases List.mem_append.1 hx with hx | hx
        · exact ⟨x, hx, h1, h2⟩
        · rw [List.mem_singleton.1 hx] at h1
          simp only [Value.int.injEq, true_and] at h1
          exact absurd h1.symm hc
theorem KV.key_inj {es : List MapEntry} {f : Int → Option Value} (h : KV es f) {i j : Nat} {x y : MapEntry} (hi : es[i]? = some x) (hj : es[j]? = some y) (hne : i ≠ j) : x.key ≠ y.key := by
  obtain ⟨hi1, rfl⟩ := List.getElem?_eq_some_iff.1 hi
  obtain ⟨hj1, rfl⟩ := List.getElem?_eq_some_iff.1 hj
  rcases Nat.lt_or_gt_of_ne hne with hlt | hlt
  · exact List.pairwise_iff_getElem.1 h.apart i j hi1 hj1 hlt
  · exact fun e => List.pairwise_iff_getElem.1 h.apart j i hj1 hi1 hlt e.symm
theorem KV.at {es : List MapEntry} {f : Int → Option Value} (h : KV es f) {j : Nat} {e0 : MapEntry} (hj : es[j]? = some e0) {c : Int} (hk : e0.key = .int .i64 c) : f c = some e0.val := (h.get c _).2 ⟨e0, List.mem_of_getElem? hj, hk, rfl⟩
theorem KV.erase {es : List MapEntry} {f : Int → Option Value} (h : KV es f) {j : Nat} {e0 : MapEntry} (hj : es[j]? = some e0) {c : Int} (hk : e0.key = .int .i64 c) : KV (es.eraseIdx j) (updF f c Option.none) := by
  refine ⟨fun x hx => h.keys x ((List.eraseIdx_sublist _ _).subset hx), h.apart.sublist (List.eraseIdx_sublist _ _), ?_⟩
  intro c' v'
  by_cases hc : c' = c
  · subst hc
    rw [updF_same]
    constructor
    · intro e; cases e
    · rintro ⟨x, hx, h1, _⟩
      obtain ⟨i, hne, hi⟩ := List.mem_eraseIdx_iff_getElem?.1 hx
      exact absurd (h1.trans hk.symm) (h.key_inj hi hj hne)
  · rw [updF_other _ _ hc, h.get]
    constructor
    · rintro ⟨x, hx, h1, h2⟩
      refine ⟨x, ?_, h1, h2⟩
      obtain ⟨i, hi⟩ := List.getElem?_of_mem hx
      refine List.mem_eraseIdx_iff_getElem?.2 ⟨i, ?_, hi⟩
      rintro rfl
      rw [hj] at hi
      cases hi
      rw [hk] at h1
      simp only [Value.int.injEq, true_and] at h1
      exact hc h1.symm
    · rintro ⟨x, hx, h1, h2⟩
      exact ⟨x, (List.eraseIdx_sublist _ _).subset hx, h1, h2⟩
theorem KV.put {es : List MapEntry} {f : Int → Option Value} (h : KV es f) {j : Nat} {e0 : MapEntry} (hj : es[j]? = some e0) {c : Int} (hk : e0.key = .int .i64 c) (v : Value) : KV (es.set j { e0 with key := .int .i64 c, val := v }) (updF f c (some v)) := by
  have hjl := (List.getElem?_eq_some_iff.1 hj).1
  have who : ∀ i x, (es.set j { e0 with key := .int .i64 c, val := v })[i]? = some x → (i = j ∧ x = { e0 with key := .int .i64 c, val := v }) ∨ (i ≠ j ∧ es[i]? = some x) := by
    intro i x hx
    rw [List.getElem?_set] at hx
    by_cases hij : j = i
    · rw [if_pos hij] at hx
      subst hij
      rw [if_pos hjl] at hx
      exact .inl ⟨rfl, (Option.some.inj hx).symm⟩
    · rw [if_neg hij] at hx
      exact .inr ⟨fun e => hij e.symm, hx⟩
  refine ⟨?_, ?_, ?_⟩
  · intro x hx
    obtain ⟨i, hi⟩ := List.getElem?_of_mem hx
    rcases who i x hi with ⟨_, rfl⟩ | ⟨_, hi'⟩
    · obtain ⟨c2, h1, h2⟩ := h.keys e0 (List.mem_of_getElem? hj)
      rw [hk] at h1
      simp only [Value.int.injEq, true_and] at h1
      subst h1
      exact ⟨c, rfl, h2⟩
    · exact h.keys x (List.mem_of_getElem? hi')
  · rw [List.pairwise_iff_getElem]
    intro a b ha hb hab
    have hA := List.getElem?_eq_getElem ha
    have hB := List.getElem?_eq_getElem hb
    rcases who a _ hA with ⟨ea, e1⟩ | ⟨na, h1⟩
    · rcases who b _ hB with ⟨eb, _⟩ | ⟨nb, h2⟩
      · omega
      · rw [e1]
        exact fun e => h.key_inj hj h2 (by omega) (hk.trans e)
    · rcases who b _ hB with ⟨eb, e2⟩ | ⟨nb, h2⟩
      · rw [e2]
        exact fun e => h.key_inj h1 hj (by omega) (e.trans hk.symm)
      · exact h.key_inj h1 h2 (by omega)
  · intro c' v'
    by_cases hc : c' = c
    · subst hc
      rw [updF_same]
      constructor
      · intro e; cases e
        exact ⟨_, List.mem_of_getElem? (i := j) (by rw [List.getElem?_set_self hjl]), rfl, rfl⟩
      · rintro ⟨x, hx, h1, rfl⟩
        obtain ⟨i, hi⟩ := List.getElem?_of_mem hx
        rcases who i x hi with ⟨_, rfl⟩ | ⟨hne, hi'⟩
        · rfl
        · exact absurd (h1.trans hk.symm) (h.key_inj hi' hj hne)
    · rw [updF_other _ _ hc, h.get]
      constructor
      · rintro ⟨x, hx, h1, h2⟩
        obtain ⟨i, hi⟩ := List.getElem?_of_mem hx
        have hij : i ≠ j := by
          rintro rfl
          rw [hj] at hi
          cases hi
          rw [hk] at h1
          simp only [Value.int.injEq, true_and] at h1
          exact hc h1.symm
        exact ⟨x, List.mem_of_getElem? (i := i) (by rw [List.getElem?_set_ne (fun e => hij e.symm)]; exact hi), h1, h2⟩
      · rintro ⟨x, hx, h1, h2⟩
        obtain ⟨i, hi⟩ := List.getElem?_of_mem hx
        rcases who i x hi with ⟨_, rfl⟩ | ⟨hne, hi'⟩
        · simp only [Value.int.injEq, true_and] at h1
          exact absurd h1.symm hc
        · exact ⟨x, List.mem_of_getElem? hi', h1, h2⟩

/-- block r is a map that holds f, of n entries -/
def MapAt (w : World) (r : Nat) (f : Int → Option Value) (n : Nat) : Prop := ∃ es clock, w.heap[r]? = some (.map es clock) ∧ es.size = n ∧ KV es.toList f
theorem MapAt.lt {w : World} {r n : Nat} {f : Int → Option Value} (h : MapAt w r f n) : r < w.heap.size := by
  obtain ⟨es, clock, h, _⟩ := h
  exact (Array.getElem?_eq_some_iff.1 h).1
theorem MapAt.kept {w w' : World} {r n : Nat} {f : Int → Option Value} (h : MapAt w r f n) (hb : w'.heap[r]? = w.heap[r]?) : MapAt w' r f n := by
  obtain ⟨es, clock, h, k⟩ := h
  exact ⟨es, clock, hb.trans h, k⟩
theorem heap_alloc_map (w : World) : (w.alloc (.map #[] 0)).heap[w.heap.size]? = some (.map #[] 0) := Array.getElem?_push_size
theorem MapAt.new (w : World) : MapAt (w.alloc (.map #[] 0)) w.heap.size (fun _ => Option.none) 0 := ⟨#[], 0, heap_alloc_map w, rfl, by
  refine ⟨by intro x hx; simp at hx, List.Pairwise.nil, ?_⟩
  intro c v
  constructor
  · intro e; cases e
  · rintro ⟨x, hx, _⟩; simp at hx⟩

section
variable {P : Program} {w : World} {t k e : TypeId} {r n : Nat} {f : Int → Option Value}
theorem keys_of (hk : P.underlying k = some (.int .i64)) {es : List MapEntry} (h : KV es f) : ∀ x ∈ es, ∃ l, keyOf P k x.key = some l := by
  intro x hx
  obtain ⟨c, h1, h2⟩ := h.keys x hx
  exact ⟨_, by rw [h1]; exact Maps.keyOf_int_mk hk h2⟩

theorem run_look (ht : P.underlying t = some (.map k e)) (hk : P.underlying k = some (.int .i64)) (h : MapAt w r f n) {c : Int} (hc : (Lit.int .i64 c).wf = true) {z : Value} (hz : (zeroValue e).run P w = .ok z w) (b : Bool) :
    (Instr.lookup t (.map (some r)) (.int .i64 c) b).run P w = .ok (if b then .tuple #[(f c).getD z, .bool (f c).isSome] else (f c).getD z) w := by
  obtain ⟨es, clock, hb, _, kv⟩ := h
  have K := Maps.int_keyed hk
  have hkey := Maps.keyOf_int_mk hk hc
  rcases K.find w hkey es.toList (keys_of hk kv) with ⟨h1, h2⟩ | ⟨j, e0, h1, h2, h3⟩
  · have hf := kv.none.2 h2
    rw [hf]
    simp [Instr.lookup, run_underlying ht, MapKept.run_getObj_map hb, K.check w _ hkey, h1, hz, Result.andThen]
  · have hf := kv.at h2 h3
    rw [hf]
    simp [Instr.lookup, run_underlying ht, MapKept.run_getObj_map hb, K.check w _ hkey, h1, Result.andThen]

theorem run_upd (ht : P.underlying t = some (.map k e)) (hk : P.underlying k = some (.int .i64)) (h : MapAt w r f n) {c : Int} (hc : (Lit.int .i64 c).wf = true) (v : Value) :
    ∃ w', (Instr.mapUpdate t (.map (some r)) (.int .i64 c) v).run P w = .ok () w' ∧ MapAt w' r (updF f c (some v)) (if (f c).isSome then n else n + 1) ∧ w.grownBy w' (some r) ∧ w'.heap.size = w.heap.size := by
  obtain ⟨es, clock, hb, hn, kv⟩ := h
  have hr : r < w.heap.size := (Array.getElem?_eq_some_iff.1 hb).1
  have K := Maps.int_keyed hk
  have hkey := Maps.keyOf_int_mk hk hc
  rcases K.find w hkey es.toList (keys_of hk kv) with ⟨h1, h2⟩ | ⟨j, e0, h1, h2, h3⟩
  · have hf := kv.none.2 h2
    refine ⟨setBlock w r (.map (es.push ⟨.int .i64 c, v, clock⟩) (clock + 1)), ?_, ⟨_, _, heap_setBlock_same hb _, ?_, ?_⟩, ?_, by simp [setBlock]⟩
    · simp [Instr.mapUpdate, run_underlying ht, MapKept.run_getObj_map hb, K.check w false hkey, h1, MapKept.run_setObj_map _ hb, Result.andThen, setBlock]
    · rw [hf]; simp [hn]
    · rw [Array.toList_push]; exact kv.push hc h2 v clock
    · exact World.mapTurned.grown ⟨_, _, _, _, hb, rfl⟩
  · have hf := kv.at h2 h3
    have hj : es[j]? = some e0 := by simpa using h2
    refine ⟨setBlock w r (.map (es.modify j (fun e' => { e' with key := .int .i64 c, val := v })) clock), ?_, ⟨_, _, heap_setBlock_same hb _, ?_, ?_⟩, ?_, by simp [setBlock]⟩
    · simp [Instr.mapUpdate, run_underlying ht, MapKept.run_getObj_map hb, K.check w false hkey, h1, hj, h3, K.stays w hkey, MapKept.run_setObj_map _ hb, Result.andThen, setBlock]
    · rw [hf]; simp [hn]
    · rw [Array.toList_modify, modify_eq_set _ _ _ _ h2]; exact kv.put h2 h3 v
    · exact World.mapTurned.grown ⟨_, _, _, _, hb, rfl⟩

theorem run_del (ht : P.underlying t = some (.map k e)) (hk : P.underlying k = some (.int .i64)) (h : MapAt w r f n) {c : Int} (hc : (Lit.int .i64 c).wf = true) (ty : TypeId) :
    ∃ w', (Builtin.delete_ #[t, k] ty #[.map (some r), .int .i64 c]).run P w = .ok (.tuple #[]) w' ∧ MapAt w' r (updF f c Option.none) (if (f c).isSome then n - 1 else n) ∧ w.grownBy w' (some r) ∧ w'.heap.size = w.heap.size := by
  obtain ⟨es, clock, hb, hn, kv⟩ := h
  have hr : r < w.heap.size := (Array.getElem?_eq_some_iff.1 hb).1
  have K := Maps.int_keyed hk
  have hkey := Maps.keyOf_int_mk hk hc
  rcases K.find w hkey es.toList (keys_of hk kv) with ⟨h1, h2⟩ | ⟨j, e0, h1, h2, h3⟩
  · have hf := kv.none.2 h2
    refine ⟨setBlock w r (.map es clock), ?_, ⟨_, _, heap_setBlock_same hb _, ?_, ?_⟩, ?_, by simp [setBlock]⟩
    · simp [Builtin.delete_, run_underlying ht, MapKept.run_getObj_map hb, K.check w _ hkey, h1, MapKept.run_setObj_map _ hb, Result.andThen, setBlock]
    · rw [hf]; simp [hn]
    · have e : updF f c Option.none = f := by
        funext c'
        by_cases hc' : c' = c
        · subst hc'; rw [updF_same, hf]
        · rw [updF_other _ _ hc']
      rw [e]; exact kv
    · exact World.mapTurned.grown ⟨_, _, _, _, hb, rfl⟩
  · have hf := kv.at h2 h3
    have hjl : j < es.toList.length := (List.getElem?_eq_some_iff.1 h2).1
    have hjs : j < es.size := by simpa using hjl
    have hsub : (es.eraseIdxIfInBounds j).toList = es.toList.eraseIdx j := by
      unfold Array.eraseIdxIfInBounds
      rw [dif_pos hjs]
      simp
    refine ⟨setBlock w r (.map (es.eraseIdxIfInBounds j) clock), ?_, ⟨_, _, heap_setBlock_same hb _, ?_, ?_⟩, ?_, by simp [setBlock]⟩
    · simp [Builtin.delete_, run_underlying ht, MapKept.run_getObj_map hb, K.check w _ hkey, h1, MapKept.run_setObj_map _ hb, Result.andThen, setBlock]
    · rw [hf, ← Array.length_toList, hsub, List.length_eraseIdx, if_pos hjl]; simp [hn]
    · rw [hsub]; exact kv.erase h2 h3
    · exact World.mapTurned.grown ⟨_, _, _, _, hb, rfl⟩

theorem run_maplen (ht : P.underlying t = some (.map k e)) (h : MapAt w r f n) (ty : TypeId) : (Builtin.len_ #[t] ty #[.map (some r)]).run P w = .ok (.int .i64 (n : Int)) w := by
  obtain ⟨es, clock, hb, hn, _⟩ := h
  subst hn
  simp [Builtin.len_, run_underlying ht, MapKept.run_getObj_map hb, Result.andThen, goInt]
end

end Go.Proofs.Ytcjeclddpkinkaa
