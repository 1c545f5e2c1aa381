/- slices.Reverse at digests. -/
import Derived.Test.YtcjeclddpkinkaaDoorD16
import Derived.Orders
import Derived.RegionTactic
set_option linter.unusedSimpArgs false
set_option linter.unusedVariables false
namespace Go.Proofs.YtcjeclddpkinkaaDoor
open Go.RowKit
open Wz (Dg)

/-- the list, its first k and its last k elements turned -/
def revK (l : List Dg) (k : Nat) : List Dg := (List.range l.length).map fun i => if i < k ∨ l.length - k ≤ i then l.getD (l.length - 1 - i) Mk.dg0 else l.getD i Mk.dg0
theorem revK_len (l : List Dg) (k : Nat) : (revK l k).length = l.length := by simp [revK]
theorem revK_at {l : List Dg} {k i : Nat} (h : i < l.length) : (revK l k)[i]? = some (if i < k ∨ l.length - k ≤ i then l.getD (l.length - 1 - i) Mk.dg0 else l.getD i Mk.dg0) := by
  simp [revK, h]
theorem revK_zero (l : List Dg) : revK l 0 = l := by
  apply List.ext_getElem?
  intro i
  by_cases h : i < l.length
  · rw [revK_at h, if_neg (by omega), List.getD, List.getElem?_eq_getElem h]; rfl
  · rw [List.getElem?_eq_none (by rw [revK_len]; omega), List.getElem?_eq_none (by omega)]
theorem revK_all {l : List Dg} {k : Nat} (h : l.length ≤ 2 * k + 1) : revK l k = l.reverse := by
  apply List.ext_getElem?
  intro i
  by_cases hi : i < l.length
  · rw [revK_at hi, List.getElem?_reverse hi]
    have e : l[l.length - 1 - i]? = some (l.getD (l.length - 1 - i) Mk.dg0) := by rw [List.getD, List.getElem?_eq_getElem (by omega)]; rfl
    rw [e]
    split
    · rfl
    · rename_i h2
      rw [show l.length - 1 - i = i from by omega]
  · rw [List.getElem?_eq_none (by rw [revK_len]; omega), List.getElem?_eq_none (by rw [List.length_reverse]; omega)]
theorem revK_step {l : List Dg} {k : Nat} (h : 2 * k + 1 < l.length) : ((revK l k).set k (l.getD (l.length - 1 - k) Mk.dg0)).set (l.length - 1 - k) (l.getD k Mk.dg0) = revK l (k + 1) := by
  apply List.ext_getElem?
  intro i
  by_cases hi : i < l.length
  · rw [revK_at hi, List.getElem?_set, List.getElem?_set, List.length_set, revK_len]
    by_cases h1 : l.length - 1 - k = i
    · rw [if_pos h1, if_pos (by omega), if_pos (by omega)]
      rw [show l.length - 1 - i = k from by omega]
    · rw [if_neg h1]
      by_cases h2 : k = i
      · subst h2
        rw [if_pos rfl, if_pos (by omega), if_pos (by omega)]
      · rw [if_neg h2, revK_at hi]
        by_cases h3 : i < k ∨ l.length - k ≤ i
        · rw [if_pos h3, if_pos (by omega)]
        · rw [if_neg h3, if_neg (by omega)]
  · rw [List.getElem?_eq_none (by rw [List.length_set, List.length_set, revK_len]; omega), List.getElem?_eq_none (by rw [revK_len]; omega)]

theorem dgs_set (l : List Dg) (i : Nat) (d : Dg) (h : i < l.length) : dgs (l.set i d) = (dgs l).take (i * 16) ++ u8s d.1 ++ (dgs l).drop (i * 16 + 16) := by
  rw [List.set_eq_take_append_cons_drop, if_pos h, dgs_append, dgs_take l i (by omega), show i * 16 + 16 = (i + 1) * 16 from by omega, dgs_drop l (i + 1) (by omega), List.append_assoc]
  congr 1
  rw [show d :: l.drop (i + 1) = [d] ++ l.drop (i + 1) from rfl, dgs_append, dgs_one]

theorem take_splice {α : Type} (A m : List α) (i k n : Nat) (hm : m.length = k) (h : i + k ≤ n) (hn : n ≤ A.length) : (A.take i ++ m ++ A.drop (i + k)).take n = (A.take n).take i ++ m ++ (A.take n).drop (i + k) := by
  have h1 : (A.take i ++ m).length = i + k := by rw [List.length_append, List.length_take]; omega
  rw [List.take_append, List.take_of_length_le (by omega), List.take_take, Nat.min_eq_left (by omega), h1, List.drop_take]
/-- a store of a digest into a list that the call owns -/
theorem wpList_storeD (w : World) (B g : Nat) (N c : Nat) (l : List Dg) (hown : OwnD w B (.slice (some ⟨g, 0, none⟩) N c) l) (hN : l.length = N) (i : Nat) (hi : i < N) {ops : Array Oper} {rest : List Oper} {o : Oper} {a : Act} {Q : Exit → Act → World → Prop} (hgd : o.guard = none) (p x : Operand) (ho : o.op = .store 45 p x)
    (hp : a.eval p = .pointer (some ⟨g, i * 16, none⟩)) (d : Dg) (hx : a.eval x = dgV d)
    (h : ∀ w', OwnD w' B (.slice (some ⟨g, 0, none⟩) N c) (l.set i d) → w.grownBy w' (some g) → wpList Tryd.prog ops Q rest (a.put o.dst undef) w') : wpList Tryd.prog ops Q (o :: rest) a w := by
  subst hN
  rcases hown.2 with ⟨h1, _⟩ | ⟨g', cap, cur, hv, hb, hg, hn, hc, hs, ht⟩
  · cases h1
  · simp only [Value.slice.injEq, Option.some.injEq, Addr.mk.injEq] at hv
    obtain ⟨⟨rfl, _⟩, _, rfl⟩ := hv
    have hlen : (dgs l).length = l.length * 16 := by rw [dgs_length, Nat.mul_comm]
    have hr := run_storeAgg agg_dg w g (i * 16) 45 cur hg (u8s d.1) (dg_len d) (u8s_one _) (by omega)
    refine wpList_skip hgd ?_ (h (w.setRow g (cur.toList.take (i * 16) ++ u8s d.1 ++ cur.toList.drop (i * 16 + 16)).toArray) ⟨by rw [List.length_set]; rw [dgs_length, List.length_set]; omega, .inr ⟨g, c, (cur.toList.take (i * 16) ++ u8s d.1 ++ cur.toList.drop (i * 16 + 16)).toArray, by rw [List.length_set], hb, setRow_self w g _ _ 45 hg, by rw [List.length_set]; exact hn, hc, ?_, ?_⟩⟩ ⟨rfl, rfl, rfl, by rw [setRow_size]; exact Nat.le_refl _, fun k hk hne => setRow_heap w g k _ (fun e => hne (by rw [e]))⟩)
    · unfold execOp
      rw [ho]
      simp only [Sem.run_bind, Sem.run_pure, hp, hx, hr, Result.andThen]
    · simp only [List.size_toArray, List.length_append, List.length_take, List.length_drop, dg_len, Array.length_toList]
      omega
    · rw [dgs_set l i d hi, ← ht, List.length_set]
      exact take_splice cur.toList (u8s d.1) (i * 16) 16 (l.length * 16) (dg_len d) (by omega) (by rw [show cur.toList.length = cur.size from Array.length_toList]; omega)

theorem wpAny_tail {P : Program} {md : Region.Mode} {ops : Array Oper} {Q : Exit → Act → World → Prop} {ls : Array Bool} {a : Act} {w : World} {fuel : Nat} (k : Nat) (hf : fuel = ops.size - k) (hB : Region.seqB md ops fuel k ls = true) (h : wpList P ops Q (ops.toList.drop k) a w) : wpAny P md ops Q fuel ls a w := by
  have hl : (ops.toList.drop k).length = fuel := by rw [List.length_drop, Array.length_toList, hf]
  have := wpAny_of_seq (md := md) (Q' := Q) (ops.toList.drop k) k ls a w (fun j => by simp [List.getElem?_drop]) (by rw [hl]; exact hB) h
  rwa [hl] at this
theorem wpOp_load {P : Program} {ops : Array Oper} {Q : Exit → Act → World → Prop} {K : Act → World → Prop} {a : Act} {w : World} {o : Oper} {i : Nat} {t : TypeId} {n : Nat} (hT : AggOf P t n) (ho : ops[i]? = some o) (hg : o.guard = none) (x : Operand) (hop : o.op = .load t x) (b off : Nat) (hx : a.eval x = .pointer (some ⟨b, off, none⟩)) (cs : List Value) (hl : cs.length = n)
    (hc : ∀ j u, cs[j]? = some u → w.cell? ⟨b, off + j, none⟩ = some u) (h : K (a.put o.dst (.agg cs.toArray)) w) : wpOp P ops Q i K a w := by
  unfold wpOp
  rw [ho]
  simp only
  rw [if_pos (by unfold Region.wanted; rw [hg])]
  left
  unfold Oper.wp execOp
  rw [hop]
  simp only [Sem.run_bind, Sem.run_pure, hx, run_loadAgg hT w b off cs hl hc, Result.andThen]
  exact h

set_option maxRecDepth 100000 in
set_option maxHeartbeats 1000000 in
/-- slices.Reverse at digests: in place -/
theorem reverse_calls (B g N c : Nat) (l : List Dg) (w : World) (hown : OwnD w B (.slice (some ⟨g, 0, none⟩) N c) l) (hl : l.length = N) (hN : N ≤ 1000000) :
    Calls Tryd.prog 94 #[.slice (some ⟨g, 0, none⟩) N c] w (fun e w' => (∃ v, e = .returned v) ∧ OwnD w' B (.slice (some ⟨g, 0, none⟩) N c) l.reverse ∧ w.grownBy w' (some g)) := by
  have HL := Lib.hid hl
  have HO := Lib.hid hown
  clear hl hown
  go_enter Tryd.func94, Tryd.ntmps94
  go_wp2_with fail
  go_loopg [2, 3] N (fun gk iv jv wr => ∃ k : Nat, iv = .int .i64 (k : Int) ∧ jv = .int .i64 ((N : Int) - 1 - (k : Int)) ∧ 2 * k ≤ N ∧ N - k ≤ gk ∧ Hid (OwnD wr B (.slice (some ⟨g, 0, none⟩) N c) (revK l k) ∧ w.grownBy wr (some g)))
  case atStart => exact ⟨0, rfl, by go_num, by omega, by omega, Lib.hid ⟨by rw [revK_zero]; exact HO.out, World.grownBy.refl _ _⟩⟩
  case round =>
    obtain ⟨k, rfl, rfl, hk, hg, HI⟩ := hrel
    by_cases hlt : 2 * k + 1 < N
    · have hd : decide ((k : Int) < (N : Int) - 1 - (k : Int)) = true := decide_eq_true (by omega)
      have HST := Lib.hid (revK_step (l := l) (k := k) (by rw [HL.out]; omega))
      rw [HL.out] at HST
      have hRl := revK_len l k
      rw [HL.out] at hRl
      have e1 : (revK l k)[k]? = some (l.getD k Mk.dg0) := by rw [revK_at (by rw [HL.out]; omega), if_neg (by rw [HL.out]; omega)]
      have e2 : (revK l k)[N - 1 - k]? = some (l.getD (N - 1 - k) Mk.dg0) := by rw [revK_at (by rw [HL.out]; omega), if_neg (by rw [HL.out]; omega)]
      have HQ := Lib.hid HI.out.2
      have hO1 := HI.out.1
      obtain ⟨R, hR⟩ : ∃ R, revK l k = R := ⟨_, rfl⟩
      rw [hR] at HST hRl e1 e2 hO1
      obtain ⟨x, hx⟩ : ∃ x, l.getD k Mk.dg0 = x := ⟨_, rfl⟩
      obtain ⟨y, hy⟩ : ∃ x, l.getD (N - 1 - k) Mk.dg0 = x := ⟨_, rfl⟩
      rw [hx] at e1 HST
      rw [hy] at e2 HST
      obtain ⟨A9, c9, e9, _, _, hr9⟩ := hO1.slice
      simp only [Value.slice.injEq] at e9
      obtain ⟨rfl, -, rfl⟩ := e9
      obtain ⟨b9, o9, e9, hc9⟩ := hr9 (by rw [dgs_length, hRl]; omega)
      simp only [Option.some.injEq, Addr.mk.injEq] at e9
      obtain ⟨rfl, rfl, -⟩ := e9
      have cx := dg_cells hc9 (i := k) (by omega)
      have cy := dg_cells hc9 (i := N - 1 - k) (by omega)
      rw [show R[k]'(by omega) = x from Option.some.inj ((List.getElem?_eq_getElem _).symm.trans e1)] at cx
      rw [show R[N - 1 - k]'(by omega) = y from Option.some.inj ((List.getElem?_eq_getElem _).symm.trans e2)] at cy
      rw [Nat.zero_add] at cx cy
      have HCX := Lib.hid cx
      have HCY := Lib.hid cy
      have HO1 := Lib.hid hO1
      clear hR hx hy e1 e2 hc9 hr9 cx cy HI hO1
      have j1 : (0 : Int) ≤ (N : Int) - 1 - (k : Int) := by omega
      have j2 : (N : Int) - 1 - (k : Int) < (N : Int) := by omega
      have j3 : ((N : Int) - 1 - (k : Int)).toNat = N - 1 - k := by omega
      go_upto_region 3 with fail
      refine wp_region_any (by kernel_rfl) ?_
      refine wpAny_take (i := 0) (v := .slice (some ⟨g, 0, none⟩) N c) rfl (by kernel_rfl) (by kernel_rfl) (by kernel_rfl) (fun _ _ _ h => h) (Or.inl ⟨by rfl, fun w' => by go_simp⟩) ?_
      simp only [Act.put, List.getElem_toArray, List.getElem_cons_succ, List.getElem_cons_zero, List.setIfInBounds_toArray, List.set_cons_succ, List.set_cons_zero]
      refine wpAny_take (i := 1) (v := .int .i64 k) rfl (by kernel_rfl) (by kernel_rfl) (by kernel_rfl) (fun _ _ _ h => h) (Or.inl ⟨by rfl, fun w' => by go_simp⟩) ?_
      simp only [Act.put, List.getElem_toArray, List.getElem_cons_succ, List.getElem_cons_zero, List.setIfInBounds_toArray, List.set_cons_succ, List.set_cons_zero]
      refine wpAny_take (i := 2) (v := .slice (some ⟨g, 0, none⟩) N c) rfl (by kernel_rfl) (by kernel_rfl) (by kernel_rfl) (fun _ _ _ h => h) (Or.inl ⟨by rfl, fun w' => by go_simp⟩) ?_
      simp only [Act.put, List.getElem_toArray, List.getElem_cons_succ, List.getElem_cons_zero, List.setIfInBounds_toArray, List.set_cons_succ, List.set_cons_zero]
      refine wpAny_take (i := 3) (v := .int .i64 ((N : Int) - 1 - (k : Int))) rfl (by kernel_rfl) (by kernel_rfl) (by kernel_rfl) (fun _ _ _ h => h) (Or.inl ⟨by rfl, fun w' => by go_simp⟩) ?_
      simp only [Act.put, List.getElem_toArray, List.getElem_cons_succ, List.getElem_cons_zero, List.setIfInBounds_toArray, List.set_cons_succ, List.set_cons_zero]
      refine wpAny_take (i := 4) (v := .slice (some ⟨g, 0, none⟩) N c) rfl (by kernel_rfl) (by kernel_rfl) (by kernel_rfl) (fun _ _ _ h => h) (Or.inl ⟨by rfl, fun w' => by go_simp⟩) ?_
      simp only [Act.put, List.getElem_toArray, List.getElem_cons_succ, List.getElem_cons_zero, List.setIfInBounds_toArray, List.set_cons_succ, List.set_cons_zero]
      refine wpAny_take (i := 5) (v := .int .i64 ((N : Int) - 1 - (k : Int))) rfl (by kernel_rfl) (by kernel_rfl) (by kernel_rfl) (fun _ _ _ h => h) (Or.inl ⟨by rfl, fun w' => by go_simp⟩) ?_
      simp only [Act.put, List.getElem_toArray, List.getElem_cons_succ, List.getElem_cons_zero, List.setIfInBounds_toArray, List.set_cons_succ, List.set_cons_zero]
      refine wpAny_take (i := 8) (v := .slice (some ⟨g, 0, none⟩) N c) rfl (by kernel_rfl) (by kernel_rfl) (by kernel_rfl) (fun _ _ _ h => h) (Or.inl ⟨by rfl, fun w' => by go_simp⟩) ?_
      simp only [Act.put, List.getElem_toArray, List.getElem_cons_succ, List.getElem_cons_zero, List.setIfInBounds_toArray, List.set_cons_succ, List.set_cons_zero]
      refine wpAny_take (i := 9) (v := .int .i64 k) rfl (by kernel_rfl) (by kernel_rfl) (by kernel_rfl) (fun _ _ _ h => h) (Or.inl ⟨by rfl, fun w' => by go_simp⟩) ?_
      simp only [Act.put, List.getElem_toArray, List.getElem_cons_succ, List.getElem_cons_zero, List.setIfInBounds_toArray, List.set_cons_succ, List.set_cons_zero]
      refine wpAny_take (i := 6) (v := .pointer (some ⟨g, (N - 1 - k) * 16, none⟩)) rfl (by kernel_rfl) (by kernel_rfl) (by kernel_rfl) (fun _ _ _ h => h) (Or.inl ⟨by rfl, fun w' => by go_simp; intro h; exfalso; omega⟩) ?_
      simp only [Act.put, List.getElem_toArray, List.getElem_cons_succ, List.getElem_cons_zero, List.setIfInBounds_toArray, List.set_cons_succ, List.set_cons_zero]
      refine wpAny_take (i := 10) (v := .pointer (some ⟨g, k * 16, none⟩)) rfl (by kernel_rfl) (by kernel_rfl) (by kernel_rfl) (fun _ _ _ h => h) (Or.inl ⟨by rfl, fun w' => by go_simp; intro h; exfalso; omega⟩) ?_
      simp only [Act.put, List.getElem_toArray, List.getElem_cons_succ, List.getElem_cons_zero, List.setIfInBounds_toArray, List.set_cons_succ, List.set_cons_zero]
      refine wpAny_all (rs := [7, 11]) (by kernel_rfl) (by simp) ?_
      intro i hi
      have hi2 : i = 7 ∨ i = 11 := by simpa using hi
      rcases hi2 with rfl | rfl
      · refine wpOp_load agg_dg (i := 7) rfl rfl (.tmp 20) rfl g ((N - 1 - k) * 16) rfl (u8s y.1) (dg_len y) HCY.out ?_
        simp only [Act.put, List.getElem_toArray, List.getElem_cons_succ, List.getElem_cons_zero, List.setIfInBounds_toArray, List.set_cons_succ, List.set_cons_zero]
        refine wpAny_all (rs := [11]) (by kernel_rfl) (by simp) ?_
        intro i hi
        obtain rfl : i = 11 := by simpa using hi
        refine wpOp_load agg_dg (i := 11) rfl rfl (.tmp 24) rfl g (k * 16) rfl (u8s x.1) (dg_len x) HCX.out ?_
        simp only [Act.put, List.getElem_toArray, List.getElem_cons_succ, List.getElem_cons_zero, List.setIfInBounds_toArray, List.set_cons_succ, List.set_cons_zero]
        refine wpAny_tail 12 (by kernel_rfl) (by kernel_rfl) ?_
        simp only [List.drop_succ_cons, List.drop_zero]
        have HD1 : Hid (OwnD wr.drew B (.slice (some ⟨g, 0, none⟩) N c) R) := Lib.hid (HO1.out.below (Ext.refl wr).drew)
        go_wp2_with (first
          | ((with_reducible show wpList _ _ _ (⟨Option.none, .store _ (.tmp 26) _, _, _, _, _⟩ :: _) _ _); go_must (refine wpList_storeD _ B g N c R HD1.out hRl k (by omega) rfl (.tmp 26) (.tmp 21) rfl rfl y rfl ?_); intro w3 ho3 hg3)
          | ((with_reducible show wpList _ _ _ (⟨Option.none, .store _ (.tmp 27) _, _, _, _, _⟩ :: _) _ _); go_must (refine wpList_storeD _ B g N c (R.set k y) ho3 (by rw [List.length_set]; exact hRl) (N - 1 - k) (by omega) rfl (.tmp 27) (.tmp 25) rfl rfl x rfl ?_); intro w4 ho4 hg4)
          | fail)
        go_roundg (N - (k + 1))
        case measure => omega
        case rel =>
          refine ⟨k + 1, by go_num, by go_num, by omega, by omega, Lib.hid ⟨?_, ?_⟩⟩
          · rw [← HST.out]; exact ho4
          · exact grownBy_trans (grownBy_trans (grownBy_drewN HQ.out 1) hg3) hg4
      · refine wpOp_load agg_dg (i := 11) rfl rfl (.tmp 24) rfl g (k * 16) rfl (u8s x.1) (dg_len x) HCX.out ?_
        simp only [Act.put, List.getElem_toArray, List.getElem_cons_succ, List.getElem_cons_zero, List.setIfInBounds_toArray, List.set_cons_succ, List.set_cons_zero]
        refine wpAny_all (rs := [7]) (by kernel_rfl) (by simp) ?_
        intro i hi
        obtain rfl : i = 7 := by simpa using hi
        refine wpOp_load agg_dg (i := 7) rfl rfl (.tmp 20) rfl g ((N - 1 - k) * 16) rfl (u8s y.1) (dg_len y) HCY.out ?_
        simp only [Act.put, List.getElem_toArray, List.getElem_cons_succ, List.getElem_cons_zero, List.setIfInBounds_toArray, List.set_cons_succ, List.set_cons_zero]
        refine wpAny_tail 12 (by kernel_rfl) (by kernel_rfl) ?_
        simp only [List.drop_succ_cons, List.drop_zero]
        have HD1 : Hid (OwnD wr.drew B (.slice (some ⟨g, 0, none⟩) N c) R) := Lib.hid (HO1.out.below (Ext.refl wr).drew)
        go_wp2_with (first
          | ((with_reducible show wpList _ _ _ (⟨Option.none, .store _ (.tmp 26) _, _, _, _, _⟩ :: _) _ _); go_must (refine wpList_storeD _ B g N c R HD1.out hRl k (by omega) rfl (.tmp 26) (.tmp 21) rfl rfl y rfl ?_); intro w3 ho3 hg3)
          | ((with_reducible show wpList _ _ _ (⟨Option.none, .store _ (.tmp 27) _, _, _, _, _⟩ :: _) _ _); go_must (refine wpList_storeD _ B g N c (R.set k y) ho3 (by rw [List.length_set]; exact hRl) (N - 1 - k) (by omega) rfl (.tmp 27) (.tmp 25) rfl rfl x rfl ?_); intro w4 ho4 hg4)
          | fail)
        go_roundg (N - (k + 1))
        case measure => omega
        case rel =>
          refine ⟨k + 1, by go_num, by go_num, by omega, by omega, Lib.hid ⟨?_, ?_⟩⟩
          · rw [← HST.out]; exact ho4
          · exact grownBy_trans (grownBy_trans (grownBy_drewN HQ.out 1) hg3) hg4
    · have hd : decide ((k : Int) < (N : Int) - 1 - (k : Int)) = false := by rw [decide_eq_false_iff_not]; omega
      go_wp2_with fail
      go_end0
      exact ⟨⟨_, rfl⟩, by have := HI.out.1; rwa [revK_all (by rw [HL.out]; omega)] at this, HI.out.2⟩

set_option maxRecDepth 100000 in
theorem reverse_nil (w : World) : Calls Tryd.prog 94 #[.slice none 0 0] w (fun e w' => (∃ v, e = .returned v) ∧ w = w') := by
  go_enter Tryd.func94, Tryd.ntmps94
  go_wp2_with fail
  go_loopg [2, 3] 0 (fun gk iv jv wr => iv = .int .i64 0 ∧ jv = .int .i64 (-1) ∧ w = wr)
  case atStart => exact ⟨rfl, rfl, rfl⟩
  case round =>
    obtain ⟨rfl, rfl, rfl⟩ := hrel
    go_wp2_with fail
    go_end0
    exact ⟨⟨_, rfl⟩, rfl⟩
theorem reverse_own (B : Nat) (v : Value) (l : List Dg) (w : World) (hown : OwnD w B v l) (hl : l.length ≤ 1000000) :
    Calls Tryd.prog 94 #[v] w (fun e w' => (∃ v, e = .returned v) ∧ OwnD w' B v l.reverse ∧ w.grownBy w' v.ownBlock) := by
  rcases hown.2 with ⟨rfl, hx⟩ | ⟨g, cap, cur, rfl, h2, h3, h4, h5, h6, h7⟩
  · have h0 : l = [] := List.eq_nil_of_length_eq_zero hx
    subst h0
    refine (reverse_nil w).mono ?_
    rintro e w' ⟨h, rfl⟩
    exact ⟨h, hown, World.grownBy.refl _ _⟩
  · exact reverse_calls B g l.length cap l w hown rfl hl
end Go.Proofs.YtcjeclddpkinkaaDoor
