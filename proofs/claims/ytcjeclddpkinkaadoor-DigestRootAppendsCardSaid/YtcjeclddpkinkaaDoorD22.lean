/- Lists of bools: owned, appended to, turned round; lists of byte slices. -/
import Derived.Test.YtcjeclddpkinkaaDoorD21
set_option linter.unusedSimpArgs false
set_option linter.unusedVariables false
namespace Go.Proofs.YtcjeclddpkinkaaDoor
open Go.RowKit
open Wz (Dg)

def bls (l : List Bool) : List Value := l.map Value.bool
theorem bls_length (l : List Bool) : (bls l).length = l.length := by simp [bls]
theorem bls_append (l m : List Bool) : bls (l ++ m) = bls l ++ bls m := by simp [bls]
theorem bls_one (l : List Bool) : ∀ u ∈ bls l, u.oneCell' = true := by
  intro u hu; simp only [bls, List.mem_map] at hu; obtain ⟨c, _, rfl⟩ := hu; rfl
theorem bls_at {l : List Bool} {j : Nat} {b : Bool} (h : l[j]? = some b) : (bls l)[j]? = some (.bool b) := by simp [bls, h]
def OwnZ (w : World) (base : Nat) (v : Value) (l : List Bool) : Prop := w.ownsRow base 4 1 v l.length (bls l)
theorem OwnZ.nil (w : World) (base : Nat) : OwnZ w base (.slice none 0 0) [] := World.ownsRow_nil _ _ _ _
theorem OwnZ.rebase {w : World} {base base' : Nat} {v : Value} {l : List Bool} (h : OwnZ w base v l) (hb : base' ≤ base) : OwnZ w base' v l := own_rebase h hb
theorem OwnZ.below {w w1 : World} {base : Nat} {v : Value} {l : List Bool} (h : OwnZ w base v l) (hb : Below w.heap.size w w1) : OwnZ w1 base v l := own_below h hb
theorem OwnZ.alloc {w : World} {base : Nat} {v : Value} {l : List Bool} (h : OwnZ w base v l) (o : Obj) : OwnZ (w.alloc o) base v l := World.ownsRow.alloc h o
theorem OwnZ.slice {w : World} {base : Nat} {v : Value} {l : List Bool} (h : OwnZ w base v l) : ∃ A cap, v = .slice A l.length cap ∧ l.length ≤ cap ∧ cap ≤ maxLen ∧ Rd w A (bls l) := own_slice h
theorem OwnZ.base_le {w : World} {base : Nat} {v : Value} {l : List Bool} (h : OwnZ w base v l) : ∀ k, v.ownBlock = some k → base ≤ k ∧ k < w.heap.size := World.ownsRow.lt h
theorem OwnZ.kept {w w' : World} {base : Nat} {v : Value} {l : List Bool} {row : Option Nat} (h : OwnZ w base v l) (hg : w.grownBy w' row) (hne : v.ownBlock = none ∨ v.ownBlock ≠ row) : OwnZ w' base v l := World.ownsRow.kept h hg hne
theorem info_bool : (Tryd.prog.info? 4).map (fun i => (i.zero, i.size, i.bytes)) = some (some (.bool false), 1, 1) := by kernel_rfl
theorem und_bl : Tryd.prog.underlying 156 = some (.slice 4) := by kernel_rfl
theorem wpList_appZ (w : World) {ops : Array Oper} {rest : List Oper} {o : Oper} {a : Act} {Q : Exit → Act → World → Prop} (hgd : o.guard = none) (s x : Operand)
    (ho : o.op = .call { callee := .builtin .append, args := #[s, x], argTypes := #[156, 156] })
    (base : Nat) (v : Value) (l : List Bool) (hs : a.eval s = v) (hown : OwnZ w base v l) (A : Option Addr) (n c : Nat) (news : List Bool) (hx : a.eval x = .slice A n c) (hn : news.length = n) (hr : Rd w A (bls news))
    (hbytes : l.length + n ≤ 1000000000000) (hbase : base ≤ w.heap.size)
    (h : ∀ v' w', OwnZ w' base v' (l ++ news) → w.grownBy w' v.ownBlock → (∀ B w0, B ≤ base → Below B w0 w → Below B w0 w') → wpList Tryd.prog ops Q rest (a.put o.dst v') w') : wpList Tryd.prog ops Q (o :: rest) a w := by
  subst hn
  obtain ⟨i0, hi, hz0, hz1, hz2⟩ := info_parts info_bool
  refine wpList_app w hgd s x 156 ho base 4 i0 (.bool false) 1 1 und_bl hi hz0 hz1 hz2 rfl (by decide) v l.length (bls l) hs hown A news.length c (bls news) hx (by rw [bls_length, Nat.mul_one]) hr (bls_one _) (by omega) (by decide) hbase ?_
  intro v' w' h1 h2 _
  refine h v' w' (by unfold OwnZ; rw [bls_append, List.length_append]; exact h1) h2 fun B w0 hB hb => hb.grown h2 (by omega) fun k hk => ?_
  have := hown.base_le k hk
  omega
theorem run_buildZ (b : Bool) (w : World) : (Instr.buildSlice 156 1 #[(0, .bool b)]).run Tryd.prog w = .ok (.slice (some ⟨w.heap.size, 0, none⟩) 1 1) (w.alloc (.cells #[.bool b] 4)) := by
  obtain ⟨i0, hi, hz0, hz1, hz2⟩ := info_parts info_bool
  exact run_buildOne w 156 4 i0 _ _ und_bl hi hz0 (by rw [hz1]; decide) (by rw [hz1]; decide) [.bool b] rfl (by rw [hz1]; rfl)
/-- a store of a bool into a list that the call owns -/
theorem wpList_storeZ (w : World) (B g : Nat) (N c : Nat) (l : List Bool) (hown : OwnZ w B (.slice (some ⟨g, 0, none⟩) N c) l) (hN : l.length = N) (i : Nat) (hi : i < N) {ops : Array Oper} {rest : List Oper} {o : Oper} {a : Act} {Q : Exit → Act → World → Prop} (hgd : o.guard = none) (p x : Operand) (ho : o.op = .store 4 p x)
    (hp : a.eval p = .pointer (some ⟨g, i, none⟩)) (d : Bool) (hx : a.eval x = .bool d)
    (h : ∀ w', OwnZ w' B (.slice (some ⟨g, 0, none⟩) N c) (l.set i d) → w.grownBy w' (some g) → wpList Tryd.prog ops Q rest (a.put o.dst undef) w') : wpList Tryd.prog ops Q (o :: rest) a w := by
  subst hN
  have h1 : w.ownsRow B 4 1 (.slice (some ⟨g, 0, none⟩) l.length c) l.length (bls l) := hown
  have hc := h1.cellAt i (by omega)
  have hf := h1.frozenAt i
  rw [bls_at (List.getElem?_eq_getElem hi)] at hc
  obtain ⟨h2, h3⟩ := h1.stored i (.bool d)
  refine wpList_skip hgd ?_ (h (w.setCell ⟨g, i, none⟩ (.bool d)) (by unfold OwnZ; rw [List.length_set]; simpa [bls, List.map_set] using h2) h3)
  unfold execOp
  rw [ho]
  simp only [Sem.run_bind, Sem.run_pure, hp, hx]
  go_simp
theorem wpOp_val {P : Program} {ops : Array Oper} {Q : Exit → Act → World → Prop} {K : Act → World → Prop} {a : Act} {w : World} {o : Oper} {i : Nat} {v : Value} (ho : ops[i]? = some o) (hg : o.guard = none) (hrun : (execOp a.eval o).run P w = .ok (.value v) w) (h : K (a.put o.dst v) w) : wpOp P ops Q i K a w := by
  unfold wpOp
  rw [ho]
  simp only
  rw [if_pos (by unfold Region.wanted; rw [hg])]
  left
  unfold Oper.wp
  rw [hrun]
  exact h

/-- the list, its first k and its last k elements turned -/
def revKb (l : List Bool) (k : Nat) : List Bool := (List.range l.length).map fun i => if i < k ∨ l.length - k ≤ i then l.getD (l.length - 1 - i) false else l.getD i false
theorem revKb_len (l : List Bool) (k : Nat) : (revKb l k).length = l.length := by simp [revKb]
theorem revKb_at {l : List Bool} {k i : Nat} (h : i < l.length) : (revKb l k)[i]? = some (if i < k ∨ l.length - k ≤ i then l.getD (l.length - 1 - i) false else l.getD i false) := by
  simp [revKb, h]
theorem revKb_zero (l : List Bool) : revKb l 0 = l := by
  apply List.ext_getElem?
  intro i
  by_cases h : i < l.length
  · rw [revKb_at h, if_neg (by omega), List.getD, List.getElem?_eq_getElem h]; rfl
  · rw [List.getElem?_eq_none (by rw [revKb_len]; omega), List.getElem?_eq_none (by omega)]
theorem revKb_all {l : List Bool} {k : Nat} (h : l.length ≤ 2 * k + 1) : revKb l k = l.reverse := by
  apply List.ext_getElem?
  intro i
  by_cases hi : i < l.length
  · rw [revKb_at hi, List.getElem?_reverse hi]
    have e : l[l.length - 1 - i]? = some (l.getD (l.length - 1 - i) false) := by rw [List.getD, List.getElem?_eq_getElem (by omega)]; rfl
    rw [e]
    split
    · rfl
    · rename_i h2
      rw [show l.length - 1 - i = i from by omega]
  · rw [List.getElem?_eq_none (by rw [revKb_len]; omega), List.getElem?_eq_none (by rw [List.length_reverse]; omega)]
theorem revKb_step {l : List Bool} {k : Nat} (h : 2 * k + 1 < l.length) : ((revKb l k).set k (l.getD (l.length - 1 - k) false)).set (l.length - 1 - k) (l.getD k false) = revKb l (k + 1) := by
  apply List.ext_getElem?
  intro i
  by_cases hi : i < l.length
  · rw [revKb_at hi, List.getElem?_set, List.getElem?_set, List.length_set, revKb_len]
    by_cases h1 : l.length - 1 - k = i
    · rw [if_pos h1, if_pos (by omega), if_pos (by omega)]
      rw [show l.length - 1 - i = k from by omega]
    · rw [if_neg h1]
      by_cases h2 : k = i
      · subst h2
        rw [if_pos rfl, if_pos (by omega), if_pos (by omega)]
      · rw [if_neg h2, revKb_at hi]
        by_cases h3 : i < k ∨ l.length - k ≤ i
        · rw [if_pos h3, if_pos (by omega)]
        · rw [if_neg h3, if_neg (by omega)]
  · rw [List.getElem?_eq_none (by rw [List.length_set, List.length_set, revKb_len]; omega), List.getElem?_eq_none (by rw [revKb_len]; omega)]

set_option maxRecDepth 100000 in
set_option maxHeartbeats 1000000 in
/-- slices.Reverse at bools: in place -/
theorem reverseb_calls (B g N c : Nat) (l : List Bool) (w : World) (hown : OwnZ w B (.slice (some ⟨g, 0, none⟩) N c) l) (hl : l.length = N) (hN : N ≤ 1000000) :
    Calls Tryd.prog 105 #[.slice (some ⟨g, 0, none⟩) N c] w (fun e w' => (∃ v, e = .returned v) ∧ OwnZ w' B (.slice (some ⟨g, 0, none⟩) N c) l.reverse ∧ w.grownBy w' (some g)) := by
  have HL := Lib.hid hl
  have HO := Lib.hid hown
  clear hl hown
  go_enter Tryd.func105, Tryd.ntmps105
  go_wp2_with fail
  go_loopg [2, 3] N (fun gk iv jv wr => ∃ k : Nat, iv = .int .i64 (k : Int) ∧ jv = .int .i64 ((N : Int) - 1 - (k : Int)) ∧ 2 * k ≤ N ∧ N - k ≤ gk ∧ Hid (OwnZ wr B (.slice (some ⟨g, 0, none⟩) N c) (revKb l k) ∧ w.grownBy wr (some g)))
  case atStart => exact ⟨0, rfl, by go_num, by omega, by omega, Lib.hid ⟨by rw [revKb_zero]; exact HO.out, World.grownBy.refl _ _⟩⟩
  case round =>
    obtain ⟨k, rfl, rfl, hk, hg, HI⟩ := hrel
    by_cases hlt : 2 * k + 1 < N
    · have hd : decide ((k : Int) < (N : Int) - 1 - (k : Int)) = true := decide_eq_true (by omega)
      have HST := Lib.hid (revKb_step (l := l) (k := k) (by rw [HL.out]; omega))
      rw [HL.out] at HST
      have hRl := revKb_len l k
      rw [HL.out] at hRl
      have e1 : (revKb l k)[k]? = some (l.getD k false) := by rw [revKb_at (by rw [HL.out]; omega), if_neg (by rw [HL.out]; omega)]
      have e2 : (revKb l k)[N - 1 - k]? = some (l.getD (N - 1 - k) false) := by rw [revKb_at (by rw [HL.out]; omega), if_neg (by rw [HL.out]; omega)]
      have HQ := Lib.hid HI.out.2
      have hO1 := HI.out.1
      obtain ⟨R, hR⟩ : ∃ R, revKb l k = R := ⟨_, rfl⟩
      rw [hR] at HST hRl e1 e2 hO1
      obtain ⟨x, hx⟩ : ∃ x, l.getD k false = x := ⟨_, rfl⟩
      obtain ⟨y, hy⟩ : ∃ x, l.getD (N - 1 - k) false = x := ⟨_, rfl⟩
      rw [hx] at e1 HST
      rw [hy] at e2 HST
      have hO9 : wr.ownsRow B 4 1 (.slice (some ⟨g, 0, none⟩) N c) N (bls R) := by have h9 := hO1; unfold OwnZ at h9; rwa [hRl] at h9
      have cx := hO9.cellAt k (by omega)
      have cy := hO9.cellAt (N - 1 - k) (by omega)
      rw [bls_at e1] at cx
      rw [bls_at e2] at cy
      have HCX := Lib.hid cx
      have HCY := Lib.hid cy
      have HO1 := Lib.hid hO1
      clear hR hx hy e1 e2 hO9 cx cy HI hO1
      have j1 : (0 : Int) ≤ (N : Int) - 1 - (k : Int) := by omega
      have j2 : (N : Int) - 1 - (k : Int) < (N : Int) := by omega
      have j3 : ((N : Int) - 1 - (k : Int)).toNat = N - 1 - k := by omega
      go_upto_region 3 with fail
      refine wp_region_any (by kernel_rfl) ?_
      refine wpAny_take (i := 0) (v := .slice (some ⟨g, 0, none⟩) N c) rfl (by kernel_rfl) (by kernel_rfl) (by kernel_rfl) (fun _ _ _ h => h) (Or.inl ⟨by rfl, fun w' => by go_simp⟩) ?_
      simp only [Act.put, List.getElem_toArray, List.getElem_cons_succ, List.getElem_cons_zero, List.setIfInBounds_toArray, List.set_cons_succ, List.set_cons_zero]
      refine wpAny_take (i := 1) (v := .int .i64 k) rfl (by kernel_rfl) (by kernel_rfl) (by kernel_rfl) (fun _ _ _ h => h) (Or.inl ⟨by rfl, fun w' => by go_simp⟩) ?_
      simp only [Act.put, List.getElem_toArray, List.getElem_cons_succ, List.getElem_cons_zero, List.setIfInBounds_toArray, List.set_cons_succ, List.set_cons_zero]
      refine wpAny_take (i := 2) (v := .slice (some ⟨g, 0, none⟩) N c) rfl (by kernel_rfl) (by kernel_rfl) (by kernel_rfl) (fun _ _ _ h => h) (Or.inl ⟨by rfl, fun w' => by go_simp⟩) ?_
      simp only [Act.put, List.getElem_toArray, List.getElem_cons_succ, List.getElem_cons_zero, List.setIfInBounds_toArray, List.set_cons_succ, List.set_cons_zero]
      refine wpAny_take (i := 3) (v := .int .i64 ((N : Int) - 1 - (k : Int))) rfl (by kernel_rfl) (by kernel_rfl) (by kernel_rfl) (fun _ _ _ h => h) (Or.inl ⟨by rfl, fun w' => by go_simp⟩) ?_
      simp only [Act.put, List.getElem_toArray, List.getElem_cons_succ, List.getElem_cons_zero, List.setIfInBounds_toArray, List.set_cons_succ, List.set_cons_zero]
      refine wpAny_take (i := 4) (v := .slice (some ⟨g, 0, none⟩) N c) rfl (by kernel_rfl) (by kernel_rfl) (by kernel_rfl) (fun _ _ _ h => h) (Or.inl ⟨by rfl, fun w' => by go_simp⟩) ?_
      simp only [Act.put, List.getElem_toArray, List.getElem_cons_succ, List.getElem_cons_zero, List.setIfInBounds_toArray, List.set_cons_succ, List.set_cons_zero]
      refine wpAny_take (i := 5) (v := .int .i64 ((N : Int) - 1 - (k : Int))) rfl (by kernel_rfl) (by kernel_rfl) (by kernel_rfl) (fun _ _ _ h => h) (Or.inl ⟨by rfl, fun w' => by go_simp⟩) ?_
      simp only [Act.put, List.getElem_toArray, List.getElem_cons_succ, List.getElem_cons_zero, List.setIfInBounds_toArray, List.set_cons_succ, List.set_cons_zero]
      refine wpAny_take (i := 8) (v := .slice (some ⟨g, 0, none⟩) N c) rfl (by kernel_rfl) (by kernel_rfl) (by kernel_rfl) (fun _ _ _ h => h) (Or.inl ⟨by rfl, fun w' => by go_simp⟩) ?_
      simp only [Act.put, List.getElem_toArray, List.getElem_cons_succ, List.getElem_cons_zero, List.setIfInBounds_toArray, List.set_cons_succ, List.set_cons_zero]
      refine wpAny_take (i := 9) (v := .int .i64 k) rfl (by kernel_rfl) (by kernel_rfl) (by kernel_rfl) (fun _ _ _ h => h) (Or.inl ⟨by rfl, fun w' => by go_simp⟩) ?_
      simp only [Act.put, List.getElem_toArray, List.getElem_cons_succ, List.getElem_cons_zero, List.setIfInBounds_toArray, List.set_cons_succ, List.set_cons_zero]
      refine wpAny_take (i := 6) (v := .pointer (some ⟨g, N - 1 - k, none⟩)) rfl (by kernel_rfl) (by kernel_rfl) (by kernel_rfl) (fun _ _ _ h => h) (Or.inl ⟨by rfl, fun w' => by go_simp; intro h; exfalso; omega⟩) ?_
      simp only [Act.put, List.getElem_toArray, List.getElem_cons_succ, List.getElem_cons_zero, List.setIfInBounds_toArray, List.set_cons_succ, List.set_cons_zero]
      refine wpAny_take (i := 10) (v := .pointer (some ⟨g, k, none⟩)) rfl (by kernel_rfl) (by kernel_rfl) (by kernel_rfl) (fun _ _ _ h => h) (Or.inl ⟨by rfl, fun w' => by go_simp; intro h; exfalso; omega⟩) ?_
      simp only [Act.put, List.getElem_toArray, List.getElem_cons_succ, List.getElem_cons_zero, List.setIfInBounds_toArray, List.set_cons_succ, List.set_cons_zero]
      refine wpAny_all (rs := [7, 11]) (by kernel_rfl) (by simp) ?_
      intro i hi
      have hi2 : i = 7 ∨ i = 11 := by simpa using hi
      rcases hi2 with rfl | rfl
      · refine wpOp_val (i := 7) (v := .bool y) rfl rfl (by have hcv := HCY.out; go_simp) ?_
        simp only [Act.put, List.getElem_toArray, List.getElem_cons_succ, List.getElem_cons_zero, List.setIfInBounds_toArray, List.set_cons_succ, List.set_cons_zero]
        refine wpAny_all (rs := [11]) (by kernel_rfl) (by simp) ?_
        intro i hi
        obtain rfl : i = 11 := by simpa using hi
        refine wpOp_val (i := 11) (v := .bool x) rfl rfl (by have hcv := HCX.out; go_simp) ?_
        simp only [Act.put, List.getElem_toArray, List.getElem_cons_succ, List.getElem_cons_zero, List.setIfInBounds_toArray, List.set_cons_succ, List.set_cons_zero]
        refine wpAny_tail 12 (by kernel_rfl) (by kernel_rfl) ?_
        simp only [List.drop_succ_cons, List.drop_zero]
        have HD1 : Hid (OwnZ wr.drew B (.slice (some ⟨g, 0, none⟩) N c) R) := Lib.hid (HO1.out.below (Ext.refl wr).drew)
        go_wp2_with (first
          | ((with_reducible show wpList _ _ _ (⟨Option.none, .store _ (.tmp 26) _, _, _, _, _⟩ :: _) _ _); go_must (refine wpList_storeZ _ B g N c R HD1.out hRl k (by omega) rfl (.tmp 26) (.tmp 21) rfl rfl y rfl ?_); intro w3 ho3 hg3)
          | ((with_reducible show wpList _ _ _ (⟨Option.none, .store _ (.tmp 27) _, _, _, _, _⟩ :: _) _ _); go_must (refine wpList_storeZ _ B g N c (R.set k y) ho3 (by rw [List.length_set]; exact hRl) (N - 1 - k) (by omega) rfl (.tmp 27) (.tmp 25) rfl rfl x rfl ?_); intro w4 ho4 hg4)
          | fail)
        go_roundg (N - (k + 1))
        case measure => omega
        case rel =>
          refine ⟨k + 1, by go_num, by go_num, by omega, by omega, Lib.hid ⟨?_, ?_⟩⟩
          · rw [← HST.out]; exact ho4
          · exact grownBy_trans (grownBy_trans (grownBy_drewN HQ.out 1) hg3) hg4
      · refine wpOp_val (i := 11) (v := .bool x) rfl rfl (by have hcv := HCX.out; go_simp) ?_
        simp only [Act.put, List.getElem_toArray, List.getElem_cons_succ, List.getElem_cons_zero, List.setIfInBounds_toArray, List.set_cons_succ, List.set_cons_zero]
        refine wpAny_all (rs := [7]) (by kernel_rfl) (by simp) ?_
        intro i hi
        obtain rfl : i = 7 := by simpa using hi
        refine wpOp_val (i := 7) (v := .bool y) rfl rfl (by have hcv := HCY.out; go_simp) ?_
        simp only [Act.put, List.getElem_toArray, List.getElem_cons_succ, List.getElem_cons_zero, List.setIfInBounds_toArray, List.set_cons_succ, List.set_cons_zero]
        refine wpAny_tail 12 (by kernel_rfl) (by kernel_rfl) ?_
        simp only [List.drop_succ_cons, List.drop_zero]
        have HD1 : Hid (OwnZ wr.drew B (.slice (some ⟨g, 0, none⟩) N c) R) := Lib.hid (HO1.out.below (Ext.refl wr).drew)
        go_wp2_with (first
          | ((with_reducible show wpList _ _ _ (⟨Option.none, .store _ (.tmp 26) _, _, _, _, _⟩ :: _) _ _); go_must (refine wpList_storeZ _ B g N c R HD1.out hRl k (by omega) rfl (.tmp 26) (.tmp 21) rfl rfl y rfl ?_); intro w3 ho3 hg3)
          | ((with_reducible show wpList _ _ _ (⟨Option.none, .store _ (.tmp 27) _, _, _, _, _⟩ :: _) _ _); go_must (refine wpList_storeZ _ B g N c (R.set k y) ho3 (by rw [List.length_set]; exact hRl) (N - 1 - k) (by omega) rfl (.tmp 27) (.tmp 25) rfl rfl x rfl ?_); intro w4 ho4 hg4)
          | fail)
        go_roundg (N - (k + 1))
        case measure => omega
        case rel =>
          refine ⟨k + 1, by go_num, by go_num, by omega, by omega, Lib.hid ⟨?_, ?_⟩⟩
          · rw [← HST.out]; exact ho4
          · exact grownBy_trans (grownBy_trans (grownBy_drewN HQ.out 1) hg3) hg4
    · have hd : decide ((k : Int) < (N : Int) - 1 - (k : Int)) = false := by rw [decide_eq_false_iff_not]; omega
      go_wp2_with fail
      go_end0
      exact ⟨⟨_, rfl⟩, by have := HI.out.1; rwa [revKb_all (by rw [HL.out]; omega)] at this, HI.out.2⟩

set_option maxRecDepth 100000 in
theorem reverseb_nil (w : World) : Calls Tryd.prog 105 #[.slice none 0 0] w (fun e w' => (∃ v, e = .returned v) ∧ w = w') := by
  go_enter Tryd.func105, Tryd.ntmps105
  go_wp2_with fail
  go_loopg [2, 3] 0 (fun gk iv jv wr => iv = .int .i64 0 ∧ jv = .int .i64 (-1) ∧ w = wr)
  case atStart => exact ⟨rfl, rfl, rfl⟩
  case round =>
    obtain ⟨rfl, rfl, rfl⟩ := hrel
    go_wp2_with fail
    go_end0
    exact ⟨⟨_, rfl⟩, rfl⟩
theorem reverseb_own (B : Nat) (v : Value) (l : List Bool) (w : World) (hown : OwnZ w B v l) (hl : l.length ≤ 1000000) :
    Calls Tryd.prog 105 #[v] w (fun e w' => (∃ v, e = .returned v) ∧ OwnZ w' B v l.reverse ∧ w.grownBy w' v.ownBlock) := by
  rcases hown.2 with ⟨rfl, hx⟩ | ⟨g, cap, cur, rfl, h2, h3, h4, h5, h6, h7⟩
  · have h0 : l = [] := List.eq_nil_of_length_eq_zero hx
    subst h0
    refine (reverseb_nil w).mono ?_
    rintro e w' ⟨h, rfl⟩
    exact ⟨h, hown, World.grownBy.refl _ _⟩
  · exact reverseb_calls B g l.length cap l w hown rfl hl

/-! ### lists of byte slices -/
/-- two rows of different types are different blocks -/
theorem rows_apart {w : World} {b1 b2 : Nat} {e1 e2 : TypeId} {s1 s2 n1 n2 : Nat} {v1 v2 : Value} {xs1 xs2 : List Value} (h1 : w.ownsRow b1 e1 s1 v1 n1 xs1) (h2 : w.ownsRow b2 e2 s2 v2 n2 xs2) (hne : e1 ≠ e2) : v1.ownBlock = none ∨ v1.ownBlock ≠ v2.ownBlock := by
  rcases h1.2 with ⟨rfl, _⟩ | ⟨g1, c1, cur1, rfl, _, hg1, _⟩
  · exact .inl rfl
  · rcases h2.2 with ⟨rfl, _⟩ | ⟨g2, c2, cur2, rfl, _, hg2, _⟩
    · right; simp [Value.ownBlock]
    · right
      simp only [Value.ownBlock, ne_eq, Option.some.injEq]
      rintro rfl
      rw [hg1] at hg2
      simp only [Option.some.injEq, Obj.cells.injEq] at hg2
      exact hne hg2.2.1
def Ins (w : World) (base : Nat) (v : Value) (xs : List (List UInt8)) : Prop := ∃ cs : List Value, w.ownsRow base 34 1 v xs.length cs ∧ ∀ (j : Nat) (u : Value), cs[j]? = some u → u.oneCell' = true ∧ ∃ x, xs[j]? = some x ∧ Own8 w base u x
theorem Ins.nil (w : World) (base : Nat) : Ins w base (.slice none 0 0) [] := ⟨[], World.ownsRow_nil _ _ _ _, fun j u h => by simp at h⟩
theorem Ins.rebase {w : World} {base base' : Nat} {v : Value} {l : List (List UInt8)} (h : Ins w base v l) (hb : base' ≤ base) : Ins w base' v l := by
  obtain ⟨cs, h1, h2⟩ := h
  exact ⟨cs, own_rebase h1 hb, fun j u hu => ⟨(h2 j u hu).1, by obtain ⟨x, hx, ho⟩ := (h2 j u hu).2; exact ⟨x, hx, ho.rebase hb⟩⟩⟩
theorem Ins.kept {w w' : World} {base : Nat} {v : Value} {l : List (List UInt8)} {row : Option Nat} (h : Ins w base v l) (hg : w.grownBy w' row) (hrow : ∀ k, row = some k → ∃ cur e, w.heap[k]? = some (.cells cur e (0, 0)) ∧ e ≠ 34 ∧ e ≠ 5) : Ins w' base v l := by
  obtain ⟨cs, h1, h2⟩ := h
  have key : ∀ {b : Nat} {e : TypeId} {s n : Nat} {v : Value} {xs : List Value}, w.ownsRow b e s v n xs → (e = 34 ∨ e = 5) → v.ownBlock = none ∨ v.ownBlock ≠ row := by
    intro b e s n v xs h he
    rcases h.2 with ⟨rfl, _⟩ | ⟨g1, c1, cur1, rfl, _, hg1, _⟩
    · exact .inl rfl
    · right
      simp only [Value.ownBlock]
      intro hr
      obtain ⟨cur, e', hk, h34, h5⟩ := hrow g1 hr.symm
      rw [hg1] at hk
      simp only [Option.some.injEq, Obj.cells.injEq] at hk
      rcases he with rfl | rfl
      · exact h34 hk.2.1.symm
      · exact h5 hk.2.1.symm
  exact ⟨cs, World.ownsRow.kept h1 hg (key h1 (.inl rfl)), fun j u hu => ⟨(h2 j u hu).1, by obtain ⟨x, hx, ho⟩ := (h2 j u hu).2; exact ⟨x, hx, ho.kept hg (key ho (.inr rfl))⟩⟩⟩
theorem Ins.below {w w1 : World} {base : Nat} {v : Value} {l : List (List UInt8)} (h : Ins w base v l) (hb : Below w.heap.size w w1) : Ins w1 base v l := h.kept (grownBy_below hb none) (fun k hk => by cases hk)
theorem Ins.alloc {w : World} {base : Nat} {v : Value} {l : List (List UInt8)} (h : Ins w base v l) (o : Obj) : Ins (w.alloc o) base v l := h.below ((Ext.refl w).alloc o)
theorem Ins.base_le {w : World} {base : Nat} {v : Value} {l : List (List UInt8)} (h : Ins w base v l) : ∀ k, v.ownBlock = some k → base ≤ k ∧ k < w.heap.size := by
  obtain ⟨cs, h1, h2⟩ := h
  exact World.ownsRow.lt h1
theorem Ins.at {w : World} {base : Nat} {v : Value} {l : List (List UInt8)} (h : Ins w base v l) {i : Nat} (hi : i < l.length) : ∃ g cap u, v = .slice (some ⟨g, 0, none⟩) l.length cap ∧ l.length ≤ cap ∧ base ≤ g ∧ w.cell? ⟨g, i, none⟩ = some u ∧ Own8 w base u l[i] := by
  obtain ⟨cs, h1, h2⟩ := h
  have hlen : cs.length = l.length := by rw [h1.1, Nat.mul_one]
  rcases h1.2 with ⟨rfl, h0⟩ | ⟨g, cap, cur, rfl, hb, hg, hnc, _⟩
  · omega
  · have hc := World.ownsRow.cellAt h1 i (by omega)
    have hu := List.getElem?_eq_getElem (l := cs) (i := i) (by omega)
    rw [hu] at hc
    obtain ⟨h1c, x, hx, ho⟩ := h2 i _ hu
    rw [List.getElem?_eq_getElem hi] at hx
    cases hx
    exact ⟨g, cap, _, rfl, hnc, hb, hc, ho⟩
theorem Ins.slice {w : World} {base : Nat} {v : Value} {l : List (List UInt8)} (h : Ins w base v l) : ∃ A cap, v = .slice A l.length cap ∧ l.length ≤ cap ∧ cap ≤ maxLen := by
  obtain ⟨cs, h1, h2⟩ := h
  obtain ⟨A, cap, e, hc, hm, _⟩ := own_slice h1
  exact ⟨A, cap, e, hc, hm⟩
theorem info_bsl : (Tryd.prog.info? 34).map (fun i => (i.zero, i.size, i.bytes)) = some (some (.slice none 0 0), 1, 24) := by kernel_rfl
theorem und_bsl : Tryd.prog.underlying 76 = some (.slice 34) := by kernel_rfl
theorem run_buildS (A : Option Addr) (n c : Nat) (w : World) : (Instr.buildSlice 76 1 #[(0, .slice A n c)]).run Tryd.prog w = .ok (.slice (some ⟨w.heap.size, 0, none⟩) 1 1) (w.alloc (.cells #[.slice A n c] 34)) := by
  obtain ⟨i0, hi, hz0, hz1, hz2⟩ := info_parts info_bsl
  exact run_buildOne w 76 34 i0 _ _ und_bsl hi hz0 (by rw [hz1]; decide) (by rw [hz1]; decide) [.slice A n c] rfl (by rw [hz1]; rfl)
/-- the list of one byte slice -/
theorem Ins.one {w : World} {base : Nat} {A : Option Addr} {n c : Nat} {x : List UInt8} (h : Own8 w base (.slice A n c) x) (hb : base ≤ w.heap.size) : Ins (w.alloc (.cells #[.slice A n c] 34)) base (.slice (some ⟨w.heap.size, 0, none⟩) 1 1) [x] := by
  refine ⟨[.slice A n c], World.ownsRow_lit w #[.slice A n c] 1 hb (by decide) rfl, fun j u hu => ?_⟩
  have hj : j = 0 := by have := (List.getElem?_eq_some_iff.1 hu).1; simp at this; exact this
  subst hj
  simp only [List.getElem?_cons_zero, Option.some.injEq] at hu
  subst hu
  exact ⟨rfl, x, rfl, h.alloc _⟩
/-- one more byte slice -/
theorem wpList_appS (w : World) {ops : Array Oper} {rest : List Oper} {o : Oper} {a : Act} {Q : Exit → Act → World → Prop} (hgd : o.guard = none) (s x : Operand)
    (ho : o.op = .call { callee := .builtin .append, args := #[s, x], argTypes := #[76, 76] })
    (base : Nat) (v : Value) (l : List (List UInt8)) (hs : a.eval s = v) (hown : Ins w base v l) (A : Option Addr) (u : Value) (y : List UInt8) (hx : a.eval x = .slice A 1 1) (hr : Rd w A [u]) (hu : u.oneCell' = true) (hy : Own8 w base u y)
    (hbytes : l.length ≤ 1000000) (hbase : base ≤ w.heap.size)
    (h : ∀ v' w', Ins w' base v' (l ++ [y]) → w.grownBy w' v.ownBlock → (∀ B w0, B ≤ base → Below B w0 w → Below B w0 w') → (∀ (b : Nat) (e : TypeId) (cur : Array Value), w.heap[b]? = some (Obj.cells cur e (0, 0)) → e ≠ 34 → w'.heap[b]? = w.heap[b]?) → wpList Tryd.prog ops Q rest (a.put o.dst v') w') : wpList Tryd.prog ops Q (o :: rest) a w := by
  obtain ⟨i0, hi, hz0, hz1, hz2⟩ := info_parts info_bsl
  obtain ⟨cs, h1, h2⟩ := hown
  have hlen : cs.length = l.length := by rw [h1.1, Nat.mul_one]
  refine wpList_app w hgd s x 76 ho base 34 i0 (.slice none 0 0) 1 24 und_bsl hi hz0 hz1 hz2 rfl (by decide) v l.length cs hs h1 A 1 1 [u] hx rfl hr (by intro u' hu'; rw [List.mem_singleton] at hu'; rw [hu']; exact hu) (by omega) (by decide) hbase ?_
  intro v' w' h3 h4 _
  have hap : ∀ (b : Nat) (e : TypeId) (cur : Array Value), w.heap[b]? = some (Obj.cells cur e (0, 0)) → e ≠ 34 → w'.heap[b]? = w.heap[b]? := by
    intro b e cur hb he
    refine h4.block b (Array.getElem?_eq_some_iff.1 hb).1 fun e' => ?_
    rcases h1.2 with ⟨rfl, _⟩ | ⟨g1, c1, cur1, rfl, _, hg1, _⟩
    · cases e'
    · have := Option.some.inj e'
      simp only at this
      subst this
      rw [hb] at hg1
      simp only [Option.some.injEq, Obj.cells.injEq] at hg1
      exact he hg1.2.1
  refine h v' w' ⟨cs ++ [u], by rw [List.length_append]; exact h3, ?_⟩ h4 (fun B w0 hB hb => hb.grown h4 (by omega) fun k hk => by have := World.ownsRow.lt h1 k hk; omega) hap
  intro j u' hu'
  rcases Nat.lt_or_ge j cs.length with hj | hj
  · rw [List.getElem?_append_left hj] at hu'
    obtain ⟨hc, x', hx', ho'⟩ := h2 j u' hu'
    exact ⟨hc, x', by rw [List.getElem?_append_left (by omega)]; exact hx', ho'.kept h4 (rows_apart ho' h1 (by decide))⟩
  · have hj2 : j = cs.length := by have := (List.getElem?_eq_some_iff.1 hu').1; simp at this; omega
    subst hj2
    rw [List.getElem?_append_right (Nat.le_refl _), Nat.sub_self, List.getElem?_cons_zero, Option.some.injEq] at hu'
    subst hu'
    exact ⟨hu, y, by rw [hlen, List.getElem?_append_right (Nat.le_refl _), Nat.sub_self]; rfl, hy.kept h4 (rows_apart hy h1 (by decide))⟩
end Go.Proofs.YtcjeclddpkinkaaDoor
