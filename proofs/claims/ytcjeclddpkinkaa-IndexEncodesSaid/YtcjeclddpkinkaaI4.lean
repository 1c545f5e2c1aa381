/- The contracts of Drop, Len, Cap, New. -/
import Derived.Test.YtcjeclddpkinkaaIp
set_option linter.unusedSimpArgs false
set_option linter.unusedVariables false
namespace Go.Proofs.Ytcjeclddpkinkaa
open Go.RowKit Go.ChangeMaps Ix

/-- an Index that holds the list L -/
def Ixd (w : World) (p r cap : Nat) (L : List En) : Prop := IxR w p r cap (fstOf L) (lstOf 0 L) (lk 0 L) L.length ∧ Wf L
theorem Ixd.ext {w w' : World} {p r cap : Nat} {L : List En} (h : Ixd w p r cap L) (k : Ext w w') : Ixd w' p r cap L := ⟨h.1.ext k, h.2⟩
theorem in_lst {A : List En} (h : ∀ x ∈ A, OkE x) : In (lstOf 0 A) := by
  rcases lstOf_mem 0 A with e | ⟨y, hy, e⟩
  · rw [e]; exact ⟨by omega, by omega⟩
  · rw [← e]; have := h y hy; exact ⟨by have := this.2.2.1; omega, this.2.2.2⟩
theorem in_fst {A : List En} (h : ∀ x ∈ A, OkE x) : In (fstOf A) := by
  rcases fstOf_mem A with e | ⟨y, hy, e⟩
  · rw [e]; exact ⟨by omega, by omega⟩
  · rw [← e]; have := h y hy; exact ⟨by have := this.2.2.1; omega, this.2.2.2⟩

/-- join and delete, at the place of an entry -/
theorem drop_made {w' : World} {p r cap n' : Nat} {A B : List En} {x : En} (hw : Wf (A ++ x :: B)) {f' : Int → Option Lk}
    (h : IxR w' p r cap (if (lk 0 (A ++ x :: B) (lstOf 0 A)).isSome then fstOf (A ++ x :: B) else fstOf B) (if (joinA (lk 0 (A ++ x :: B)) (lstOf 0 A) (fstOf B) (fstOf B)).isSome then lstOf 0 (A ++ x :: B) else lstOf 0 A) f' n')
    (hf : f' = updF (joinF (lk 0 (A ++ x :: B)) (lstOf 0 A) (fstOf B)) x.2 none) (hn : n' = (A ++ x :: B).length - 1) : Ixd w' p r cap (dropL x.2 (A ++ x :: B)) := by
  have h0 : ∀ y ∈ A ++ x :: B, y.2 ≠ 0 := fun y hy => by have := (hw.ok y hy).2.2.1; omega
  rw [dropL_at A x B hw]
  refine ⟨?_, hw.sub (List.Sublist.append_left (List.sublist_cons_self _ _) _)⟩
  have e1 : (if (lk 0 (A ++ x :: B) (lstOf 0 A)).isSome then fstOf (A ++ x :: B) else fstOf B) = fstOf (A ++ B) := by
    cases A with
    | nil =>
      have : ¬ (lk 0 ([] ++ x :: B) (lstOf 0 [])).isSome = true := by
        rw [lk_isSome]
        rintro ⟨y, hy, e⟩
        exact h0 y hy e
      rw [if_neg this]; rfl
    | cons z A =>
      have : (lk 0 (z :: A ++ x :: B) (lstOf 0 (z :: A))).isSome = true := by
        rw [lk_isSome]
        rcases lstOf_mem z.2 A with e | ⟨y, hy, e⟩
        · exact ⟨z, by simp, by rw [lstOf_cons, e]⟩
        · exact ⟨y, by simp [hy], by rw [lstOf_cons, e]⟩
      rw [if_pos this]; rfl
  have e2 : (if (joinA (lk 0 (A ++ x :: B)) (lstOf 0 A) (fstOf B) (fstOf B)).isSome then lstOf 0 (A ++ x :: B) else lstOf 0 A) = lstOf 0 (A ++ B) := by
    rw [joinA_some, lstOf_append, lstOf_append]
    cases B with
    | nil =>
      have : ¬ (lk 0 (A ++ [x]) (fstOf [])).isSome = true := by
        rw [lk_isSome]
        rintro ⟨y, hy, e⟩
        exact h0 y hy e
      rw [if_neg this]; rfl
    | cons z B =>
      have : (lk 0 (A ++ x :: z :: B) (fstOf (z :: B))).isSome = true := by
        rw [lk_isSome]
        exact ⟨z, by simp, rfl⟩
      rw [if_pos this]; rfl
  rw [e1, e2] at h
  have e3 : f' = lk 0 (A ++ B) := by rw [hf]; exact lk_drop A x B 0 hw h0
  have e4 : n' = (A ++ B).length := by rw [hn]; simp only [List.length_append, List.length_cons]; omega
  rw [e3, e4] at h
  exact h

set_option maxRecDepth 100000 in
set_option maxHeartbeats 1000000 in
theorem drop_calls (p r cap : Nat) (L : List En) (c : Int) (w : World) (h : Ixd w p r cap L) (hc : (Lit.int .i64 c).wf = true) :
    Calls Try.prog 24 #[.pointer (some ⟨p, 0, none⟩), .int .i64 c] w fun e w' => e = .returned (.bool (lk 0 L c).isSome) ∧ Ixd w' p r cap (dropL c L) ∧ Keep2 p r w w' := by
  obtain ⟨c0, c1, c2, c3⟩ := h.1.cell
  have hM := h.1.2
  have HX := Lib.hid h
  clear h
  cases hf : lk 0 L c with
  | none =>
    go_enter Try.func24, Try.ntmps24
    go_wp2_with (first
      | ((with_reducible show wpList _ _ _ (⟨some 13, _, _, _, _, _⟩ :: _) _ _); go_must (refine wpList_lookNone rfl (.tmp 11) (.tmp 12) rfl hM hc rfl rfl hf ?_))
      | fail)
    go_ret
    have hn : ∀ x ∈ L, x.2 ≠ c := fun x hx e => by
      have := (lk_isSome (L := L) (c := c) 0).2 ⟨x, hx, e⟩
      rw [hf] at this
      cases this
    refine ⟨rfl, ?_, (Keep2.refl p r w).alloc _⟩
    rw [dropL_none hn]
    exact HX.out.ext ((Ext.refl w).alloc _)
  | some l =>
    obtain ⟨A, x, B, rfl, rfl⟩ := mem_split (lk_some hf)
    have hw := HX.out.2
    have hxA : ∀ y ∈ A, y.2 ≠ x.2 := fun y hy => (List.pairwise_append.1 hw.apart).2.2 y hy x (by simp)
    rw [lk_at A x B hxA] at hf
    cases hf
    have hb := in_lst (A := A) fun y hy => hw.ok y (by simp [hy])
    have ha := in_fst (A := B) fun y hy => hw.ok y (by simp [hy])
    have hf := lk_at A x B hxA 0
    obtain ⟨x0, cc⟩ := x
    simp only at hf hc ⊢
    obtain ⟨b, hbe⟩ : ∃ b, lstOf 0 A = b := ⟨_, rfl⟩
    obtain ⟨a, hae⟩ : ∃ a, fstOf B = a := ⟨_, rfl⟩
    rw [hbe] at hb hf
    rw [hae] at ha hf
    simp only [hbe, hae]
    have HBE := Lib.hid hbe; have HAE := Lib.hid hae
    have hx := HX.out.1
    obtain ⟨L, hL⟩ : ∃ L, A ++ (x0, cc) :: B = L := ⟨_, rfl⟩
    rw [hL] at hx hf hM HX c2 c3 hw
    have HL := Lib.hid hL
    simp only [hL]
    clear hbe hae hxA hL
    go_enter Try.func24, Try.ntmps24
    go_wp2_with (first
      | ((with_reducible show wpList _ _ _ (⟨some 13, _, _, _, _, _⟩ :: _) _ _); go_must (refine wpList_lookSome rfl (.tmp 11) (.tmp 12) rfl hM hc rfl rfl hf ?_))
      | fail)
    refine (join_calls p r L.length cap (fstOf L) (lstOf 0 L) b a (lk 0 L) _ (hx.ext ((Ext.refl w).alloc _)) hb ha).mono ?_
    rintro e w2 ⟨⟨v, rfl⟩, hx2, hk2⟩
    have hkk := ((Keep2.refl p r w).alloc (.cells #[.int .u32 x0, .int .i64 b, .int .i64 a] 88)).trans hk2
    obtain ⟨F, hF⟩ : ∃ F, joinF (lk 0 L) b a = F := ⟨_, rfl⟩
    obtain ⟨F1, hF1⟩ : ∃ F, (if (lk 0 L b).isSome then fstOf L else a) = F := ⟨_, rfl⟩
    obtain ⟨F2, hF2⟩ : ∃ F, (if (joinA (lk 0 L) b a a).isSome then lstOf 0 L else b) = F := ⟨_, rfl⟩
    rw [hF, hF1, hF2] at hx2
    obtain ⟨s0, s1, s2, s3⟩ := hx2.cell
    have hM2 := hx2.2
    have HF := Lib.hid hF; have HF1 := Lib.hid hF1; have HF2 := Lib.hid hF2
    clear hF hF1 hF2 hM c0 c1 c2 c3 hk2 hx
    go_wp2_with (first
      | ((with_reducible show wpList _ _ _ (⟨Option.none, _, _, _, _, _⟩ :: _) _ _); go_must (refine wpList_del rfl (.tmp 26) (.tmp 27) rfl hM2 hc rfl rfl ?_); intro w3 v3 hM3 hg3 hs3)
      | fail)
    have hx3 := hx2.turned hg3 hM3
    have hk3 := hkk.grown hg3
    have hfin : Ixd w3 p r cap (dropL cc L) := by
      rw [← HF1.out, ← HF2.out, ← HL.out, ← HBE.out, ← HAE.out] at hx3
      have := drop_made (A := A) (B := B) (x := (x0, cc)) (by rw [HL.out]; exact hw) hx3 (by rw [← HF.out, ← HL.out, ← HBE.out, ← HAE.out]) (by
        have e : (F cc).isSome = true := by
          rw [← HF.out, joinF_eq]
          simp only [hf, Option.map_some, Option.isSome_some]
        rw [if_pos e])
      rw [HL.out] at this
      exact this
    go_ret
    exact ⟨rfl, hfin, hk3⟩

set_option maxRecDepth 100000 in
set_option maxHeartbeats 400000 in
theorem len_calls (p r cap : Nat) (L : List En) (w : World) (h : Ixd w p r cap L) :
    Calls Try.prog 34 #[.pointer (some ⟨p, 0, none⟩)] w fun e w' => e = .returned (.int .i64 (L.length : Int)) ∧ w = w' := by
  obtain ⟨c0, c1, c2, c3⟩ := h.1.cell
  have hlen := fun ty => run_maplen (t := 90) (k := 3) (e := 88) Try.und_map h.1.2 ty
  go_enter Try.func34, Try.ntmps34
  go_wp2
  go_ret
  exact ⟨rfl, rfl⟩

set_option maxRecDepth 100000 in
set_option maxHeartbeats 400000 in
theorem cap_calls (p r cap : Nat) (L : List En) (w : World) (h : Ixd w p r cap L) :
    Calls Try.prog 36 #[.pointer (some ⟨p, 0, none⟩)] w fun e w' => e = .returned (.int .i64 (cap : Int)) ∧ w = w' := by
  obtain ⟨c0, c1, c2, c3⟩ := h.1.cell
  go_enter Try.func36, Try.ntmps36
  go_wp2
  go_ret
  exact ⟨rfl, rfl⟩

theorem run_newmap (w : World) : (Instr.makeMap 90 none).run Try.prog w = .ok (.map (some w.heap.size)) (w.alloc (.map #[] 0)) := @run_makeMap Try.prog 90 w

set_option maxRecDepth 100000 in
set_option maxHeartbeats 400000 in
theorem new_bad (n : Int) (w : World) (h : n < 1 ∨ n > 4096) :
    Calls Try.prog 26 #[.int .i64 n] w fun e w' => e = .returned (.tuple #[.pointer none, .int .i64 1]) ∧ w = w' := by
  by_cases h1 : n < 1
  · have g1 : decide (n < 1) = true := decide_eq_true h1
    clear h
    go_enter Try.func26, Try.ntmps26
    go_wp2
    go_ret2
    exact ⟨rfl, rfl⟩
  · have g1 : decide (n < 1) = false := decide_eq_false h1
    have g2 : decide (n > 4096) = true := decide_eq_true (h.resolve_left h1)
    clear h
    go_enter Try.func26, Try.ntmps26
    go_wp2
    go_ret2
    exact ⟨rfl, rfl⟩

set_option maxRecDepth 100000 in
set_option maxHeartbeats 400000 in
theorem new_calls (n : Nat) (w : World) (h1 : 1 ≤ n) (h2 : n ≤ 4096) :
    Calls Try.prog 26 #[.int .i64 (n : Int)] w fun e w' => ∃ p r, e = .returned (.tuple #[.pointer (some ⟨p, 0, none⟩), .int .i64 0]) ∧ w.heap.size ≤ p ∧ w.heap.size ≤ r ∧ Ixd w' p r n [] ∧ Ext w w' := by
  have g1 : decide ((n : Int) < 1) = false := by rw [decide_eq_false_iff_not]; omega
  have g2 : decide ((n : Int) > 4096) = false := by rw [decide_eq_false_iff_not]; omega
  have hmm := run_newmap
  go_enter Try.func26, Try.ntmps26
  go_wp2
  go_ret2
  have e1 : (w.alloc (.map #[] 0)).heap.size = w.heap.size + 1 := Array.size_push _
  refine ⟨w.heap.size + 1, w.heap.size, rfl, by omega, by omega, ⟨⟨?_, ?_⟩, Wf.nil⟩, ((Ext.refl w).alloc _).alloc _⟩
  · rw [← e1]; exact heap_alloc_new _ _
  · have h := MapAt.new w
    refine MapAt.kept (w := w.alloc (.map #[] 0)) h (Below.heap_alloc _ _ _ (by rw [e1]; omega))

end Go.Proofs.Ytcjeclddpkinkaa
