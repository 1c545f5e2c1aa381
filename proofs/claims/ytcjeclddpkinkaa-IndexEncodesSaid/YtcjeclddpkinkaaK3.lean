/- The reference's index: the contracts of Find, Drop, Put, Clone. -/
import Derived.Test.YtcjeclddpkinkaaK1
set_option linter.unusedSimpArgs false
set_option linter.unusedVariables false
namespace Go.Proofs.Ytcjeclddpkinkaa
open Go.RowKit Go.ChangeMaps Ix

theorem en_take {L : List En} {k : Nat} (h : k < L.length) : L.take (k + 1) = L.take k ++ [L[k]] := by rw [List.take_add_one, List.getElem?_eq_getElem h]; rfl
theorem dropL_snoc (c : Int) (L : List En) (x : En) : dropL c (L ++ [x]) = if x.2 = c then dropL c L else dropL c L ++ [x] := by
  unfold dropL
  rw [List.filter_append]
  by_cases h : x.2 = c
  · rw [if_pos h]; simp [h]
  · rw [if_neg h]; simp [h]
theorem lk_drop_len {L : List En} (hw : Wf L) (c : Int) : (lk 0 L c).isSome = decide ((dropL c L).length < L.length) := by
  rw [Bool.eq_iff_iff, lk_isSome, decide_eq_true_iff]
  constructor
  · rintro ⟨x, hx, rfl⟩
    obtain ⟨A, y, B, rfl, e⟩ := mem_split ⟨x, hx, rfl⟩
    rw [← e, dropL_at A y B hw]
    simp only [List.length_append, List.length_cons]; omega
  · intro h
    by_cases hm : ∃ x ∈ L, x.2 = c
    · exact hm
    · rw [dropL_none fun x hx e => hm ⟨x, hx, e⟩] at h
      exact absurd h (Nat.lt_irrefl _)

set_option maxRecDepth 100000 in
set_option maxHeartbeats 1000000 in
theorem reffind_calls (base q cap : Nat) (x : Int) (L : List En) (hlen : L.length ≤ 1000000) (w : World) (h : Rix w base q cap L) :
    Calls Try.prog 32 #[.pointer (some ⟨q, 0, none⟩), .int .u32 x] w fun e w' => ∃ v, e = .returned v ∧ Own64 w' w.heap.size v (findL x L) ∧ Ext w w' := by
  obtain ⟨A, c, h⟩ := h
  have HR := Lib.hid h
  obtain ⟨n, hn⟩ : ∃ n, L.length = n := ⟨_, rfl⟩
  rw [hn] at hlen
  have HN := Lib.hid hn
  have h0 : Own64 w w.heap.size (.slice none 0 0) [] := World.ownsRow_nil _ _ _ _
  have H0 := Lib.hid h0
  clear h h0 hn
  go_enter Try.func32, Try.ntmps32
  go_wp2
  go_loopg [5, 6] n (fun g v i wr => ∃ k : Nat, i = .int .i64 (k : Int) ∧ k ≤ n ∧ n - k ≤ g ∧ Own64 wr w.heap.size v (findL x (L.take k)) ∧ Ext w wr)
  case atStart => exact ⟨0, rfl, by omega, by omega, H0.out, Ext.refl _⟩
  case round =>
    obtain ⟨k, rfl, hk, hg, ho, hE⟩ := hrel
    have hr := HR.out.ext hE
    obtain ⟨c0, c1, _⟩ := hr.cell
    rw [HN.out] at c1
    by_cases hkN : k < n
    · have hkl : k < L.length := by rw [HN.out]; exact hkN
      obtain ⟨b, o, rfl, hc⟩ := hr.2.2.2.1 (by rw [enCells_length]; omega)
      have e0 : wr.cell? ⟨b, o + k * 2, none⟩ = some (.int .u32 L[k].1) := en_cell hkl hc 0 _ rfl
      have e1 := en_cell hkl hc 1 _ rfl
      have ht := en_take hkl
      have hfl := findL_len x (L.take k)
      rw [List.length_take] at hfl
      obtain ⟨y, hy⟩ : ∃ y, L[k] = y := ⟨_, rfl⟩
      rw [hy] at e0 e1 ht
      obtain ⟨y0, y1⟩ := y
      simp only at e0 e1
      have HT := Lib.hid ht; have HO := Lib.hid ho; have HFL := Lib.hid hfl
      clear ht hc hy ho hr hfl
      have hsz : w.heap.size ≤ wr.heap.size := hE.size
      by_cases hyx : y0 = x
      · subst hyx
        have hz : (y0 == y0) = true := by simp
        go_wp2_with (first
          | ((with_reducible show wpList _ _ _ (⟨some 36, _, _, _, _, _⟩ :: _) _ _); go_must (refine wpList_app64one wr rfl (.tmp 26) (.tmp 35) rfl w.heap.size _ (findL y0 (L.take k)) y1 rfl HO.out rfl (by have := HFL.out; omega) hsz ?_); intro v' w1 hown' hgrow hbel; clear hgrow)
          | fail)
        go_roundg (n - (k + 1))
        case measure => omega
        case rel => exact ⟨k + 1, by go_num, by omega, by omega, by rw [HT.out, findL_hit _ (by simp)]; exact hown', hbel _ _ (Nat.le_refl _) hE⟩
      · have hz : (y0 == x) = false := by rw [beq_eq_false_iff_ne]; exact hyx
        have HZ := Lib.hid hz
        clear hyx
        go_wp2
        go_roundg (n - (k + 1))
        case measure => omega
        case rel => exact ⟨k + 1, by go_num, by omega, by omega, by rw [HT.out, findL_miss _ HZ.out]; exact HO.out, hE⟩
    · go_wp2
      go_ret
      refine ⟨_, rfl, ?_, hE⟩
      rw [List.take_of_length_le (by rw [HN.out]; omega)] at ho
      exact ho

set_option maxRecDepth 100000 in
set_option maxHeartbeats 1000000 in
theorem refdrop_calls (base q cap : Nat) (L : List En) (c : Int) (hlen : L.length ≤ 1000000) (w : World) (hw : Wf L) (hb : base ≤ w.heap.size) (h : Rix w base q cap L) :
    Calls Try.prog 30 #[.pointer (some ⟨q, 0, none⟩), .int .i64 c] w fun e w' => e = .returned (.bool (lk 0 L c).isSome) ∧ Rix w' base q cap (dropL c L) ∧ Keep2 q q w w' := by
  rw [lk_drop_len hw]
  have hql := h.lt
  obtain ⟨A, cA, h⟩ := h
  have HR := Lib.hid h
  obtain ⟨n, hn⟩ : ∃ n, L.length = n := ⟨_, rfl⟩
  rw [hn] at hlen ⊢
  have HN := Lib.hid hn
  have h0 : OwnE w w.heap.size (.slice none 0 0) [] := World.ownsRow_nil _ _ _ _
  have H0 := Lib.hid h0
  clear h h0 hn hw
  go_enter Try.func30, Try.ntmps30
  go_wp2
  go_loopg [5, 6] n (fun g v i wr => ∃ k : Nat, i = .int .i64 (k : Int) ∧ k ≤ n ∧ n - k ≤ g ∧ OwnE wr w.heap.size v (dropL c (L.take k)) ∧ Ext w wr)
  case atStart => exact ⟨0, rfl, by omega, by omega, H0.out, Ext.refl _⟩
  case round =>
    obtain ⟨k, rfl, hk, hg, ho, hE⟩ := hrel
    have hr := HR.out.ext hE
    obtain ⟨c0, c1, cf⟩ := hr.cell
    rw [HN.out] at c1
    by_cases hkN : k < n
    · have hkl : k < L.length := by rw [HN.out]; exact hkN
      obtain ⟨b, o, rfl, hc⟩ := hr.2.2.2.1 (by rw [enCells_length]; omega)
      have hx := en_cell hkl hc
      have e0 : wr.cell? ⟨b, o + k * 2, none⟩ = some (.int .u32 L[k].1) := en_cell hkl hc 0 _ rfl
      have e1 := en_cell hkl hc 1 _ rfl
      have ht := en_take hkl
      have hfl := dropL_len c (L.take k)
      rw [List.length_take] at hfl
      obtain ⟨y, hy⟩ : ∃ y, L[k] = y := ⟨_, rfl⟩
      rw [hy] at e0 e1 ht hx
      obtain ⟨y0, y1⟩ := y
      simp only at e0 e1 hx
      have HT := Lib.hid ht; have HO := Lib.hid ho; have HFL := Lib.hid hfl; have HX := Lib.hid hx
      clear ht hc hy ho hr hfl hx
      have hsz : w.heap.size ≤ wr.heap.size := hE.size
      by_cases hyx : y1 = c
      · subst hyx
        have hz : (y1 != y1) = false := by simp
        go_wp2
        go_roundg (n - (k + 1))
        case measure => omega
        case rel => exact ⟨k + 1, by go_num, by omega, by omega, by rw [HT.out, dropL_snoc, if_pos rfl]; exact HO.out, hE⟩
      · have hz : (y1 != c) = true := by rw [bne_iff_ne]; exact hyx
        have HZ := Lib.hid hyx
        clear hyx
        go_wp2_with (first
          | ((with_reducible show wpList _ _ _ (⟨some 34, _, _, _, _, _⟩ :: _) _ _); go_must (refine wpList_loadAgg agg_en _ rfl (.tmp 33) rfl b (o + k * 2) rfl [.int .u32 y0, .int .i64 y1] rfl HX.out ?_))
          | ((with_reducible show wpList _ _ _ (⟨some 36, _, _, _, _, _⟩ :: _) _ _); go_must (refine wpList_appEone wr rfl (.tmp 27) (.tmp 35) rfl w.heap.size _ (dropL c (L.take k)) y0 y1 rfl HO.out rfl (by have := HFL.out; omega) hsz ?_); intro v' w1 hown' hgrow hbel; clear hgrow)
          | fail)
        go_roundg (n - (k + 1))
        case measure => omega
        case rel => exact ⟨k + 1, by go_num, by omega, by omega, by rw [HT.out, dropL_snoc, if_neg HZ.out]; exact hown', hbel _ _ (Nat.le_refl _) hE⟩
    · rw [List.take_of_length_le (by rw [HN.out]; omega)] at ho
      obtain ⟨A5, c5, rfl, hc5, hm5, hr5⟩ := OwnE.slice ho
      have hbl := ho.base_le
      have hdl := dropL_len c L
      rw [HN.out] at hdl
      obtain ⟨m, hm⟩ : ∃ m, (dropL c L).length = m := ⟨_, rfl⟩
      have HBL := Lib.hid hbl; have HM := Lib.hid hm; have HR5 := Lib.hid hr5; have HO := Lib.hid ho
      rw [hm] at hc5 hdl
      simp only [hm]
      have hblk : Blk wr q 80 [.int .i64 cap, .slice A n cA] := by have := hr.1; rw [HN.out] at this; exact this
      have HB := Lib.hid hblk
      clear hm hbl hr5 ho hr hblk
      go_wp2
      go_ret
      refine ⟨by rw [HM.out]; rfl, ⟨A5, c5, ?_, by rw [HM.out]; exact hc5, hm5, ?_, ?_⟩, ?_⟩
      · have := HB.out.set 1 (.slice A5 m c5)
        rw [HM.out]
        exact this
      · refine HR5.out.of_block fun b o e hlt => ?_
        subst e
        have hbb : b ≠ q := by
          rcases HO.out.2 with ⟨h1, _⟩ | ⟨g, cap', cur, h1, h2, _⟩
          · simp at h1
          · simp only [Value.slice.injEq, Option.some.injEq, Addr.mk.injEq] at h1
            omega
        exact Below.heap_setCell _ _ _ _ (by exact hbb)
      · intro b o e
        subst e
        rcases HO.out.2 with ⟨h1, _⟩ | ⟨g, cap', cur, h1, h2, _⟩
        · simp at h1
        · simp only [Value.slice.injEq, Option.some.injEq, Addr.mk.injEq] at h1
          omega
      · exact ((Keep2.refl q q w).ext hE).grown (grownBy_setCell _ _ _ _)

end Go.Proofs.Ytcjeclddpkinkaa
