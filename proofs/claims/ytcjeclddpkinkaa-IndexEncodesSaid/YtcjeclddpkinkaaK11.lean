/- The contract of the reference's Encode. -/
import Derived.Test.YtcjeclddpkinkaaK10
set_option linter.unusedSimpArgs false
set_option linter.unusedVariables false
namespace Go.Proofs.Ytcjeclddpkinkaa
open Go.RowKit Go.ChangeMaps Ix

theorem cell_by {a b : World} {g o : Nat} {v : Value} (h : Ext a b) (c : a.cell? ⟨g, o, none⟩ = some v) : b.cell? ⟨g, o, none⟩ = some v := (cell_same (h.block g (lt_of_cell c))).trans c
theorem Own8.empty (w : World) (base : Nat) (hb : base ≤ w.heap.size) : Own8 (w.alloc (.cells #[] 5)) base (.slice (some ⟨w.heap.size, 0, none⟩) 0 0) [] :=
  ⟨rfl, .inr ⟨w.heap.size, 0, #[], rfl, hb, heap_alloc_new w _, Nat.le_refl _, Nat.zero_le _, rfl, rfl⟩⟩

set_option maxRecDepth 100000 in
set_option maxHeartbeats 2000000 in
theorem refencode_calls (base q cap : Nat) (L : List En) (hcap : cap ≤ 1000000) (hlen : L.length ≤ 1000000) (hw : Wf L) (w : World) (h : Rix w base q cap L) :
    Calls Try.prog 60 #[.pointer (some ⟨q, 0, none⟩)] w (RetB w (encIx cap L)) := by
  obtain ⟨A, c, h⟩ := h
  obtain ⟨n, hn⟩ : ∃ n, L.length = n := ⟨_, rfl⟩
  have C1 := Lib.hid fun w => refint_calls (cap : Int) w (by omega) (by omega)
  have C2 := Lib.hid fun w => refint_calls (n : Int) w (by omega) (by omega)
  have g1 := Wz.enc_length (cap : Int) (by omega) (by omega)
  have g2 := Wz.enc_length (n : Int) (by omega) (by omega)
  have hE : encIx cap L = Wz.enc cap ++ Wz.enc n ++ encEs L := by unfold encIx; rw [hn]
  have HR := Lib.hid h; have HN := Lib.hid hn; have HW := Lib.hid hw; have HE := Lib.hid hE
  rw [hn] at hlen
  obtain ⟨ea, hea⟩ : ∃ l, Wz.enc (cap : Int) = l := ⟨_, rfl⟩
  obtain ⟨eb, heb⟩ : ∃ l, Wz.enc (n : Int) = l := ⟨_, rfl⟩
  rw [hea, heb] at HE
  rw [hea] at C1 g1
  rw [heb] at C2 g2
  obtain ⟨c0, c1, _⟩ := h.cell
  rw [hn] at c1
  clear h hw hE hea heb hn
  obtain ⟨W0, hW0⟩ : ∃ W, w.alloc (.cells #[] 5) = W := ⟨_, rfl⟩
  have E0 : Ext w W0 := hW0 ▸ (Ext.refl w).alloc _
  have d0 := cell_by E0 c0
  go_enter Try.func60, Try.ntmps60
  go_wp2_with fail
  have o0 : Own8 W0 w.heap.size (.slice (some ⟨w.heap.size, 0, none⟩) 0 0) [] := hW0 ▸ Own8.empty w _ (Nat.le_refl _)
  have HO0 := Lib.hid o0
  try simp only [hW0]
  clear o0 hW0 d0
  refine (C1.out _).mono ?_
  rintro e w1 ⟨v1, rfl, ho1, hb1⟩
  have E1 : Ext w w1 := E0.trans hb1
  have O1 := Lib.hid (HO0.out.ext hb1)
  obtain ⟨A1, c1', rfl, hc1, hm1, hr1⟩ := ho1.slice
  have HR1 := Lib.hid hr1
  have d1 := (HR.out.ext E1).cell.2.1
  rw [HN.out] at d1
  have hs1 : w.heap.size ≤ w1.heap.size := E1.size
  clear ho1 hb1 hr1 c0 c1
  go_wp2_with (first
    | ((with_reducible show wpList _ _ _ (⟨some 11, _, _, _, _, _⟩ :: _) _ _); go_must (refine wpList_app8 _ rfl (.tmp 5) (.tmp 10) rfl w.heap.size _ [] rfl O1.out A1 c1' ea rfl HR1.out (by simp; omega) hs1 ?_); intro v2 w2 ho2 hg2 hbel2
       have B2 : Below w.heap.size w w2 := hbel2 _ _ (Nat.le_refl _) E1
       have E2 : Ext w w2 := B2
       rw [List.nil_append] at ho2
       have O2 := Lib.hid ho2
       have d1 := (HR.out.ext E2).cell.2.1
       rw [HN.out] at d1
       clear hg2 hbel2 ho2 B2)
    | fail)
  refine (C2.out _).mono ?_
  rintro e w3 ⟨v3, rfl, ho3, hb3⟩
  have E3 : Ext w w3 := E2.trans hb3
  have O3 := Lib.hid (O2.out.ext hb3)
  obtain ⟨A3, c3, rfl, hc3, hm3, hr3⟩ := ho3.slice
  have HR3 := Lib.hid hr3
  have hs3 : w.heap.size ≤ w3.heap.size := E3.size
  clear ho3 hb3 hr3 d1 E1 E2 O1 O2
  go_wp2_with (first
    | ((with_reducible show wpList _ _ _ (⟨some 19, _, _, _, _, _⟩ :: _) _ _); go_must (refine wpList_app8 _ rfl (.tmp 12) (.tmp 18) rfl w.heap.size _ ea rfl O3.out A3 c3 eb rfl HR3.out (by omega) hs3 ?_); intro v4 w4 ho4 hg4 hbel4
       have B4 : Below w.heap.size w w4 := hbel4 _ _ (Nat.le_refl _) E3
       have E4 : Ext w w4 := B4
       have O4 := Lib.hid ho4
       clear hg4 hbel4 ho4 B4)
    | fail)
  obtain ⟨hd, hhd⟩ : ∃ l, ea ++ eb = l := ⟨_, rfl⟩
  have hdl : hd.length ≤ 18 := by rw [← hhd, List.length_append]; omega
  rw [hhd] at O4 HE
  clear hhd
  go_loopg [3, 4] n (fun g v i wr => ∃ k : Nat, i = .int .i64 (k : Int) ∧ k ≤ n ∧ n - k ≤ g ∧ Own8 wr w.heap.size v (hd ++ encEs (L.take k)) ∧ Ext w wr)
  case atStart => exact ⟨0, rfl, by omega, by omega, by simpa [encEs] using O4.out, E4⟩
  case round =>
    obtain ⟨k, rfl, hk, hg, ho, hE⟩ := hrel
    have hr := HR.out.ext hE
    obtain ⟨c0, c1, _⟩ := hr.cell
    rw [HN.out] at c1
    by_cases hkN : k < n
    · have hkl : k < L.length := by rw [HN.out]; exact hkN
      obtain ⟨b, o, rfl, hc⟩ := HR.out.2.2.2.1 (by rw [enCells_length]; omega)
      have e0 : wr.cell? ⟨b, o + k * 2, none⟩ = some (.int .u32 L[k].1) := cell_by hE (en_cell hkl hc 0 _ rfl)
      have ht := en_take hkl
      have hel := encEs_len (L := L.take k) fun x hx => HW.out.ok x (List.mem_of_mem_take hx)
      rw [List.length_take] at hel
      have hok := HW.out.ok L[k] (List.getElem_mem _)
      have H1 := Lib.hid (en_cell hkl hc 1 _ rfl)
      obtain ⟨y, hy⟩ : ∃ y, L[k] = y := ⟨_, rfl⟩
      rw [hy] at e0 ht hok
      simp only [hy] at H1
      obtain ⟨y0, y1⟩ := y
      simp only at e0 hok H1
      have C3 := Lib.hid fun w => refint_calls y0 w (by have := hok.1; simp only at this; omega) (by have := hok.2.1; simp only at this; omega)
      have C4 := Lib.hid fun w => refint_calls y1 w (by have := hok.2.2.1; simp only at this; omega) (by have := hok.2.2.2; simp only at this; omega)
      have g3 := Wz.enc_length y0 (by have := hok.1; simp only at this; omega) (by have := hok.2.1; simp only at this; omega)
      have g4 := Wz.enc_length y1 (by have := hok.2.2.1; simp only at this; omega) (by have := hok.2.2.2; simp only at this; omega)
      have q1 : 0 ≤ y0 := hok.1
      have q2 : y0 ≤ 4294967295 := hok.2.1
      obtain ⟨ec, hec⟩ : ∃ l, Wz.enc y0 = l := ⟨_, rfl⟩
      obtain ⟨ed, hed⟩ : ∃ l, Wz.enc y1 = l := ⟨_, rfl⟩
      rw [hec] at C3 g3
      rw [hed] at C4 g4
      have HES : Hid (encEs (L.take (k + 1)) = encEs (L.take k) ++ (ec ++ ed)) := Lib.hid (by rw [ht, encEs_append, ← hec, ← hed]; simp [encEs])
      have HO := Lib.hid ho; have HEL := Lib.hid hel
      clear ht hc hy ho hr hel hok hec hed
      go_wp2_with fail
      refine (C3.out _).mono ?_
      rintro e w5 ⟨v5, rfl, ho5, hb5⟩
      have F5 : Ext wr w5 := hb5
      have E5 := hE.trans F5
      have O5 := Lib.hid (HO.out.ext F5)
      obtain ⟨A5, c5, rfl, hc5, hm5, hr5⟩ := ho5.slice
      have HR5 := Lib.hid hr5
      have hs5 : w.heap.size ≤ w5.heap.size := E5.size
      clear ho5 hb5 hr5 c0 c1 e0
      go_wp2_with (first
        | ((with_reducible show wpList _ _ _ (⟨some 40, _, _, _, _, _⟩ :: _) _ _); go_must (refine wpList_app8 _ rfl (.tmp 29) (.tmp 39) rfl w.heap.size _ (hd ++ encEs (L.take k)) rfl O5.out A5 c5 ec rfl HR5.out (by have := HEL.out; rw [List.length_append]; omega) hs5 ?_); intro v6 w6 ho6 hg6 hbel6
           have B6 : Below w.heap.size w w6 := hbel6 _ _ (Nat.le_refl _) E5
           have E6 : Ext w w6 := B6
           have O6 := Lib.hid ho6
           have rr := HR.out.ext E6
           have c1 : w6.cell? ⟨q, 1, none⟩ = some (.slice (some ⟨b, o, none⟩) n c) := by have := rr.cell.2.1; rw [HN.out] at this; exact this
           have e1 : w6.cell? ⟨b, o + k * 2 + 1, none⟩ = some (.int .i64 y1) := cell_by E6 H1.out
           clear hg6 hbel6 ho6 B6 rr)
        | fail)
      refine (C4.out _).mono ?_
      rintro e w7 ⟨v7, rfl, ho7, hb7⟩
      have E7 : Ext w w7 := E6.trans hb7
      have O7 := Lib.hid (O6.out.ext hb7)
      obtain ⟨A7, c7, rfl, hc7, hm7, hr7⟩ := ho7.slice
      have HR7 := Lib.hid hr7
      have hs7 : w.heap.size ≤ w7.heap.size := E7.size
      clear ho7 hb7 hr7 c1 e1 F5 E5 E6 O5 O6
      go_wp2_with (first
        | ((with_reducible show wpList _ _ _ (⟨some 51, _, _, _, _, _⟩ :: _) _ _); go_must (refine wpList_app8 _ rfl (.tmp 41) (.tmp 50) rfl w.heap.size _ (hd ++ encEs (L.take k) ++ ec) rfl O7.out A7 c7 ed rfl HR7.out (by have := HEL.out; rw [List.length_append, List.length_append]; omega) hs7 ?_); intro v8 w8 ho8 hg8 hbel8
           have B8 : Below w.heap.size w w8 := hbel8 _ _ (Nat.le_refl _) E7
           have E8 : Ext w w8 := B8
           have O8 := Lib.hid ho8
           clear hg8 hbel8 ho8 B8)
        | fail)
      go_roundg (n - (k + 1))
      case measure => omega
      case rel => exact ⟨k + 1, by go_num, by omega, by omega, by rw [HES.out]; have := O8.out; simp only [List.append_assoc] at this ⊢; exact this, E8⟩
    · rw [List.take_of_length_le (by rw [HN.out]; omega)] at ho
      rw [← HE.out] at ho
      go_wp2
      go_ret
      exact ⟨_, rfl, ho, hE⟩

end Go.Proofs.Ytcjeclddpkinkaa
