/- The contracts of the two Clones. -/
import Derived.Test.YtcjeclddpkinkaaK4
import Derived.Deep.RegionHeld3
import Derived.Deep.DrawnRows
set_option linter.unusedSimpArgs false
set_option linter.unusedVariables false
namespace Go.Proofs.Ytcjeclddpkinkaa
open Go.RowKit Go.ChangeMaps Ix
attribute [local go_sem ↓] Go.wp_at_zero Go.wp_at_succ

set_option maxRecDepth 100000 in
set_option maxHeartbeats 1000000 in
theorem refclone_calls (base q cap : Nat) (L : List En) (hlen : L.length ≤ 1000000) (w : World) (h : Rix w base q cap L) :
    Calls Try.prog 29 #[.pointer (some ⟨q, 0, none⟩)] w fun e w' => ∃ q', e = .returned (.pointer (some ⟨q', 0, none⟩)) ∧ w.heap.size ≤ q' ∧ Rix w' w.heap.size q' cap L ∧ Ext w w' := by
  have hql := h.lt
  obtain ⟨c0, _, _⟩ : w.cell? ⟨q, 0, none⟩ = some (.int .i64 cap) ∧ True ∧ True := by
    obtain ⟨A, c, h⟩ := h
    exact ⟨h.cell.1, trivial, trivial⟩
  have HALL : Hid (∀ w', Ext w w' → Calls Try.prog 33 #[.pointer (some ⟨q, 0, none⟩)] w' fun e w'' => ∃ v, e = .returned v ∧ OwnE w'' w'.heap.size v L ∧ Ext w' w'') := Lib.hid fun w' hE => refall_calls base q cap L hlen w' (h.ext hE)
  clear h
  go_enter Try.func29, Try.ntmps29
  go_wp2_with fail
  go_region_held3 (fun w' => w'.cell? ⟨q, 0, none⟩ = some (.int .i64 (cap : Int))) (first | go_keep | (refine (cell_same (Below.block (by assumption) q ?_)).trans ?_ <;> simp [*]))
    ((go_at_call 33; refine (HALL.out _ ?_).mono ?_; (exact (Ext.refl w).drew); rintro e w1 ⟨v1, rfl, hown1, hE1⟩; obtain ⟨A1, cc1, rfl, hc1, hm1, hr1⟩ := OwnE.slice hown1))
  have E1 : Ext w w1 := (Ext.refl w).drew.trans hE1
  have hr2 := hr1
  go_wp2
  go_ret
  refine ⟨w1.heap.size, rfl, E1.size, ⟨A1, cc1, heap_alloc_new _ _, hc1, hm1, hr2.alloc _, ?_⟩, E1.alloc _⟩
  intro b o e
  subst e
  rcases hown1.2 with ⟨h1, _⟩ | ⟨g, cap', cur, h1, h2, h3, _⟩
  · simp at h1
  · have := (Array.getElem?_eq_some_iff.1 h3).1
    simp only [Value.slice.injEq, Option.some.injEq, Addr.mk.injEq] at h1
    have h2' : w.heap.size ≤ g := h2
    omega

theorem put_front {cap : Nat} {L : List En} (hw : Wf L) (hl : L.length ≤ cap) {k : Nat} (hk : k < L.length) : (putL cap L[k].1 L[k].2 (L.drop (k + 1))).1 = L.drop k := by
  have hd : L.drop k = L[k] :: L.drop (k + 1) := List.drop_eq_getElem_cons hk
  have hw' : Wf (L[k] :: L.drop (k + 1)) := hd ▸ hw.sub (List.drop_sublist _ _)
  have hn : ∀ y ∈ L.drop (k + 1), y.2 ≠ L[k].2 := fun y hy e => (List.pairwise_cons.1 hw'.apart).1 y hy e.symm
  unfold putL
  rw [dropL_none hn, if_neg (by rw [List.length_drop]; omega), hd]
theorem OwnE.keep {w w' : World} {p r base : Nat} {v : Value} {L : List En} (h : OwnE w base v L) (k : Keep2 p r w w') (hp : p < base) (hr : r < base) : OwnE w' base v L := ownsRow_keep h k hp hr

set_option maxRecDepth 100000 in
set_option maxHeartbeats 1000000 in
theorem clone_calls (p r cap : Nat) (L : List En) (h1 : 1 ≤ cap) (h2 : cap ≤ 4096) (hlen : L.length ≤ cap) (w : World) (h : Ixd w p r cap L) :
    Calls Try.prog 28 #[.pointer (some ⟨p, 0, none⟩)] w fun e w' => ∃ p' r', e = .returned (.pointer (some ⟨p', 0, none⟩)) ∧ w.heap.size ≤ p' ∧ w.heap.size ≤ r' ∧ Ixd w' p' r' cap L ∧ Ext w w' := by
  obtain ⟨c0, _, _, _⟩ := h.1.cell
  have HX := Lib.hid h
  have HW := Lib.hid h.2
  clear h
  go_enter Try.func28, Try.ntmps28
  go_wp2_with fail
  refine (new_calls cap _ h1 h2).mono ?_
  rintro e w1 ⟨p', r', rfl, hp', hr', hx1, E1⟩
  have hp1 := hx1.1.lt
  have hr1 := hx1.1.2.lt
  go_wp2_with fail
  refine (all_calls p r cap L (by omega) _ (HX.out.ext E1)).mono ?_
  rintro e w2 ⟨v2, rfl, hown2, F2⟩
  have hx2 := hx1.ext F2
  have E2 := E1.trans F2
  obtain ⟨A2, c2, rfl, hc2, hm2, _⟩ := OwnE.slice hown2
  obtain ⟨n, hn⟩ : ∃ n, L.length = n := ⟨_, rfl⟩
  rw [hn] at hown2 hlen hc2
  simp only [hn]
  have HN := Lib.hid hn
  have HOWN := Lib.hid hown2
  clear hn hown2 hx1 E1 F2
  go_wp2_with fail
  go_loopg [6] n (fun g i wr => ∃ k : Nat, i = .int .i64 ((k : Int) - 1) ∧ k ≤ n ∧ k ≤ g ∧ Ixd wr p' r' cap (L.drop k) ∧ Ext w wr ∧ OwnE wr w1.heap.size (.slice A2 n c2) L)
  case atStart => exact ⟨n, by go_num, by omega, by omega, by rw [List.drop_of_length_le (by rw [HN.out]; omega)]; exact hx2, E2, HOWN.out⟩
  case round =>
    obtain ⟨k, rfl, hk, hg, hx, hE, ho⟩ := hrel
    by_cases hk0 : k = 0
    · subst hk0
      have hz : ((((0 : Nat) : Int) - 1)) = -1 := by omega
      rw [List.drop_zero] at hx
      simp only [hz]
      go_wp2
      go_ret
      exact ⟨p', r', rfl, hp', hr', hx, hE⟩
    · obtain ⟨j, rfl⟩ : ∃ j, k = j + 1 := ⟨k - 1, by omega⟩
      have hz : (((j + 1 : Nat) : Int) - 1) = (j : Int) := by omega
      have hjl : j < L.length := by rw [HN.out]; omega
      obtain ⟨A3, c3, e3, _, _, hr3⟩ := OwnE.slice ho
      simp only [Value.slice.injEq] at e3
      obtain ⟨rfl, -, rfl⟩ := e3
      obtain ⟨b, o, rfl, hc⟩ := hr3 (by rw [enCells_length]; omega)
      have k0 : wr.cell? ⟨b, o + j * 2, none⟩ = some (.int .u32 L[j].1) := en_cell hjl hc 0 _ rfl
      have k1 : wr.cell? ⟨b, o + j * 2 + 1, none⟩ = some (.int .i64 L[j].2) := en_cell hjl hc 1 _ rfl
      have hpf := put_front HW.out (by rw [HN.out]; exact hlen) hjl
      have hok := HW.out.ok L[j] (List.getElem_mem _)
      obtain ⟨y, hy⟩ : ∃ y, L[j] = y := ⟨_, rfl⟩
      rw [hy] at k0 k1 hpf hok
      obtain ⟨y0, y1⟩ := y
      simp only at k0 k1 hpf
      have HPF := Lib.hid hpf; have HOK := Lib.hid hok; have HX3 := Lib.hid hx; have HO := Lib.hid ho
      simp only [hz]
      clear hpf hok hx hc hr3 hy hz hk0 ho hjl
      go_wp2_with fail
      refine wp_region_still_tail 11 (by kernel_rfl) (by kernel_rfl) ?_
      simp only [List.take_succ_cons, List.take_zero, List.drop_succ_cons, List.drop_zero]
      obtain ⟨wd, hwd⟩ : ∃ W, wr.drew = W := ⟨_, rfl⟩
      have e2 : (World.mk wr.heap wr.tape (wr.drawn + 1) wr.os wr.output) = wd := hwd
      simp only [e2]
      have ED : Ext wr wd := hwd ▸ (Ext.refl wr).drew
      have d0 : wd.cell? ⟨b, o + j * 2, none⟩ = some (.int .u32 y0) := hwd ▸ k0
      have d1 : wd.cell? ⟨b, o + j * 2 + 1, none⟩ = some (.int .i64 y1) := hwd ▸ k1
      have HXD := Lib.hid (HX3.out.ext ED); have HOD := Lib.hid (HO.out.ext ED)
      have hED := hE.trans ED
      clear hwd e2 k0 k1 ED
      have i1 : (0 : Int) ≤ (j : Int) := by omega
      have i2 : (j : Int) < (n : Int) := by omega
      have i3 : ((j : Int)).toNat = j := by omega
      repeat still_step
      refine wpStill_nil ?_
      go_wp2_with fail
      refine (put_calls p' r' cap (L.drop (j + 1)) y0 y1 wd HXD.out HOK.out).mono ?_
      rintro e w4 ⟨rfl, hx4, hk4⟩
      rw [HPF.out] at hx4
      have E4 := hED.keep hk4 hp' hr'
      have O4 := HOD.out.keep hk4 hp1 hr1
      clear hk4
      go_wp2_with fail
      go_roundg j
      case measure => omega
      case rel => exact ⟨j, by go_num, by omega, by omega, hx4, E4, O4⟩

end Go.Proofs.Ytcjeclddpkinkaa
