/- The sanity check of the index's laws. -/
import Derived.Test.YtcjeclddpkinkaaI8
import Derived.Test.YtcjeclddpkinkaaI5
set_option linter.unusedSimpArgs false
set_option linter.unusedVariables false
namespace Go.Proofs.Ytcjeclddpkinkaa
open Go.RowKit Go.ChangeMaps Ix

theorem Ext.keep {w a b : World} {p r : Nat} (h : Ext w a) (k : Keep2 p r a b) (hp : w.heap.size ≤ p) (hr : w.heap.size ≤ r) : Ext w b :=
  ⟨k.os.trans h.os, k.tape.trans h.tape, k.output.trans h.output, Nat.le_trans h.size k.size, fun i hi => (k.block i (Nat.lt_of_lt_of_le hi h.size) (by omega) (by omega)).trans (h.block i hi)⟩
theorem ownsRow_keep {w w' : World} {p r base : Nat} {e : TypeId} {s n : Nat} {v : Value} {xs : List Value} (h : w.ownsRow base e s v n xs) (k : Keep2 p r w w') (hp : p < base) (hr : r < base) : w'.ownsRow base e s v n xs := by
  refine ⟨h.1, ?_⟩
  rcases h.2 with h2 | ⟨g, cap, cur, h2, h3, h4, h5⟩
  · exact .inl h2
  · have hg := (Array.getElem?_eq_some_iff.1 h4).1
    exact .inr ⟨g, cap, cur, h2, h3, (k.block g hg (by omega) (by omega)).trans h4, h5⟩

set_option maxRecDepth 100000 in
set_option maxHeartbeats 1000000 in
theorem sanity23_calls (w : World) : Calls Try.prog 17 #[] w (RetT w) := by
  go_enter Try.func17, Try.ntmps17
  go_wp2_with fail
  refine (new_calls 2 _ (by omega) (by omega)).mono ?_
  rintro e w1 ⟨p, r, rfl, hp, hr, hx1, E1⟩
  go_wp2_with fail
  refine (put_calls p r 2 [] 7 1 w1 hx1 ⟨by decide, by decide, by decide, by decide⟩).mono ?_
  rintro e w2 ⟨rfl, hx2, hk2⟩
  have E2 := E1.keep hk2 hp hr
  have e2 : putL 2 7 1 [] = ([(7, 1)], 0) := by decide
  rw [e2] at hx2 ⊢
  clear hk2 hx1 E1 e2
  go_wp2_with fail
  refine (put_calls p r 2 [(7, 1)] 7 2 w2 hx2 ⟨by decide, by decide, by decide, by decide⟩).mono ?_
  rintro e w3 ⟨rfl, hx3, hk3⟩
  have E3 := E2.keep hk3 hp hr
  have e2 : putL 2 7 2 [(7, 1)] = ([(7, 2), (7, 1)], 0) := by decide
  rw [e2] at hx3 ⊢
  clear hk3 hx2 E2 e2
  go_wp2_with fail
  refine (find_calls p r 2 7 [(7, 2), (7, 1)] (by decide) w3 hx3).mono ?_
  rintro e w4 ⟨v4, rfl, hown4, hw⟩
  have E4 := E3.trans hw
  have hx4 := hx3.ext hw
  have hps := hx3.1.lt
  have hrs := hx3.1.2.lt
  have ef : findL 7 [(7, 2), (7, 1)] = [2, 1] := by decide
  rw [ef] at hown4
  clear hw hx3 E3 ef
  go_wp2_with fail
  refine (put_calls p r 2 [(7, 2), (7, 1)] 9 3 w4 hx4 ⟨by decide, by decide, by decide, by decide⟩).mono ?_
  rintro e w5 ⟨rfl, hx5, hk5⟩
  have E5 := E4.keep hk5 hp hr
  have e2 : putL 2 9 3 [(7, 2), (7, 1)] = ([(9, 3), (7, 2)], 1) := by decide
  rw [e2] at hx5 ⊢
  have hown5 : Own64 w5 w3.heap.size v4 [2, 1] := ownsRow_keep hown4 hk5 hps hrs
  obtain ⟨A5, c5, rfl, hc5, hm5, hr5⟩ := hown5.slice
  clear hk5 hx4 E4 e2 hown4 hown5
  obtain ⟨b5, o5, rfl, hcell⟩ := hr5 (by decide)
  have k0 : w5.cell? ⟨b5, o5, none⟩ = some (.int .i64 2) := hcell 0 _ rfl
  clear hcell hr5
  go_wp2_with fail
  refine (put_bad p r 2 [(9, 3), (7, 2)] 9 0 w5 hx5 (by decide)).mono ?_
  rintro e _ ⟨rfl, rfl⟩
  go_wp2_with fail
  refine (len_calls p r 2 [(9, 3), (7, 2)] w5 hx5).mono ?_
  rintro e _ ⟨rfl, rfl⟩
  go_wp2_with fail
  refine (cap_calls p r 2 [(9, 3), (7, 2)] w5 hx5).mono ?_
  rintro e _ ⟨rfl, rfl⟩
  go_wp2
  go_ret
  exact ⟨rfl, E5⟩

end Go.Proofs.Ytcjeclddpkinkaa
