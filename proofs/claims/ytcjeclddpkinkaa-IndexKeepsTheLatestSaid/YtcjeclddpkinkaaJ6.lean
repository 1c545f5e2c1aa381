/- has: whether a list holds a number. -/
import Derived.Test.YtcjeclddpkinkaaJ5
set_option linter.unusedSimpArgs false
set_option linter.unusedVariables false
namespace Go.Proofs.Ytcjeclddpkinkaa
open Go.RowKit Go.ChangeMaps Ix

theorem i64_cell {w : World} {b o : Nat} {l : List Int} {k : Nat} (hk : k < l.length) (hc : ∀ j u, (i64s l)[j]? = some u → w.cell? ⟨b, o + j, none⟩ = some u) : w.cell? ⟨b, o + k, none⟩ = some (.int .i64 l[k]) :=
  hc k _ (by rw [i64s_at hk]; simp [hk])

set_option maxRecDepth 100000 in
set_option maxHeartbeats 400000 in
theorem has_calls (A : Option Addr) (N c : Nat) (l : List Int) (n : Int) (w : World) (hA : Rd w A (i64s l)) (hN : l.length = N) (hNb : N ≤ 1000000000000) (r : Bool) (hr : l.contains n = r) :
    Calls Try.prog 23 #[.slice A N c, .int .i64 n] w fun e w' => e = .returned (.bool r) ∧ w = w' := by
  have HN := Lib.hid hN; have HR := Lib.hid hr
  clear hN hr
  go_enter Try.func23, Try.ntmps23
  go_wp2
  go_loop [5] (fun i => ∃ k : Nat, i = .int .i64 (k : Int) ∧ k ≤ N ∧ Hid (n ∉ l.take k)) (fun i => N - (intOf i).toNat)
  case atStart => exact ⟨0, rfl, by omega, Lib.hid (by simp)⟩
  case round =>
    obtain ⟨k, rfl, hk, HK⟩ := hrel
    by_cases hkN : k < N
    · have h1 : k < l.length := by rw [HN.out]; exact hkN
      obtain ⟨b, o, rfl, hc⟩ := hA (by rw [i64s_length]; omega)
      have hx := i64_cell h1 hc
      have ht : l.take (k + 1) = l.take k ++ [l[k]] := by rw [List.take_add_one, List.getElem?_eq_getElem h1]; rfl
      have hm : l[k] ∈ l := List.getElem_mem _
      obtain ⟨x, hx0⟩ : ∃ x, l[k] = x := ⟨_, rfl⟩
      rw [hx0] at hx ht hm
      have HT := Lib.hid ht; have HM := Lib.hid hm
      clear hc hx0 h1 ht hm
      by_cases hxn : x = n
      · subst hxn
        have hr : r = true := by rw [← HR.out, List.contains_iff_mem]; exact HM.out
        subst hr
        have hz : (x == x) = true := by simp
        go_wp2
        go_ret
        exact ⟨rfl, rfl⟩
      · have hz : (x == n) = false := by rw [beq_eq_false_iff_ne]; exact hxn
        have HX := Lib.hid hxn
        clear hxn
        go_wp2
        go_round
        case rel => exact ⟨k + 1, by go_num, by omega, Lib.hid (by rw [HT.out, List.mem_append, List.mem_singleton]; rintro (h | h); exact HK.out h; exact HX.out h.symm)⟩
        case measure => simp [intOf]; omega
    · have hr : r = false := by
        have hkk : k = N := by omega
        have := HK.out
        rw [List.take_of_length_le (by rw [HN.out]; omega)] at this
        rw [← HR.out]
        cases h : l.contains n with
        | false => rfl
        | true => exact absurd (List.contains_iff_mem.1 h) this
      subst hr
      go_wp2
      go_ret
      exact ⟨rfl, rfl⟩

end Go.Proofs.Ytcjeclddpkinkaa
