/- 'solventlaw02.DigestRootAppends' is proved: whatever the input, it answers true and leaves its input as it was; there is no condition but the variables that the row lists; and its tied card. -/
import Derived.Test.YtcjeclddpkinkaaDoorD35
import Derived.Test.YtcjeclddpkinkaaDoorRD
set_option linter.unusedSimpArgs false
set_option linter.unusedVariables false
namespace Go.Proofs.YtcjeclddpkinkaaDoor
open Go.ChangeShapes Go.WideShapes Go.ChangeAt Go.RowKit

section
variable {H : Type} {enc : TypeId × Value → H} {W : World} {base : Nat} {p : List MemPlace} {d : DataW H} {v : Value}
set_option maxRecDepth 100000 in
/-- a digest by value -/
theorem opens_dg (hval : Value.okWide Tryd.prog W .any base 45 v) (h : DataW.Trod enc Tryd.prog W 0 (fun _ => true) true 45 v d p) : ∃ x : Wz.Dg, v = dgV x := by
  have hv : ∃ cs : Array Value, v = .agg cs ∧ cs.size = 16 := by
    simp only [Value.okWide, Tryd.und_dg] at hval
    obtain ⟨cs, h1, h2, _⟩ := hval
    exact ⟨cs, h1, by rw [h2, Tryd.cells_dg]⟩
  obtain ⟨cs, rfl, hcs⟩ := hv
  obtain ⟨fuel, hf⟩ := h
  obtain ⟨ys, m, _, _, _, hyl, hys⟩ := DataW.trod_array Tryd.und_dg hf
  have each : ∀ q, q < 16 → ∃ c : UInt8, cs[q]? = some (.int .u8 (c.toNat : Int)) := by
    intro q hq
    have h3 := hys q hq
    rw [Tryd.cells_u8, List.getElem?_eq_getElem (by omega), Nat.mul_one] at h3
    obtain ⟨z, e1, _, hw⟩ := DataW.trod_int Tryd.und_u8 h3
    refine ⟨UInt8.ofNat z.toNat, ?_⟩
    rw [← wf_u8 hw]
    have := congrArg (fun l => l[0]?) e1
    simpa [Value.cells, List.getElem?_take, List.getElem?_drop] using this
  obtain ⟨l, hll, hlp⟩ := list_of (fun q (c : UInt8) => cs[q]? = some (.int .u8 (c.toNat : Int))) 16 each
  refine ⟨⟨l, hll⟩, ?_⟩
  show Value.agg cs = Value.agg (u8s l).toArray
  refine congrArg Value.agg ?_
  apply Array.ext'
  apply List.ext_getElem?
  intro q
  by_cases hq : q < 16
  · rw [Array.getElem?_toList, hlp q (by omega)]
    simp only [u8s, List.getElem?_map]
    rw [List.getElem?_eq_getElem (show q < l.length by omega)]
    rfl
  · rw [List.getElem?_eq_none (by rw [Array.length_toList]; omega), List.getElem?_eq_none (by show (u8s l).length ≤ q; rw [u8s_length]; omega)]
end

set_option maxRecDepth 100000 in
theorem digestRootAppends_lifted (os : Os) (started : os.Started) (H : Type) (enc : TypeId × Value → H) :
    ReturnsInHanded {} Tryd.checked os 14 .any (fun w args => (Rows.digestRootAppendsSpec.pre enc Tryd.checked.prog Tryd.f14 [] false w args ∧ laidMetH Tryd.prog laid3 w) ∧ sizedMet enc Tryd.checked.prog Tryd.f14 (OpenSpec.ofChange Rows.digestRootAppendsSpec) false w args) (Rows.digestRootAppendsSpec.post enc Tryd.checked.prog Tryd.f14 false true false false) := by
  refine lift_law laid3 os started H enc Tryd.func14 (by kernel_rfl)
    (ChangeSpec.witness_shaped (enc := enc) (C := Tryd.checked) (os := os) (X := fun w _ => laidMetH Tryd.prog laid3 w) false (World.doorLaid Tryd.prog 24 os) #[.slice none 0 0, .agg (Array.replicate 16 (.int .u8 0)), .agg (Array.replicate 16 (.int .u8 0))] 8 rfl (World.shaped_of_RefB (by kernel_rfl) (by kernel_rfl)) (by kernel_rfl) (by kernel_rfl) (by kernel_rfl) (door_met3 os _)) rfl (by kernel_rfl) rfl ?_ ?_
  · intro W args ds p hA
    obtain ⟨args, rfl⟩ : ∃ a : Array Value, args = a.toList := ⟨args.toArray, by simp⟩
    obtain ⟨v0, v1, v2, d0, d1, d2, p0, p1, p2, rfl, rfl, rfl, _, _, _⟩ := trodAll_three hA
    rfl
  · intro W base args ds p hval hA hsz hL
    obtain ⟨v0, v1, v2, d0, d1, d2, p0, p1, p2, rfl, rfl, rfl, h0, h1, h2⟩ := trodAll_three hA
    obtain ⟨A, N, c, l, rfl, hr, hN, hc, hm, _⟩ := opens_D hsz (j := 0) rfl rfl (hval 0 63 _ rfl rfl) h0
    obtain ⟨x1, rfl⟩ := opens_dg (hval 1 45 _ rfl rfl) h1
    obtain ⟨x2, rfl⟩ := opens_dg (hval 2 45 _ rfl rfl) h2
    exact appends_law A N c l x1 x2 W hr hN hc (glo3 hL)

theorem digestRootAppends_holds : Rows.DigestRootAppendsSaid :=
  OpenClaim.holds_of_wide 14 Tryd.f14 rfl rfl rfl rfl rfl rfl rfl ⟨rfl, rfl, rfl, rfl, rfl⟩ rfl rfl rfl rfl rfl (by kernel_rfl) Tryd.func14 (by kernel_rfl)
    (of_decide_eq_true (by kernel_rfl)) (by unfold Func.isWrapper; first | (rw [if_pos (by decide +kernel)]; kernel_rfl) | (rw [if_neg (by decide +kernel)]; exact ⟨rfl, rfl⟩))
    (fun os started H enc _ => digestRootAppends_lifted os started H enc)

theorem digestRootAppends_card_holds : Rows.DigestRootAppendsCardSaid :=
  Claim7.holds_tied_plain_at .later [] [.data, .data, .data] true (true, "b3f345907343170a703516499e5ea42f12764b802fc9c4dec6731c82b6d1c84a") false
    digestRootAppends_holds (fun _ h => by cases h) (by kernel_rfl) (fun _ h => by cases h) digestRootAppends_row_tie rfl ⟨rfl, rfl⟩ (by kernel_rfl) rfl
    (fun f fn hf hfn => by
      obtain rfl : f = 14 := Option.some.inj ((show Tryd.prog.funcNamed "solvent/solventlaw02.DigestRootAppends" = some 14 by kernel_rfl).symm.trans hf) |>.symm
      obtain rfl : fn = Tryd.f14 := (Option.some.inj (Tryd.func14.symm.trans hfn)).symm
      exact ⟨by kernel_rfl, fun j t ht => by
        rw [Tryd.params14] at ht
        have hm : t ∈ [63,45,45] := by simpa using Array.mem_of_getElem? ht
        have hall : ([63,45,45].all fun u => !Tryd.prog.wantsStandIn u) = true := by kernel_rfl
        exact (show Tryd.prog.wantsStandIn t = false by simpa using List.all_eq_true.1 hall t hm)⟩)
    (by kernel_rfl)
end Go.Proofs.YtcjeclddpkinkaaDoor
