/- The contracts of short and Of: of the program and of the reference. -/
import Derived.Test.YtcjeclddpkinkaaDoorD8
set_option linter.unusedSimpArgs false
set_option linter.unusedVariables false
namespace Go.Proofs.YtcjeclddpkinkaaDoor
open Go.RowKit
open Wz (Dg)

/-- the first 16 bytes of the hash -/
def shF (l : List UInt8) : Dg := ⟨(sha l).take 16, by rw [List.length_take, sha_length]; rfl⟩
theorem shF_val (l : List UInt8) : (shF l).1 = (sha l).take 16 := rfl
def ofF (tag : Int) (ps : List (List UInt8)) : Dg := shF (inpI tag ps)
attribute [irreducible] shF
theorem agg_dg : AggOf Tryd.prog 45 16 := ⟨by kernel_rfl, by kernel_rfl⟩
theorem run_arrayAt16 (A : Option Addr) (c : Nat) (w : World) : (Instr.arrayAt 45 (.slice A 16 c)).run Tryd.prog w = .ok (.pointer A) w := by
  simp [Instr.arrayAt, run_underlying Tryd.underlying45, run_underlying Tryd.underlying5]
/-- the value of a digest -/
abbrev dgV (d : Dg) : Value := .agg (u8s d.1).toArray
theorem dg_len (d : Dg) : (u8s d.1).length = 16 := by rw [u8s_length, d.2]
/-- the call returns a digest; what was there stays -/
def RetDg (w : World) (d : Dg) (e : Ending) (w' : World) : Prop := e = .returned (dgV d) ∧ Ext w w'

set_option maxRecDepth 100000 in
set_option maxHeartbeats 400000 in
/-- digest.short -/
theorem short_calls (A : Option Addr) (N c : Nat) (l : List UInt8) (w : World) (hr : Rd w A (u8s l)) (hl : l.length = N) (hN : N ≤ 100000000000) (hG : Glo w) :
    Calls Tryd.prog 88 #[.slice A N c] w (RetDg w (shF l)) := by
  have HD := Lib.hid (shF_val l)
  have hsl := sha_length l
  have HC := fun w hr hG => sum_calls A N c l w hr hl hN hG
  obtain ⟨d, hd⟩ : ∃ d, shF l = d := ⟨_, rfl⟩
  rw [hd] at HD
  obtain ⟨S, hS⟩ : ∃ S, sha l = S := ⟨_, rfl⟩
  rw [hS] at HD hsl
  simp only [hS] at HC
  rw [hd]
  have HL := Lib.hid hsl
  have HCC := Lib.hid HC
  clear hl HC hd hS hsl
  go_enter Tryd.func88, Tryd.ntmps88
  go_upto_region 1 with fail
  generalize hW0 : w.alloc _ = W0
  have E0 : Ext w W0 := hW0 ▸ (Ext.refl w).alloc _
  have R0 : Blk W0 w.heap.size 45 (u8s (List.replicate 16 0)) := hW0 ▸ Blk.new w (u8s (List.replicate 16 0)) 45
  have HR0 := Lib.hid R0
  have HE0 := Lib.hid E0
  have HGG := Lib.hid (hG.ext E0)
  have HRR := Lib.hid (hr.ext E0)
  obtain ⟨n, hn⟩ : ∃ n, w.heap.size = n := ⟨_, rfl⟩
  have HNn := Lib.hid hn
  simp only [hn] at HR0 ⊢
  clear hW0 E0 R0 hr hn
  have hat := run_arrayAt16
  go_wp2_with (first
    | ((with_reducible refine (HCC.out _ HRR.out HGG.out).mono ?_); rintro e w1 ⟨rfl, E1⟩)
    | ((with_reducible show wpList _ _ _ (⟨Option.none, .store _ (.tmp 3) _, _, _, _, _⟩ :: _) _ _); go_must (refine wpList_storeNew agg_32 w1 _ 41 rfl (.tmp 3) (.tmp 5) rfl rfl (u8s S) rfl (by rw [u8s_length, HL.out]) rfl (u8s_one _) ?_))
    | ((with_reducible show wpList _ _ _ (⟨some 8, _, _, _, _, _⟩ :: _) _ _); go_must (refine wpList_loadAgg agg_dg _ rfl (.tmp 7) rfl w1.heap.size 0 rfl (u8s d.1) (dg_len d) (fun j u hu => (Blk.new w1 (u8s S) 41).agg j u ?_) ?_))
    | ((with_reducible show wpList _ _ _ (⟨Option.none, .store _ (.tmp 2) _, _, _, _, _⟩ :: _) _ _); go_must (refine wpList_storeBlk agg_dg _ n 45 _ ((HR0.out.below E1).alloc _) rfl (.tmp 2) (.tmp 8) rfl rfl (u8s d.1) rfl (dg_len d) rfl (u8s_one _) ?_); intro w2 hB2 hg2)
    | fail)
  · rw [HD.out] at hu
    have h1 : u8s (S.take 16) = (u8s S).take 16 := by simp [u8s]
    rw [h1, List.getElem?_take] at hu
    split at hu
    · exact hu
    · cases hu
  refine bodyPost_ret (results_cell rfl agg_dg _ w2 n rfl (u8s d.1) (dg_len d) 45 hB2) rfl ?_
  exact ⟨rfl, Below.grown ((HE0.out.trans E1).alloc _) hg2 ((HE0.out.trans E1).alloc _).size (fun k hk => by have := Option.some.inj hk; have := HNn.out; omega)⟩
end Go.Proofs.YtcjeclddpkinkaaDoor
