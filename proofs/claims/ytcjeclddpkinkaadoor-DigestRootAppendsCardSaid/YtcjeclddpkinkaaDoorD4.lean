/- SHA-256, plain: padding, blocks, the sum; the contracts of slices.Clone and of the reference's padded. -/
import Derived.Test.YtcjeclddpkinkaaDoorD3
import Derived.WalkSpells
set_option linter.unusedSimpArgs false
set_option linter.unusedVariables false
namespace Go.Proofs.YtcjeclddpkinkaaDoor
open Go.RowKit

/-! ### plain -/
def zpad (n : Nat) : Nat := (119 - n % 64) % 64
def padF (l : List UInt8) : List UInt8 := l ++ [128] ++ List.replicate (zpad l.length) 0 ++ Wz.be 8 (8 * l.length)
theorem padF_length (l : List UInt8) : (padF l).length = l.length + 1 + zpad l.length + 8 := by
  unfold padF
  rw [List.length_append, List.length_append, List.length_append, List.length_replicate, Wz.be_length]
  rfl
theorem padF_mod (l : List UInt8) : (padF l).length % 64 = 0 := by rw [padF_length]; unfold zpad; omega
/-- the state after k blocks -/
def blk (m : List UInt8) (k : Nat) : List UInt8 := (m.drop (64 * k)).take 64
def shaSt (m : List UInt8) : Nat → St
  | 0 => ⟨0x6a09e667, 0xbb67ae85, 0x3c6ef372, 0xa54ff53a, 0x510e527f, 0x9b05688c, 0x1f83d9ab, 0x5be0cd19⟩
  | k + 1 => comp (shaSt m k) (blk m k)
/-- byte i of the output -/
def outB (L : List UInt32) (i : Nat) : UInt8 := UInt8.ofNat ((sr (L.getD (i / 4) 0) (24 - 8 * (i % 4))).toNat % 256)
def outF (L : List UInt32) : List UInt8 := (List.range 32).map (outB L)
def sha (l : List UInt8) : List UInt8 := outF (shaSt (padF l) ((padF l).length / 64)).l
theorem outF_length (L : List UInt32) : (outF L).length = 32 := by simp [outF]
theorem sha_length (l : List UInt8) : (sha l).length = 32 := outF_length _

/-! ### slices.Clone -/
theorem Own8.empty (w : World) (base : Nat) (hb : base ≤ w.heap.size) : Own8 (w.alloc (.cells #[] 5)) base (.slice (some ⟨w.heap.size, 0, none⟩) 0 0) [] :=
  ⟨rfl, .inr ⟨w.heap.size, 0, #[], rfl, hb, heap_alloc_new w _, Nat.le_refl _, Nat.zero_le _, rfl, rfl⟩⟩

set_option maxRecDepth 100000 in
theorem clone8_calls (A : Option Addr) (N c : Nat) (l : List UInt8) (w : World) (hr : Rd w A (u8s l)) (hl : l.length = N) (hN : N ≤ 100000000000) :
    Calls Tryd.prog 82 #[.slice A N c] w (RetB w l) := by
  have HL := Lib.hid hl
  have q := fun (w : World) => Lib.run_eql_slice_nil (P := Tryd.prog) w 34 5 A N c 0 0 Tryd.underlying34
  cases A with
  | none =>
    have h0 : l = [] := by
      cases l with
      | nil => rfl
      | cons x r => obtain ⟨b, o, e, _⟩ := hr (by simp [u8s]); cases e
    subst h0
    have hN0 : N = 0 := by rw [← hl]; rfl
    subst hN0
    clear hl HL hr
    go_enter Tryd.func82, Tryd.ntmps82
    go_wp2
    go_ret
    exact ⟨_, rfl, Own8.nil _ _, Below.refl _ _⟩
  | some a =>
    clear hl
    go_enter Tryd.func82, Tryd.ntmps82
    go_wp2_with (first
      | ((with_reducible show wpList _ _ _ (⟨some 7, _, _, _, _, _⟩ :: _) _ _); go_must (refine wpList_app8 _ rfl (.tmp 5) (.tmp 6) rfl w.heap.size _ [] rfl (Own8.empty w _ (Nat.le_refl _)) (some a) c l (by rw [HL.out]; rfl) (hr.alloc _) (by rw [HL.out]; simp; omega) (by simp) ?_); intro v' w1 h1 h2 h3))
    go_ret
    exact ⟨_, rfl, h1, h3 _ _ (Nat.le_refl _) ((Below.refl _ _).alloc (Nat.le_refl _) _)⟩

/-! ### the reference's padded -/
theorem pad_shift (m j : Nat) (h : j < 8) : ((m : Int) / 2 ^ (56 - 8 * j)) % 256 = ((UInt8.ofNat (m / 256 ^ (7 - j))).toNat : Int) := by
  rw [show 56 - 8 * j = 8 * (7 - j) from by omega, digit_byte]

set_option maxRecDepth 100000 in
theorem padded_calls (A : Option Addr) (N c : Nat) (l : List UInt8) (w : World) (hr : Rd w A (u8s l)) (hl : l.length = N) (hN : N ≤ 100000000000) :
    Calls Tryd.prog 85 #[.slice A N c] w (RetB w (padF l)) := by
  have HL := Lib.hid hl
  have HP : Hid (padF l = l ++ [128] ++ List.replicate (zpad N) 0 ++ Wz.be 8 (8 * N)) := Lib.hid (by unfold padF; rw [hl])
  have hz : zpad N = (119 - N % 64) % 64 := rfl
  obtain ⟨z, hzz⟩ : ∃ z, zpad N = z := ⟨_, rfl⟩
  rw [hzz] at HP hz
  clear hl hzz
  have HZ := Lib.hid hz
  have hz64 : z < 64 := by omega
  clear hz
  go_enter Tryd.func85, Tryd.ntmps85
  go_upto_block 0 with (first
    | ((with_reducible show wpList _ _ _ (⟨some 8, _, _, _, _, _⟩ :: _) _ _); go_must (refine wpList_app8 _ rfl (.tmp 6) (.tmp 7) rfl w.heap.size _ [] rfl (Own8.empty w _ (Nat.le_refl _)) A c l (by rw [HL.out]; rfl) (hr.alloc _) (by rw [HL.out]; simp; omega) (by simp) ?_); intro v1 w1 ho1 hg1 hb1; rw [List.nil_append] at ho1; have B1 := hb1 _ _ (Nat.le_refl _) ((Below.refl _ w).alloc (Nat.le_refl _) _); clear hg1 hb1; have hs1 := B1.size)
    | ((with_reducible show wpList _ _ _ (⟨some 11, _, _, _, _, _⟩ :: _) _ _); go_must (refine wpList_app8one _ rfl (.tmp 9) (.tmp 10) rfl w.heap.size _ _ _ rfl ho1 rfl 128 rfl (by rw [HL.out]; omega) hs1 ?_); intro v2 w2 ho2 hg2 hb2; have B2 := hb2 _ _ (Nat.le_refl _) B1; clear hg2 hb2 B1 ho1))
  have hs2 := B2.size
  have HB2 := Lib.hid B2
  have HO2 := Lib.hid ho2
  clear B2 ho2 hs1
  go_cut [3] (fun v wc => ∃ A' c', v = .slice A' (N + 1 + z) c' ∧ Hid (Own8 wc w.heap.size v (l ++ [128] ++ List.replicate z 0) ∧ Below w.heap.size w wc))
  case first =>
    go_wp2_with fail
    go_loopg [3] (z + 1) (fun g v wr => ∃ j : Nat, j ≤ z ∧ z - j + 1 ≤ g ∧ Own8 wr w.heap.size v (l ++ [128] ++ List.replicate j 0) ∧ Below w.heap.size w wr)
    case atStart => exact ⟨0, by omega, by omega, by simpa using HO2.out, HB2.out⟩
    case round =>
      obtain ⟨j, hj, hg, ho, hb⟩ := hrel
      obtain ⟨A', c', rfl, hc', hm', hr'⟩ := ho.slice
      have hlen : (l ++ [128] ++ List.replicate j 0).length = N + 1 + j := by rw [List.length_append, List.length_append, List.length_replicate, HL.out]; rfl
      rw [hlen] at ho hc' ⊢
      have HO := Lib.hid ho
      have HLEN := Lib.hid hlen
      clear ho hlen hr'
      by_cases hjz : j = z
      · have hd : (((N : Int) + 1 + (j : Int)) % 64 != 56) = false := by
          have := HZ.out
          rw [bne_eq_false_iff_eq]; omega
        subst hjz
        go_wp2_with fail
        go_meet
        case rel => exact ⟨A', c', rfl, Lib.hid ⟨HO.out, hb⟩⟩
      · have hd : (((N : Int) + 1 + (j : Int)) % 64 != 56) = true := by
          have := HZ.out
          rw [bne_iff_ne]; omega
        have hbs := hb.size
        go_wp2_with (first
          | ((with_reducible show wpList _ _ _ (⟨some 18, _, _, _, _, _⟩ :: _) _ _); go_must (refine wpList_app8one _ rfl (.tmp 16) (.tmp 17) rfl w.heap.size _ _ _ rfl HO.out rfl 0 rfl (by rw [HLEN.out]; omega) hbs ?_); intro v3 w3 ho3 hg3 hb3; have B3 := hb3 _ _ (Nat.le_refl _) hb; clear hg3 hb3))
        go_roundg (z - (j + 1) + 1)
        case measure => omega
        case rel =>
          refine ⟨j + 1, by omega, by omega, ?_, B3⟩
          rw [List.append_assoc] at ho3
          have e : List.replicate j 0 ++ [0] = List.replicate (j + 1) (0 : UInt8) := by rw [List.replicate_succ']
          rw [e] at ho3
          exact ho3
  case rest =>
    obtain ⟨A1, c1, rfl, HC⟩ := hcut
    have hlen : (l ++ [128] ++ List.replicate z 0).length = N + 1 + z := by rw [List.length_append, List.length_append, List.length_replicate, HL.out]; rfl
    obtain ⟨M, hM⟩ : ∃ M, l ++ [128] ++ List.replicate z 0 = M := ⟨_, rfl⟩
    rw [hM] at HC HP hlen
    have hz := HZ.out
    have hlen2 : M.length ≤ 100000000065 := by omega
    have HM := Lib.hid hlen
    clear hM hlen hz HB2 HO2 hs2
    go_wp2_with fail
    go_loopg [3, 5] 8 (fun g v i wr => ∃ j : Nat, i = .int .i64 (j : Int) ∧ j ≤ 8 ∧ 8 - j ≤ g ∧ Own8 wr w.heap.size v (M ++ (Wz.be 8 (8 * N)).take j) ∧ Below w.heap.size w wr)
    case atStart => exact ⟨0, rfl, by omega, by omega, by simpa using HC.out.1, HC.out.2⟩
    case round =>
      obtain ⟨j, rfl, hj, hg, ho, hb⟩ := hrel
      have HO := Lib.hid ho
      by_cases hj8 : j < 8
      · have hbs := hb.size
        have HN := Lib.hid (Wz.be_take 8 (8 * N) (7 - j) (by omega))
        rw [show 8 - (7 - j + 1) = j from by omega, show 8 - (7 - j) = j + 1 from by omega] at HN
        have hx := pad_shift (8 * N) j hj8
        rw [show (((8 * N : Nat) : Int)) = 8 * (N : Int) from by omega] at hx
        obtain ⟨d, hd⟩ : ∃ d, UInt8.ofNat (8 * N / 256 ^ (7 - j)) = d := ⟨_, rfl⟩
        rw [hd] at hx HN
        have hlj : (M ++ (Wz.be 8 (8 * N)).take j).length < 140737488355328 := by rw [List.length_append, List.length_take, Wz.be_length]; omega
        clear hd ho
        go_wp2_with (first
          | ((with_reducible show wpList _ _ _ (⟨some 35, _, _, _, _, _⟩ :: _) _ _); go_must (refine wpList_app8one _ rfl (.tmp 27) (.tmp 34) rfl w.heap.size _ _ _ rfl HO.out rfl d rfl hlj hbs ?_); intro v3 w3 ho3 hg3 hb3; have B3 := hb3 _ _ (Nat.le_refl _) hb; clear hg3 hb3))
        go_roundg (8 - (j + 1))
        case measure => omega
        case rel =>
          refine ⟨j + 1, by go_num, by omega, by omega, ?_, B3⟩
          rw [List.append_assoc, HN.out] at ho3
          exact ho3
      · have hj8' : j = 8 := by omega
        subst hj8'
        go_wp2_with fail
        go_ret
        refine ⟨_, rfl, ?_, hb⟩
        rw [HP.out]
        rw [List.take_of_length_le (by rw [Wz.be_length]; exact Nat.le_refl _)] at ho
        exact ho
end Go.Proofs.YtcjeclddpkinkaaDoor
