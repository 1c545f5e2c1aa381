/- The contracts of wire.Int and of the reference's Int. -/
import Derived.Test.YtcjeclddpkinkaaDoorB1
import Derived.Test.YtcjeclddpkinkaaDoorWp
import Derived.Deep.Cut
import Derived.Deep.CutBlock
import Derived.Deep.DeepCutAuto
import Derived.Deep.DeepMust
namespace Go.Proofs.YtcjeclddpkinkaaDoor
open Go.RowKit

theorem sub255 (c : UInt8) : ((255 - c : UInt8).toNat : Int) = 255 - (c.toNat : Int) := by
  rw [UInt8.toNat_sub_of_le]
  · have : (255 : UInt8).toNat = 255 := rfl
    have := u8_lt c
    omega
  · rw [UInt8.le_iff_toNat_le]
    have : (255 : UInt8).toNat = 255 := rfl
    have := u8_lt c
    omega

/-- the call returns a new []byte that holds l, and turns nothing that was there -/
def RetB (w : World) (l : List UInt8) (e : Ending) (w' : World) : Prop := ∃ v, e = .returned v ∧ Own8 w' w.heap.size v l ∧ Below w.heap.size w w'

theorem int_shift0 {m k : Nat} (h : 256 ^ (k - 1) ≤ m) : 0 < (m : Int) / 2 ^ (8 * (k - 1)) := by
  have e : (2 : Int) ^ (8 * (k - 1)) = ((256 ^ (k - 1) : Nat) : Int) := by
    rw [Int.natCast_pow, Int.pow_mul]; rfl
  rw [e, ← Int.natCast_ediv]
  have := Nat.div_pos h (Nat.pow_pos (by decide))
  omega
theorem int_shift1 {m k : Nat} (h : m < 256 ^ (k - 1)) : (m : Int) / 2 ^ (8 * (k - 1)) = 0 := by
  have e : (2 : Int) ^ (8 * (k - 1)) = ((256 ^ (k - 1) : Nat) : Int) := by
    rw [Int.natCast_pow, Int.pow_mul]; rfl
  rw [e, ← Int.natCast_ediv, Nat.div_eq_of_lt h]
  rfl
theorem sgn_byte (n : Int) (F : Int) (hF : F = (if 0 ≤ n then 0 else 255)) (c : UInt8) : bits .xor .u8 (c.toNat : Int) F = ((Wz.sgn n c).toNat : Int) := by
  subst hF
  unfold Wz.sgn
  split
  · exact xor8_0 c
  · rw [xor8_255, UInt8.toNat_sub_of_le]
    · have : (255 : UInt8).toNat = 255 := rfl
      have := u8_lt c
      omega
    · rw [UInt8.le_iff_toNat_le]
      have : (255 : UInt8).toNat = 255 := rfl
      have := u8_lt c
      omega
theorem digit_byte (m j : Nat) : ((m : Int) / 2 ^ (8 * j)) % 256 = ((UInt8.ofNat (m / 256 ^ j)).toNat : Int) := by
  have e : (2 : Int) ^ (8 * j) = ((256 ^ j : Nat) : Int) := by
    rw [Int.natCast_pow, Int.pow_mul]; rfl
  rw [e, ← Int.natCast_ediv, UInt8.toNat_ofNat']
  omega

set_option maxRecDepth 100000 in
set_option maxHeartbeats 400000 in
/-- wire.Int returns the encoding -/
theorem int_calls (n : Int) (w : World) (h0 : -9223372036854775808 ≤ n) (h1 : n ≤ 9223372036854775807) :
    Calls Tryd.prog 80 #[.int .i64 n] w (RetB w (Wz.enc n)) := by
  have hM : (Wz.mag n : Int) ≤ 9223372036854775807 := by unfold Wz.mag; split <;> omega
  have HE := Lib.hid (Wz.enc_eq n h0 h1)
  obtain ⟨m, hm⟩ : ∃ m, Wz.mag n = m := ⟨_, rfl⟩
  obtain ⟨F, hF⟩ : ∃ F : Int, F = (if 0 ≤ n then 0 else 255) := ⟨_, rfl⟩
  rw [hm] at hM HE
  have hF0 : 0 ≤ F := by subst hF; split <;> omega
  have hF1 : F ≤ 255 := by subst hF; split <;> omega
  have HM := Lib.hid hm; clear hm
  have HF := Lib.hid hF; clear hF
  go_enter Tryd.func80, Tryd.ntmps80
  go_wp2; go_step3
  go_upto_if 11 with (fail)
  go_cut [3,4] (fun s3 s4 wc => s3 = .int .u64 (m : Int) ∧ s4 = .int .u8 F ∧ wc = w)
  case first =>
    by_cases hn : n < 0
    · have hx : bits .xor .u64 IntKind.u64.max (IntKind.u64.wrap n) = (m : Int) := by
        rw [← HM.out, IntKind.wrap_u64, not64 _ (by omega) (by omega)]
        unfold Wz.mag
        rw [if_neg (by omega)]
        omega
      go_wp2
      go_meet
      exact ⟨rfl, by rw [HF.out, if_neg (by omega)], rfl⟩
    · have hx : n = (m : Int) := by
        rw [← HM.out]
        unfold Wz.mag
        rw [if_pos (by omega)]
        omega
      have HX := Lib.hid (show IntKind.u64.wrap n = (m : Int) by rw [IntKind.wrap_u64]; omega); clear hx
      go_wp2
      go_meet
      exact ⟨by rw [HX.out], by rw [HF.out, if_pos (by omega)], rfl⟩
  case rest =>
    obtain ⟨rfl, rfl, rfl⟩ := hcut
    go_wp2; go_step3
    go_upto_block 0 with fail
    go_cut [5] (fun s5 wx => s5 = .int .i64 (Wz.klen m : Int) ∧ wx = wc)
    case first =>
      go_wp2_with fail
      go_loopg [5] 8 (fun g i wr => ∃ k : Nat, i = .int .i64 k ∧ k ≤ 8 ∧ k ≤ g ∧ m < 256 ^ k ∧ wr = wc)
      case atStart => exact ⟨8, rfl, by omega, by omega, by omega, rfl⟩
      case round =>
        obtain ⟨k, rfl, hk8, hkg, hm, rfl⟩ := hrel
        have HK := Lib.hid hm; clear hm
        by_cases hx : k = 0 ∨ 256 ^ (k - 1) ≤ m
        · have hk := Wz.klen_eq HK.out hx
          have hx' : 0 < k → 0 < (m : Int) / 2 ^ (8 * (k - 1)) := fun _ => int_shift0 (by omega)
          have HKK := Lib.hid hk
          clear hx hk
          by_cases h0 : 0 < k
          all_goals
            go_wp2
            go_meet
            exact ⟨by rw [HKK.out], rfl⟩
        · have hx' : (m : Int) / 2 ^ (8 * (k - 1)) = 0 := int_shift1 (by omega)
          have h0 : 0 < k := by omega
          have HK2 := Lib.hid (show m < 256 ^ (k - 1) by omega)
          clear hx
          go_wp2
          go_roundg (k - 1)
          case measure => omega
          case rel => exact ⟨k - 1, by congr 1; omega, by omega, by omega, HK2.out, rfl⟩
    case rest =>
      obtain ⟨rfl, rfl⟩ := hcut
      have hk8 : Wz.klen m ≤ 8 := Wz.klen_le_of_lt 8 m (by omega)
      obtain ⟨k, hk⟩ : ∃ k, Wz.klen m = k := ⟨_, rfl⟩
      rw [hk] at HE hk8
      rw [hk]
      clear hk
      obtain ⟨hd, hX, hhd⟩ : ∃ hd : UInt8, bits .xor .u8 (128 + (k : Int)) F = (hd.toNat : Int) ∧ hd = Wz.sgn n (UInt8.ofNat (128 + k)) :=
        ⟨_, by rw [← sgn_byte n F HF.out, ofNat8 _ (by omega)]; congr 1, rfl⟩
      rw [← hhd] at HE
      clear hhd
      go_wp2
      have hown := Own8.new wc wc.heap.size (Nat.le_refl _) (X := (hd.toNat : Int)) (c := hd) rfl
      go_loopg [6, 7] k (fun g v i wq => ∃ c : Nat, i = .int .i64 ((c : Int) - 1) ∧ c ≤ k ∧ c ≤ g ∧ Own8 wq wc.heap.size v (hd :: (((Wz.be k m).take (k - c)).map (Wz.sgn n))) ∧ Below wc.heap.size wc wq)
      case atStart => exact ⟨k, rfl, by omega, by omega, by simpa using hown, (Below.refl _ _).alloc (Nat.le_refl _) _⟩
      case round =>
        obtain ⟨c, rfl, hck, hcg, hown1, hb⟩ := hrel
        clear hown
        cases c with
        | zero =>
          go_wp2
          go_ret
          exact ⟨_, rfl, by rw [HE.out]; simpa [List.take_of_length_le, Wz.be_length] using hown1, hb⟩
        | succ c =>
          have ec : ((c + 1 : Nat) : Int) - 1 = (c : Int) := by omega
          rw [ec]
          obtain ⟨d, hZ, hd'⟩ : ∃ d : UInt8, bits .xor .u8 ((m : Int) / 2 ^ (8 * c) % 256) F = (d.toNat : Int) ∧ d = Wz.sgn n (UInt8.ofNat (m / 256 ^ c)) :=
            ⟨_, by rw [digit_byte, sgn_byte n F HF.out], rfl⟩
          have HD := Lib.hid hd'; clear hd'
          obtain ⟨l, hl⟩ : ∃ l, l = hd :: (((Wz.be k m).take (k - (c + 1))).map (Wz.sgn n)) := ⟨_, rfl⟩
          rw [← hl] at hown1
          have hlen : l.length < 140737488355328 := by subst hl; simp [Wz.be_length]; omega
          have HL := Lib.hid hl; clear hl
          have hbs := hb.size
          go_wp2_with (at_builtin; go_must (refine wpList_app8one _ rfl (.tmp 36) (.tmp 44) rfl wc.heap.size _ _ _ rfl hown1 rfl _ rfl hlen hbs ?_); intro v' w' h1 _ h3)
          go_roundg c
          case measure => omega
          case rel =>
            refine ⟨c, rfl, by omega, by omega, ?_, h3 _ _ (Nat.le_refl _) hb⟩
            rw [HL.out, HD.out] at h1
            have := Wz.be_take k m c (by omega)
            rw [← this]
            simpa using h1

/-- least significant first -/
def le : Nat → Nat → List UInt8
  | 0, _ => []
  | k + 1, m => le k m ++ [UInt8.ofNat (m / 256 ^ k)]
theorem le_length (k m : Nat) : (le k m).length = k := by
  induction k with
  | zero => rfl
  | succ k ih => simp [le, ih]
theorem le_get (k m j : Nat) (h : j < k) : (le k m)[j]? = some (UInt8.ofNat (m / 256 ^ j)) := by
  induction k with
  | zero => omega
  | succ k ih =>
    simp only [le]
    by_cases hj : j < k
    · rw [List.getElem?_append_left (by rw [le_length]; exact hj)]; exact ih hj
    · have : j = k := by omega
      subst this
      rw [List.getElem?_append_right (by rw [le_length]; omega), le_length]
      simp
theorem byte_mod (x : Nat) : ((x : Int) % 256) = ((UInt8.ofNat x).toNat : Int) := by rw [UInt8.toNat_ofNat']; omega

set_option maxRecDepth 100000 in
set_option maxHeartbeats 400000 in
theorem refint_calls (n : Int) (w : World) (h0 : -9223372036854775808 ≤ n) (h1 : n ≤ 9223372036854775807) :
    Calls Tryd.prog 107 #[.int .i64 n] w (RetB w (Wz.enc n)) := by
  have hM : (Wz.mag n : Int) ≤ 9223372036854775807 := by unfold Wz.mag; split <;> omega
  have HE := Lib.hid (Wz.enc_eq n h0 h1)
  obtain ⟨m, hm⟩ : ∃ m, Wz.mag n = m := ⟨_, rfl⟩
  rw [hm] at hM HE
  have HM := Lib.hid hm; clear hm
  go_enter Tryd.func107, Tryd.ntmps107
  go_upto_if 11 with (fail)
  go_cut [3] (fun s3 wc => s3 = .int .i64 (m : Int) ∧ w = wc)
  case first =>
    by_cases hn : n < 0
    · go_wp2
      go_meet
      exact ⟨by rw [← HM.out]; unfold Wz.mag; rw [if_neg (by omega)]; congr 1; omega, rfl⟩
    · go_wp2
      go_meet
      exact ⟨by rw [← HM.out]; unfold Wz.mag; rw [if_pos (by omega)]; congr 1; omega, rfl⟩
  case rest =>
    obtain ⟨rfl, rfl⟩ := hcut
    go_wp2
    go_loopg [3, 4] (Wz.klen m) (fun g x v wr => ∃ j : Nat, x = .int .i64 ((m / 256 ^ j : Nat) : Int) ∧ j + Wz.klen (m / 256 ^ j) = Wz.klen m ∧ Wz.klen (m / 256 ^ j) ≤ g ∧ Own8 wr w.heap.size v (le j m) ∧ Below w.heap.size w wr)
    case atStart => exact ⟨0, by simp, by simp, by simp, Own8.nil _ _, Below.refl _ _⟩
    case round =>
      obtain ⟨j, rfl, hj, hg, hown, hb⟩ := hrel
      have hk8 : Wz.klen m ≤ 8 := Wz.klen_le_of_lt 8 m (by omega)
      obtain ⟨x, hx⟩ : ∃ x, m / 256 ^ j = x := ⟨_, rfl⟩
      rw [hx] at hj hg ⊢
      have hxm : x ≤ m := by rw [← hx]; exact Nat.div_le_self _ _
      have HX := Lib.hid hx; clear hx
      by_cases h0 : x = 0
      · subst h0
        rw [Wz.klen_zero] at hj hg
        have hjk : j = Wz.klen m := by omega
        clear hj hg
        have HJ := Lib.hid hjk
        obtain ⟨A, cap, rfl, hnc, hcm, hrd⟩ := hown.slice
        rw [le_length] at hown hnc ⊢
        have hj8 : j ≤ 8 := by omega
        clear hjk hcm
        rw [← HJ.out] at HE
        go_upto_if 27 with (fail)
        obtain ⟨hd, hhd⟩ : ∃ hd : UInt8, hd = Wz.sgn n (UInt8.ofNat (128 + j)) := ⟨_, rfl⟩
        rw [← hhd] at HE
        go_cut [6] (fun v wx => Own8 wx wr.heap.size v [hd] ∧ Below wr.heap.size wr wx)
        case first =>
          by_cases hn : n < 0
          · have hX : (127 - (j : Int)) = (hd.toNat : Int) := by
              rw [hhd]; unfold Wz.sgn; rw [if_neg (by omega), sub255, ofNat8 _ (by omega)]; omega
            clear hhd
            go_wp2_with (at_builtin; go_must (refine wpList_app8one _ rfl (.tmp 34) (.tmp 38) rfl wr.heap.size _ _ _ rfl (Own8.nil _ _) rfl hd rfl (by decide) (Nat.le_refl _) ?_); intro v' w' h1 _ h3)
            go_meet
            exact ⟨h1, h3 _ _ (Nat.le_refl _) (Below.refl _ _)⟩
          · have hn0 : 0 ≤ n := by omega
            have hX : (128 + (j : Int)) = (hd.toNat : Int) := by
              rw [hhd]; unfold Wz.sgn; rw [if_pos hn0, ofNat8 _ (by omega)]; omega
            clear hhd
            go_wp2_with (at_builtin; go_must (refine wpList_app8one _ rfl (.tmp 28) (.tmp 32) rfl wr.heap.size _ _ _ rfl (Own8.nil _ _) rfl hd rfl (by decide) (Nat.le_refl _) ?_); intro v' w' h1 _ h3)
            go_meet
            exact ⟨h1, h3 _ _ (Nat.le_refl _) (Below.refl _ _)⟩
        case rest =>
          obtain ⟨ho, hbo⟩ := hcut
          clear hown hhd
          obtain ⟨w1, hw1⟩ : ∃ w1, wr = w1 := ⟨_, rfl⟩
          rw [hw1] at ho hbo hb hrd
          clear hw1
          go_wp2
          go_loopg [6, 7, 8] j (fun g v i _ wq => ∃ c : Nat, i = .int .i64 ((c : Int) - 1) ∧ c ≤ j ∧ c ≤ g ∧ Own8 wq w1.heap.size v (hd :: (((Wz.be j m).take (j - c)).map (Wz.sgn n))) ∧ Below w1.heap.size w1 wq)
          case atStart => exact ⟨j, rfl, by omega, by omega, by simpa using ho, hbo⟩
          case round =>
            obtain ⟨c, rfl, hck, hcg, hown1, hb1⟩ := hrel
            clear ho hbo
            cases c with
            | zero =>
              go_wp2
              go_ret
              exact ⟨_, rfl, by rw [HE.out]; exact (by simpa [List.take_of_length_le, Wz.be_length] using hown1 : Own8 _ _ _ _).rebase hb.size, below_then hb hb.size hb1⟩
            | succ c =>
              have ec : ((c + 1 : Nat) : Int) - 1 = (c : Int) := by omega
              rw [ec]
              have hrd1 := hrd.below hb1
              obtain ⟨b, o, hA, hcell⟩ := hrd1 (by simp [u8s_length, le_length]; omega)
              subst hA
              have hdig := hcell c _ (u8s_at (by rw [le_length]; omega))
              have hdg : (le j m).getD c 0 = UInt8.ofNat (m / 256 ^ c) := by simp [List.getD, le_get j m c (by omega)]
              rw [hdg] at hdig
              obtain ⟨d, hd0⟩ : ∃ d, UInt8.ofNat (m / 256 ^ c) = d := ⟨_, rfl⟩
              rw [hd0] at hdig
              have HB := Lib.hid (Wz.be_take j m c (by omega))
              rw [hd0] at HB
              clear hdg hd0 hcell hrd hrd1
              obtain ⟨l, hl⟩ : ∃ l, l = hd :: (((Wz.be j m).take (j - (c + 1))).map (Wz.sgn n)) := ⟨_, rfl⟩
              rw [← hl] at hown1
              have hlen : l.length < 140737488355328 := by subst hl; simp [Wz.be_length]; omega
              have HL := Lib.hid hl; clear hl
              have hbs := hb1.size
              have hdr := u8_lt d
              obtain ⟨d', hd'⟩ : ∃ d', d' = Wz.sgn n d := ⟨_, rfl⟩
              have hfin : ∀ v' w', Own8 w' w1.heap.size v' (l ++ [d']) → Own8 w' w1.heap.size v' (hd :: (((Wz.be j m).take (j - c)).map (Wz.sgn n))) := by
                intro v' w' h
                rw [HL.out, hd'] at h
                rw [← HB.out]
                simpa using h
              have HF := Lib.hid hfin; clear hfin
              by_cases hn : n < 0
              · have hX : 255 - (d.toNat : Int) = (d'.toNat : Int) := by
                  rw [hd']; unfold Wz.sgn; rw [if_neg (by omega), UInt8.toNat_sub_of_le]
                  · have : (255 : UInt8).toNat = 255 := rfl
                    omega
                  · rw [UInt8.le_iff_toNat_le]
                    have : (255 : UInt8).toNat = 255 := rfl
                    omega
                clear hd'
                go_wp2_with (at_builtin; go_must (refine wpList_app8one _ rfl (.tmp 54) (.tmp 56) rfl w1.heap.size _ _ _ rfl hown1 rfl d' rfl hlen hbs ?_); intro v' w' h1 _ h3)
                go_roundg c
                case measure => omega
                case rel => exact ⟨c, rfl, by omega, by omega, HF.out _ _ h1, h3 _ _ (Nat.le_refl _) hb1⟩
              · have hd2 : d' = d := by rw [hd']; unfold Wz.sgn; rw [if_pos (by omega)]
                subst hd2
                clear hd'
                go_wp2_with (at_builtin; go_must (refine wpList_app8one _ rfl (.tmp 54) (.tmp 56) rfl w1.heap.size _ _ _ rfl hown1 rfl d' rfl hlen hbs ?_); intro v' w' h1 _ h3)
                go_roundg c
                case measure => omega
                case rel => exact ⟨c, rfl, by omega, by omega, HF.out _ _ h1, h3 _ _ (Nat.le_refl _) hb1⟩
      · have hk := Wz.klen_pos h0
        have hjl := le_length j m
        have hlen : (le j m).length < 140737488355328 := by omega
        clear hjl
        have HKK := Lib.hid hk; clear hk
        have HJ := Lib.hid hj; clear hj
        have HG := Lib.hid hg; clear hg
        obtain ⟨d, hb8, hd⟩ : ∃ d : UInt8, ((x : Int) % 256) = (d.toNat : Int) ∧ d = UInt8.ofNat x := ⟨_, byte_mod x, rfl⟩
        have HD := Lib.hid hd; clear hd
        have hbs := hb.size
        go_wp2_with (at_builtin; go_must (refine wpList_app8one _ rfl (.tmp 16) (.tmp 20) rfl w.heap.size _ _ _ rfl hown rfl d rfl hlen hbs ?_); intro v' w' h1 _ h3)
        go_roundg (gk - 1)
        case measure => have := HG.out; have := HKK.out; omega
        case rel =>
          have e1 : m / 256 ^ (j + 1) = x / 256 := by rw [Nat.pow_succ, ← Nat.div_div_eq_div_mul, HX.out]
          refine ⟨j + 1, by rw [e1]; congr 1, ?_, ?_, ?_, h3 _ _ (Nat.le_refl _) hb⟩
          · rw [e1]; have := HJ.out; have := HKK.out; omega
          · rw [e1]; have := HG.out; have := HKK.out; omega
          · show Own8 w' w.heap.size v' (le j m ++ [UInt8.ofNat (m / 256 ^ j)])
            rw [HX.out, ← HD.out]; exact h1

end Go.Proofs.YtcjeclddpkinkaaDoor
