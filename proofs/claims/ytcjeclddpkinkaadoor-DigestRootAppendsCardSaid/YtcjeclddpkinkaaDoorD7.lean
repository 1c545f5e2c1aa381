/- SHA-256: the contract of digest.Sum. -/
import Derived.Test.YtcjeclddpkinkaaDoorD6
set_option linter.unusedSimpArgs false
set_option linter.unusedVariables false
namespace Go.Proofs.YtcjeclddpkinkaaDoor
open Go.RowKit Go.Shelf
attribute [local go_sem] Oper.semAt_some

/-- the blocks, one after the other -/
def stL (P : List UInt8) {K : Nat} (pre : List (Fin K)) : St := pre.foldl (fun s k => comp s (blk P k.1)) (shaSt P 0)
theorem stL_snoc (P : List UInt8) {K : Nat} (pre : List (Fin K)) (x : Fin K) : stL P (pre ++ [x]) = comp (stL P pre) (blk P x.1) := by simp [stL]
theorem stL_take (P : List UInt8) (K : Nat) : ∀ k, k ≤ K → stL P ((List.finRange K).take k) = shaSt P k
  | 0, _ => by rw [List.take_zero]; rfl
  | k + 1, h => by
    have hk : (List.finRange K)[k]? = some ⟨k, h⟩ := by
      rw [List.getElem?_eq_getElem (by rw [List.length_finRange]; omega), List.getElem_finRange]; rfl
    rw [List.take_add_one, hk]
    simp only [Option.toList_some]
    rw [stL_snoc, stL_take P K k (by omega), shaSt]
theorem stL_all (P : List UInt8) (K : Nat) : stL P (List.finRange K) = shaSt P K := by
  have := stL_take P K K (Nat.le_refl _)
  rwa [List.take_of_length_le (by simp)] at this

/-- the frame at the start of a round: the value, in the loop's slot and in the variable's -/
abbrev rngAct (a : Act) (p q : Tmp) (v : Value) : Act := { tmps := (a.tmps.setIfInBounds p v).setIfInBounds q v, defers := [] }
theorem wpIn_range_one {n : Nat} {P : Program} {α : Type} {g : Operand} {p q : Tmp} {assign body : Code} {Q : Exit → Act → World → Prop} {a : Act} {w : World}
    (h1 : 1 ≤ n) {gf : Nat} {lb : Array Value} (hg : a.eval g = .func (.func gf) #[] lb) (eg : ∀ args w, (callFunc gf args).run P w = .ok (.enter gf args) w)
    {enc : α → Value} {Kp : World → World → Prop} {S Sp : List α → Prop} {N : Nat} (hseq : SeqStopsK Fence.wide (n - 1) P gf lb (fun x => #[enc x]) Kp S Sp N w)
    (hKt : ∀ {A B C : World}, Kp A B → Kp B C → Kp A C) (hKb : ∀ (W : World) (l : Nat) (o o' : Obj), w.heap.size ≤ l → W.heap[l]? = some o → o.isCells = false → o.isWalk = false → Kp W (W.putObj l o'))
    (I : List α → World → Prop) (hI : OwnFrom w.heap.size I) (h0 : I [] w)
    (hassign : ∀ (l : Nat) (x : α) (W : World) (K : Act → World → Prop), K (rngAct a p q (enc x)) W →
      assign.wpIn (Fence.wide.inRound l) (n - 1 - 1) P (Exit.then K (fun _ _ _ => False)) { tmps := a.tmps.setIfInBounds p (enc x), defers := [] } W)
    (hbody : ∀ (l : Nat) (pre : List α) (x : α) (W : World), I pre W → pre.length < N → body.wpIn (Fence.wide.inRound l) (n - 1 - 1) P (ownPostG w.heap.size Kp I (fun _ _ _ => False) (pre ++ [x]) W) (rngAct a p q (enc x)) W)
    (hdone : ∀ (D : Nat) (xs : List α) (W : World), w.heap.size ≤ D → S xs → I xs W → W.heap[D]? = some (.deferred (some [])) → Q .normal { a with defers := { target := .collected D, args := #[] } :: a.defers } W) :
    (Code.rangeFunc g #[p] assign body).wpIn Fence.wide n P Q a w :=
  wpIn_rangeFunc_ownG rfl h1 hg trivial eg hseq hKt hKb (Below.refl _ _) (fun _ => rfl) I (fun _ _ _ => False) hI (fun _ _ _ _ _ hs _ _ => hs) h0 (fun x => rngAct a p q (enc x)) (fun l x W K hK => by simpa using hassign l x W K hK) hbody hdone (fun _ _ _ _ _ _ h _ => h.elim)

theorem own8_split {w : World} {base : Nat} {v : Value} {l : List UInt8} {M : Nat} (h : Own8 w base v l) (hl : l.length = M) (h0 : 0 < M) :
    ∃ b cm, v = .slice (some ⟨b, 0, none⟩) M cm ∧ base ≤ b ∧ M ≤ cm ∧ cm ≤ maxLen ∧ Rd w (some ⟨b, 0, none⟩) (u8s l) ∧ b < w.heap.size := by
  obtain ⟨A', c', e1, e2, e3, e4⟩ := h.slice
  rcases h.2 with ⟨rfl, hx⟩ | ⟨g, cap, cur, h1, h2, h3, h4, h5, h6, h7⟩
  · omega
  · rw [h1] at e1 ⊢
    simp only [Value.slice.injEq] at e1
    obtain ⟨rfl, e5, rfl⟩ := e1
    rw [hl] at e2 ⊢
    exact ⟨g, cap, rfl, h2, e2, e3, e4, (Array.getElem?_eq_some_iff.1 h3).1⟩

set_option maxRecDepth 100000 in
set_option maxHeartbeats 1000000 in
/-- digest.Sum -/
theorem sum_calls (A : Option Addr) (N c : Nat) (l : List UInt8) (w : World) (hr : Rd w A (u8s l)) (hl : l.length = N) (hN : N ≤ 100000000000) (hG : Glo w) :
    Calls Tryd.prog 24 #[.slice A N c] w (fun e w' => e = .returned (.agg (u8s (sha l)).toArray) ∧ Ext w w') := by
  have hml := padF_length l
  have hmm := padF_mod l
  rw [hl] at hml
  have hm64 : (padF l).length ≤ 100000000100 := by rw [hml]; unfold zpad; omega
  have hm0 : 64 ≤ (padF l).length := by rw [hml]; unfold zpad; omega
  have HSH : Hid (sha l = outF (shaSt (padF l) ((padF l).length / 64)).l) := Lib.hid rfl
  have HPC := fun w hr => clone8_calls A N c l w hr hl hN
  have HL := Lib.hid hl
  have HP : Hid (padF l = l ++ [128] ++ List.replicate (zpad N) 0 ++ Wz.be 8 (8 * N)) := Lib.hid (by unfold padF; rw [hl])
  have hz : zpad N = (119 - N % 64) % 64 := rfl
  obtain ⟨z, hzz⟩ : ∃ z, zpad N = z := ⟨_, rfl⟩
  rw [hzz] at HP hz
  obtain ⟨P, hP⟩ : ∃ P, padF l = P := ⟨_, rfl⟩
  rw [hP] at hmm hm64 HSH hm0 HP
  obtain ⟨M, hM⟩ : ∃ M, P.length = M := ⟨_, rfl⟩
  rw [hM] at hmm hm64 HSH hm0
  have HM := Lib.hid hM
  have HC := Lib.hid HPC
  have HMM := Lib.hid hmm
  have HZ := Lib.hid hz
  have hz64 : z < 64 := by omega
  clear hl hml hP hM HPC hmm hzz hz
  refine callsIn_wide.1 (show CallsIn Fence.wide 8 _ _ _ _ _ from ?_)
  refine callsIn_of_wp_marks Tryd.func24 rfl trivial ?_ rfl
  simp only [Tryd.ntmps24, List.size_toArray, List.length_cons, List.length_nil, Nat.reduceAdd, Nat.reduceSub, Array.replicate_succ, Array.replicate_zero, List.push_toArray, List.append_toArray, List.nil_append, List.cons_append]
  refine wpIn_wide.2 ?_
  let tk := bodyPost Tryd.prog Tryd.f24 (fun _ _ => True)
  go_upto_region 1 with fail
  generalize hW0 : w.alloc _ = W0
  have E0 : Ext w W0 := hW0 ▸ (Ext.refl w).alloc _
  have R0 : Blk W0 w.heap.size 41 (u8s (List.replicate 32 0)) := hW0 ▸ Blk.new w (u8s (List.replicate 32 0)) 41
  have Z0 : W0.heap.size = w.heap.size + 1 := by rw [← hW0]; simp
  clear hW0
  have HC0 := Lib.hid (HC.out W0 (hr.ext E0))
  have HE0 := Lib.hid E0
  have HR0 := Lib.hid R0
  obtain ⟨n, hn⟩ : ∃ n, w.heap.size = n := ⟨_, rfl⟩
  have HNn := Lib.hid hn
  simp only [hn] at HR0 Z0 ⊢
  have HZ0 := Lib.hid Z0
  have hG3 : 3 ≤ n := by have := hG.lt; have := HNn.out; omega
  clear E0 R0 Z0 HC hr hn
  go_upto_block 0 with (first
    | ((with_reducible refine HC0.out.mono ?_); rintro e w1 ⟨v, rfl, ho, hb⟩; have hs1 := hb.size)
    | ((with_reducible show wpList _ _ _ (⟨some 13, _, _, _, _, _⟩ :: _) _ _); go_must (refine wpList_app8one _ rfl (.tmp 11) (.tmp 12) rfl W0.heap.size _ _ _ rfl ho rfl 128 rfl (by rw [HL.out]; omega) hs1 ?_); intro v2 w2 ho2 hg2 hb2; have B2 := hb2 _ _ (Nat.le_refl _) hb; clear hg2 hb2 hb ho)
    | fail)
  have hs2 := B2.size
  have HB2 := Lib.hid B2
  have HO2 := Lib.hid ho2
  clear B2 ho2 hs1 HC0
  go_cut [3] (fun v wc => ∃ A' c', v = .slice A' (N + 1 + z) c' ∧ Hid (Own8 wc W0.heap.size v (l ++ [128] ++ List.replicate z 0) ∧ Below W0.heap.size W0 wc))
  case first =>
    go_wp2_with fail
    go_loopg [3] (z + 1) (fun g v wr => ∃ j : Nat, j ≤ z ∧ z - j + 1 ≤ g ∧ Own8 wr W0.heap.size v (l ++ [128] ++ List.replicate j 0) ∧ Below W0.heap.size W0 wr)
    case atStart => exact ⟨0, by omega, by omega, by simpa using HO2.out, HB2.out⟩
    case round =>
      obtain ⟨j, hj, hg, ho, hb⟩ := hrel
      obtain ⟨A', c', rfl, hc', hm', hr'⟩ := ho.slice
      have hlen : (l ++ [128] ++ List.replicate j 0).length = N + 1 + j := by rw [List.length_append, List.length_append, List.length_replicate, HL.out]; rfl
      rw [hlen] at ho hc' ⊢
      have HO := Lib.hid ho
      have HLEN := Lib.hid hlen
      clear ho hlen hr'
      by_cases hjz : j = z
      · have hd : (((N : Int) + 1 + (j : Int)) % 64 != 56) = false := by
          have := HZ.out
          rw [bne_eq_false_iff_eq]; omega
        subst hjz
        go_wp2_with fail
        go_meet
        case rel => exact ⟨A', c', rfl, Lib.hid ⟨HO.out, hb⟩⟩
      · have hd : (((N : Int) + 1 + (j : Int)) % 64 != 56) = true := by
          have := HZ.out
          rw [bne_iff_ne]; omega
        have hbs := hb.size
        go_wp2_with (first
          | ((with_reducible show wpList _ _ _ (⟨some 20, _, _, _, _, _⟩ :: _) _ _); go_must (refine wpList_app8one _ rfl (.tmp 18) (.tmp 19) rfl W0.heap.size _ _ _ rfl HO.out rfl 0 rfl (by rw [HLEN.out]; omega) hbs ?_); intro v3 w3 ho3 hg3 hb3; have B3 := hb3 _ _ (Nat.le_refl _) hb; clear hg3 hb3))
        go_roundg (z - (j + 1) + 1)
        case measure => omega
        case rel =>
          refine ⟨j + 1, by omega, by omega, ?_, B3⟩
          rw [List.append_assoc] at ho3
          have e : List.replicate j 0 ++ [0] = List.replicate (j + 1) (0 : UInt8) := by rw [List.replicate_succ']
          rw [e] at ho3
          exact ho3
  case rest =>
    obtain ⟨A1, c1, rfl, HC⟩ := hcut
    have hlen : (l ++ [128] ++ List.replicate z 0).length = N + 1 + z := by rw [List.length_append, List.length_append, List.length_replicate, HL.out]; rfl
    obtain ⟨M', hM'⟩ : ∃ M, l ++ [128] ++ List.replicate z 0 = M := ⟨_, rfl⟩
    rw [hM'] at HC HP hlen
    have hlen2 : M'.length ≤ 100000000065 := by omega
    have HM' := Lib.hid hlen
    clear hM' hlen HB2 HO2 hs2
    go_upto_block 2 with fail
    go_cut [3] (fun v wc => ∃ b cm, v = .slice (some ⟨b, 0, none⟩) M cm ∧ n + 1 ≤ b ∧ M ≤ cm ∧ cm ≤ maxLen ∧ b < wc.heap.size ∧ Hid (Rd wc (some ⟨b, 0, none⟩) (u8s P) ∧ Below W0.heap.size W0 wc))
    case first =>
      go_wp2_with fail
      go_loopg [3, 25] 8 (fun g v i wr => ∃ j : Nat, i = .int .i64 (j : Int) ∧ j ≤ 8 ∧ 8 - j ≤ g ∧ Own8 wr W0.heap.size v (M' ++ (Wz.be 8 (8 * N)).take j) ∧ Below W0.heap.size W0 wr)
      case atStart => exact ⟨0, rfl, by omega, by omega, by simpa using HC.out.1, HC.out.2⟩
      case round =>
        obtain ⟨j, rfl, hj, hg, ho, hb⟩ := hrel
        have HO := Lib.hid ho
        by_cases hj8 : j < 8
        · have hbs := hb.size
          have HN := Lib.hid (Wz.be_take 8 (8 * N) (7 - j) (by omega))
          rw [show 8 - (7 - j + 1) = j from by omega, show 8 - (7 - j) = j + 1 from by omega] at HN
          have hx := pad_shift (8 * N) j hj8
          rw [show (((8 * N : Nat) : Int)) = (N : Int) * 8 from by omega] at hx
          obtain ⟨d, hd⟩ : ∃ d, UInt8.ofNat (8 * N / 256 ^ (7 - j)) = d := ⟨_, rfl⟩
          rw [hd] at hx HN
          have hlj : (M' ++ (Wz.be 8 (8 * N)).take j).length < 140737488355328 := by rw [List.length_append, List.length_take, Wz.be_length]; omega
          clear hd ho
          go_wp2_with (first
            | ((with_reducible show wpList _ _ _ (⟨some 36, _, _, _, _, _⟩ :: _) _ _); go_must (refine wpList_app8one _ rfl (.tmp 28) (.tmp 35) rfl W0.heap.size _ _ _ rfl HO.out rfl d rfl hlj hbs ?_); intro v3 w3 ho3 hg3 hb3; have B3 := hb3 _ _ (Nat.le_refl _) hb; clear hg3 hb3))
          go_roundg (8 - (j + 1))
          case measure => omega
          case rel =>
            refine ⟨j + 1, by go_num, by omega, by omega, ?_, B3⟩
            rw [List.append_assoc, HN.out] at ho3
            exact ho3
        · have hj8' : j = 8 := by omega
          subst hj8'
          go_wp2_with fail
          go_meet
          case rel =>
            rw [List.take_of_length_le (by rw [Wz.be_length]; exact Nat.le_refl _), ← HP.out] at ho
            obtain ⟨b, cm, rfl, q1, q2, q3, q4, q5⟩ := own8_split ho HM.out (by omega)
            rw [HZ0.out] at q1
            exact ⟨b, cm, rfl, q1, q2, q3, q5, Lib.hid ⟨q4, hb⟩⟩
    case rest =>
      clear HC
      obtain ⟨b, cm, rfl, hb1, hMc, hcm, hbl, HB⟩ := hcut
      have HG : Hid (Glo wc) := Lib.hid (hG.ext (HE0.out.trans HB.out.2))
      have HS0 : us H0 = us (shaSt P 0).l := rfl
      go_upto_region 11 with (first
        | ((with_reducible show wpList _ _ _ (⟨some 38, _, _, _, _, _⟩ :: _) _ _); go_must (refine wpList_loadAgg agg_8 wc rfl (.global 0) rfl 0 0 rfl (us (shaSt P 0).l) rfl HG.out.start ?_))
        | ((with_reducible show wpList _ _ _ (⟨Option.none, .store _ (.tmp 6) _, _, _, _, _⟩ :: _) _ _); go_must (refine wpList_storeNew agg_8 wc _ 134 rfl (.tmp 6) (.tmp 38) rfl rfl (us (shaSt P 0).l) rfl rfl rfl (us_one _) ?_))
        | fail)
      have HS1 : Hid (Blk (wc.alloc (Obj.cells (us (shaSt P 0).l).toArray 134)) wc.heap.size 134 (us (shaSt P 0).l) ∧ Ext wc (wc.alloc (Obj.cells (us (shaSt P 0).l).toArray 134))) := Lib.hid ⟨Blk.new _ _ _, (Ext.refl wc).alloc _⟩
      have hz1 : (wc.alloc (Obj.cells (us (shaSt P 0).l).toArray 134)).heap.size = wc.heap.size + 1 := by simp
      generalize wc.alloc (Obj.cells (us (shaSt P 0).l).toArray 134) = w4 at HS1 hz1 ⊢
      have hnc : n + 1 ≤ wc.heap.size := by omega
      generalize hsb : wc.heap.size = sB at HS1 hz1 hbl hnc ⊢
      have HSB := Lib.hid hsb
      clear hsb HS0
      go_upto_block 4 with ((with_reducible refine (chunk_calls _ _ _ _).mono ?_); rintro e w5 ⟨rfl, rfl⟩)
      have BX := Boxed.new w4 34 (.slice (some ⟨b, 0, none⟩) M cm)
      have BY := Boxed.new (w4.alloc (Obj.cells #[.slice (some ⟨b, 0, none⟩) M cm] 34)) 3 (.int .i64 64)
      rw [World.size_alloc] at BY
      have HW5 : Hid (Boxed ((w4.alloc (Obj.cells #[.slice (some ⟨b, 0, none⟩) M cm] 34)).alloc (Obj.cells #[.int .i64 64] 3)) (sB + 1) 34 (.slice (some ⟨b, 0, none⟩) M cm) ∧ Boxed ((w4.alloc (Obj.cells #[.slice (some ⟨b, 0, none⟩) M cm] 34)).alloc (Obj.cells #[.int .i64 64] 3)) (sB + 2) 3 (.int .i64 64) ∧ Ext w4 ((w4.alloc (Obj.cells #[.slice (some ⟨b, 0, none⟩) M cm] 34)).alloc (Obj.cells #[.int .i64 64] 3))) :=
        Lib.hid ⟨by rw [← hz1]; exact BX.alloc _, by rw [show sB + 2 = w4.heap.size + 1 from by omega]; exact BY, ((Ext.refl w4).alloc _).alloc _⟩
      have hz5 : ((w4.alloc (Obj.cells #[.slice (some ⟨b, 0, none⟩) M cm] 34)).alloc (Obj.cells #[.int .i64 64] 3)).heap.size = sB + 3 := by simp; omega
      generalize (w4.alloc (Obj.cells #[.slice (some ⟨b, 0, none⟩) M cm] 34)).alloc (Obj.cells #[.int .i64 64] 3) = w5 at HW5 hz5 ⊢
      clear BX BY
      rw [show sB + 1 + 1 = sB + 2 from rfl]
      have HF : Hid (Rd w5 (some ⟨b, 0, none⟩) (u8s P) ∧ Blk w5 n 41 (u8s (List.replicate 32 0)) ∧ Blk w5 sB 134 (us (shaSt P 0).l) ∧ Ext w w5 ∧ Glo w5) := by
        have X : Ext wc w5 := HS1.out.2.trans HW5.out.2.2
        have Y : Ext w wc := HE0.out.trans HB.out.2
        exact Lib.hid ⟨HB.out.1.ext X, ((HR0.out.below HB.out.2).below X), HS1.out.1.below HW5.out.2.2, Y.trans X, HG.out.ext X⟩
      have HK : Hid (64 * (M / 64) = M) := Lib.hid (by have := HMM.out; omega)
      clear HB HG HS1 hz1 HSB
      go_wp2_with fail
      refine (wpIn_wide (n := 8)).1 ?_
      refine wpIn_range_one (p := 41) (q := 7) (by decide) (gf := 130) (lb := #[.pointer (some ⟨sB + 1, 0, none⟩), .pointer (some ⟨sB + 2, 0, none⟩)]) rfl (enters_of Tryd.func130 (by kernel_rfl) rfl)
        (enc := fun x : Fin (M / 64) => .slice (some ⟨b, 64 * x.1, none⟩) 64 64)
        (chunk_stops 7 (by decide) b M cm (M / 64) (sB + 1) (sB + 2) (by rw [HK.out]) hMc hcm (by omega) w5 HW5.out.1 HW5.out.2.1) KpC.trans (KpC.putObj (by omega) (by omega))
        (fun pre W => w5.grownBy W (some sB) ∧ Blk W sB 134 (us (stL P pre).l))
        (OwnFrom.and (ownFrom_grown (Nat.le_refl _)) (Own.from (blk_own sB 134 (fun pre => us (stL P pre).l)) _))
        ⟨World.grownBy.refl _ _, HF.out.2.2.1⟩ ?assign ?body ?done
      case assign =>
        intro l x W K hK
        gi_wp2
        exact hK
      case body =>
        rintro l pre x W ⟨hg, hB⟩ hlt
        have hx : 64 * x.1 + 64 ≤ M := by have := x.2; omega
        have hrx : Rd W (some ⟨b, 64 * x.1, none⟩) (u8s (blk P x.1)) := by
          have h1 := (HF.out.1.of_block (w' := W) fun b' _ e _ => by
            simp only [Option.some.injEq, Addr.mk.injEq] at e
            rw [← e.1]
            exact hg.block b (by omega) (by simp; omega)).part (64 * x.1) 64
          rw [Option.map_some, Addr.add_lit, Nat.zero_add] at h1
          have e : ((u8s P).drop (64 * x.1)).take 64 = u8s (blk P x.1) := by simp [u8s, blk]
          rwa [e] at h1
        have hbl64 : (blk P x.1).length = 64 := by unfold blk; rw [List.length_take, List.length_drop, HM.out]; omega
        have HGW : Glo W := by
          have hk : ∀ k, k < 3 → W.heap[k]? = w5.heap[k]? := fun k hk => hg.block k (by omega) (by simp; omega)
          exact ⟨fun j v h => (cell_same (hk 0 (by omega))).trans (HF.out.2.2.2.2.start j v h), fun j v h => (cell_same (hk 2 (by omega))).trans (HF.out.2.2.2.2.progc j v h)⟩
        have HCC := Lib.hid (compress_calls (stL P pre) (some ⟨b, 64 * x.1, none⟩) 64 (blk P x.1) W hrx hbl64 (Nat.le_refl _) HGW)
        have HSN := Lib.hid (stL_snoc P pre x)
        have HGG := Lib.hid hg
        have HBB := Lib.hid hB
        clear hg hB hrx hbl64 HGW
        refine wpIn_block ?_
        refine wpIn_round_list (by kernel_rfl) (by rintro ⟨a, w, h⟩; exact h) ?_
        go_wp2_with (first
          | ((with_reducible show wpList _ _ _ (⟨some 42, _, _, _, _, _⟩ :: _) _ _); go_must (refine wpList_loadAgg agg_8 W rfl (.tmp 6) rfl sB 0 rfl (us (stL P pre).l) rfl HBB.out.agg ?_))
          | ((with_reducible refine HCC.out.mono ?_); rintro e W1 ⟨rfl, hb3⟩)
          | ((with_reducible show wpList _ _ _ (⟨Option.none, .store _ (.tmp 6) _, _, _, _, _⟩ :: _) _ _); go_must (refine wpList_storeBlk agg_8 W1 sB 134 _ (HBB.out.below hb3) rfl (.tmp 6) (.tmp 44) rfl rfl (us (comp (stL P pre) (blk P x.1)).l) rfl rfl rfl (us_one _) ?_); intro W2 hB2 hg2)
          | fail)
        have BW1 := HBB.out.below hb3
        refine ⟨((keepsO_ext hb3).trans (keepsO_blk BW1 hg2)).from _, ⟨?_, ?_⟩, ?_, ?_⟩
        · have h1 := HGG.out.size
          exact (hg2.block (sB + 1) (Nat.lt_of_lt_of_le (by omega) hb3.size) (by simp)).trans (hb3.block (sB + 1) (by omega))
        · have h1 := HGG.out.size
          exact (hg2.block (sB + 2) (Nat.lt_of_lt_of_le (by omega) hb3.size) (by simp)).trans (hb3.block (sB + 2) (by omega))
        · exact grownBy_trans (grownBy_trans HGG.out (grownBy_below hb3 _)) hg2
        · rw [HSN.out]
          exact hB2
      case done =>
        rintro D ys W hD rfl ⟨hg, hB⟩ hK
        rw [stL_all] at hB
        have HLo : Hid (∀ j : Nat, j < 32 → (outF (shaSt P (M / 64)).l)[j]? = some (outB (shaSt P (M / 64)).l j)) := Lib.hid (fun j hj => by simp [outF, hj])
        have hol := outF_length (shaSt P (M / 64)).l
        have hLl : (shaSt P (M / 64)).l.length = 8 := rfl
        obtain ⟨L, hL⟩ : ∃ L, (shaSt P (M / 64)).l = L := ⟨_, rfl⟩
        rw [hL] at HLo hol hLl HSH hB
        have HOL := Lib.hid hol
        clear hL hol
        have hDW : D < W.heap.size := (Array.getElem?_eq_some_iff.1 hK).1
        have HWF : Hid (Blk W n 41 (u8s (List.replicate 32 0)) ∧ Blk W sB 134 (us L) ∧ Ext w W ∧ W.heap[D]? = some (.deferred (some []))) :=
          Lib.hid ⟨HF.out.2.1.grown hg (by simp; omega), hB, Below.grown HF.out.2.2.2.1 hg HF.out.2.2.2.1.size (fun k hk => by have := Option.some.inj hk; have := HNn.out; omega), hK⟩
        have hsBW : sB < W.heap.size := hB.lt
        clear hg hB hK HW5 HF
        go_wp2_with fail
        have HV : Hid (Blk (W.alloc (Obj.cells (u8s (List.replicate 32 0)).toArray 41)) n 41 (u8s (List.replicate 32 0)) ∧ Blk (W.alloc (Obj.cells (u8s (List.replicate 32 0)).toArray 41)) sB 134 (us L) ∧ Ext w (W.alloc (Obj.cells (u8s (List.replicate 32 0)).toArray 41)) ∧ (W.alloc (Obj.cells (u8s (List.replicate 32 0)).toArray 41)).heap[D]? = some (.deferred (some [])) ∧ Blk (W.alloc (Obj.cells (u8s (List.replicate 32 0)).toArray 41)) W.heap.size 41 (u8s (List.replicate 32 0))) :=
          Lib.hid ⟨HWF.out.1.alloc _, HWF.out.2.1.alloc _, HWF.out.2.2.1.alloc _, (Below.heap_alloc _ _ _ hDW).trans HWF.out.2.2.2, Blk.new W _ 41⟩
        have hwd : W.alloc (Obj.cells (u8s (List.replicate 32 0)).toArray 41) = W.alloc (Obj.cells #[Value.int IntKind.u8 0, Value.int IntKind.u8 0, Value.int IntKind.u8 0, Value.int IntKind.u8 0,
          Value.int IntKind.u8 0, Value.int IntKind.u8 0, Value.int IntKind.u8 0, Value.int IntKind.u8 0,
          Value.int IntKind.u8 0, Value.int IntKind.u8 0, Value.int IntKind.u8 0, Value.int IntKind.u8 0,
          Value.int IntKind.u8 0, Value.int IntKind.u8 0, Value.int IntKind.u8 0, Value.int IntKind.u8 0,
          Value.int IntKind.u8 0, Value.int IntKind.u8 0, Value.int IntKind.u8 0, Value.int IntKind.u8 0,
          Value.int IntKind.u8 0, Value.int IntKind.u8 0, Value.int IntKind.u8 0, Value.int IntKind.u8 0,
          Value.int IntKind.u8 0, Value.int IntKind.u8 0, Value.int IntKind.u8 0, Value.int IntKind.u8 0,
          Value.int IntKind.u8 0, Value.int IntKind.u8 0, Value.int IntKind.u8 0, Value.int IntKind.u8 0] 41) := rfl
        simp only [← hwd]
        clear hwd HWF
        generalize W.alloc (Obj.cells (u8s (List.replicate 32 0)).toArray 41) = wd at HV ⊢
        generalize W.heap.size = o at HV hDW hsBW ⊢
        go_loopg [45] 32 (fun g i wr => ∃ j : Nat, i = .int .i64 (j : Int) ∧ j ≤ 32 ∧ 32 - j ≤ g ∧ Hid (wd.grownBy wr (some o) ∧ Blk wr o 41 (u8s ((outF L).take j ++ List.replicate (32 - j) 0))))
        case atStart => exact ⟨0, rfl, by omega, by omega, Lib.hid ⟨World.grownBy.refl _ _, HV.out.2.2.2.2⟩⟩
        case round =>
          obtain ⟨j, rfl, hj, hjg, HI⟩ := hrel
          by_cases hj32 : j < 32
          · have hd : decide ((j : Int) < 32) = true := decide_eq_true (by omega)
            have b0 := ((HV.out.2.1.grown HI.out.1 (by simp; omega)).cell (j / 4)).trans (us_blk8 (j / 4) L hLl (by omega))
            have f0 := HI.out.2.free j
            have hc0 : wr.cell? ⟨o, j, none⟩ = some (.int .u8 0) := by
              rw [HI.out.2.cell]
              simp only [u8s, List.getElem?_map]
              rw [List.getElem?_append_right (by rw [List.length_take, HOL.out]; omega), List.length_take, HOL.out, show j - min j 32 = 0 from by omega, show 32 - j = (32 - j - 1) + 1 from by omega, List.replicate_succ]
              rfl
            have HO := Lib.hid (HLo.out j hj32)
            obtain ⟨d, hdd⟩ : ∃ d, outB L j = d := ⟨_, rfl⟩
            rw [hdd] at HO
            unfold outB at hdd
            obtain ⟨x, hx⟩ : ∃ x, L.getD (j / 4) 0 = x := ⟨_, rfl⟩
            rw [hx] at b0 hdd
            have s1 := shr32 x (24 - 8 * (j % 4)) (by omega)
            have s2 : ((sr x (24 - 8 * (j % 4))).toNat : Int) % 256 = (d.toNat : Int) := by
              rw [← hdd, UInt8.toNat_ofNat']; omega
            clear hx hdd
            go_wp2_with fail
            go_roundg (32 - (j + 1))
            case measure => omega
            case rel =>
              refine ⟨j + 1, by go_num, by omega, by omega, Lib.hid ⟨grownBy_trans HI.out.1 (grownBy_setCell _ _ _ _), ?_⟩⟩
              have h1 := HI.out.2.set j (.int .u8 (d.toNat : Int))
              rw [← u8s_set, fill_set HOL.out hj32 HO.out] at h1
              exact h1
          · have hj8' : j = 32 := by omega
            subst hj8'
            have hd : decide ((((32 : Nat) : Int)) < 32) = false := by decide
            have hB := HI.out.2
            rw [Nat.sub_self, List.replicate_zero, List.append_nil, List.take_of_length_le (by rw [HOL.out]; exact Nat.le_refl _)] at hB
            have HB := Lib.hid hB
            have HNB := Lib.hid (HV.out.1.grown HI.out.1 (by simp; omega))
            clear hB
            go_wp2_with (first
              | ((with_reducible show wpList _ _ _ (⟨some 61, _, _, _, _, _⟩ :: _) _ _); go_must (refine wpList_loadAgg agg_32 wr rfl (.tmp 8) rfl o 0 rfl (u8s (outF L)) (by rw [u8s_length, HOL.out]) HB.out.agg ?_))
              | ((with_reducible show wpList _ _ _ (⟨Option.none, _, _, _, _, _⟩ :: _) _ _); go_must (refine wpList_storeBlk agg_32 wr n 41 _ HNB.out rfl (.tmp 2) (.tmp 61) rfl rfl (u8s (outF L)) rfl (by rw [u8s_length, HOL.out]) rfl (u8s_one _) ?_); intro w9 hB9 hg9))
            have hK9 : w9.heap[D]? = some (.deferred (some [])) := by
              have h1 := (HI.out.1.block D (Nat.lt_of_lt_of_le hDW (Nat.le_of_lt HV.out.2.2.2.2.lt)) (by simp; omega)).trans HV.out.2.2.2.1
              exact (hg9.block D (Array.getElem?_eq_some_iff.1 h1).1 (by intro e; have := Option.some.inj e; rw [hz5] at hD; omega)).trans h1
            have e1 : D ≠ n := by rw [hz5] at hD; omega
            have hB9' : Blk (w9.putObj D (.deferred none)) n 41 (u8s (outF L)) := (World.putObj_heap_other (by omega)).trans hB9
            refine ⟨by simp [Act.put], .inl ⟨_, _, rfl, run_takeDeferred hK9, _, results_cell rfl agg_32 _ _ n rfl (u8s (outF L)) (by rw [u8s_length, HOL.out]) 41 hB9', by rw [HSH.out], ?_⟩⟩
            have E8 : Ext w wr := Below.grown HV.out.2.2.1 HI.out.1 HV.out.2.2.1.size (fun k hk => by have := Option.some.inj hk; have := HNn.out; omega)
            have E9 : Ext w w9 := Below.grown E8 hg9 E8.size (fun k hk => by have := Option.some.inj hk; have := HNn.out; omega)
            exact Below.grown E9 (grownBy_putObj' w9 D _) E9.size (fun k hk => by have := Option.some.inj hk; have := HNn.out; omega)
end Go.Proofs.YtcjeclddpkinkaaDoor
