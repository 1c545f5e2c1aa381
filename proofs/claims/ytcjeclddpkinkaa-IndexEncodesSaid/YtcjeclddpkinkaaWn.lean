/- The contracts of Digests and GetDigests, of wire and of the reference; SameInts, SameDigests. -/
import Derived.Test.YtcjeclddpkinkaaWm
set_option linter.unusedSimpArgs false
set_option linter.unusedVariables false
namespace Go.Proofs.Ytcjeclddpkinkaa
open Go.RowKit

theorem agg_dg : AggOf Try.prog 95 16 := ⟨by kernel_rfl, by kernel_rfl⟩
theorem info_dg : (Try.prog.info? 95).map (fun i => (i.zero, i.size, i.bytes)) = some (some (.agg (Array.replicate 16 (.int .u8 0))), 16, 16) := by kernel_rfl

namespace Wz
theorem flat_drop (d : List Dg) : ∀ k, (flat d).drop (16 * k) = flat (d.drop k) := by
  induction d with
  | nil => intro k; simp [flat]
  | cons x d ih =>
    intro k
    cases k with
    | zero => simp
    | succ k =>
      have e : flat (x :: d) = x.1 ++ flat d := rfl
      rw [e, List.drop_succ_cons, ← ih k, show 16 * (k + 1) = x.1.length + 16 * k from by rw [x.2]; omega, List.drop_length_add_append]
theorem flat_part {d : List Dg} {k : Nat} (hk : k < d.length) : ((flat d).drop (16 * k)).take 16 = (d[k]).1 := by
  rw [flat_drop, List.drop_eq_getElem_cons hk]
  have e : flat (d[k] :: d.drop (k + 1)) = (d[k]).1 ++ flat (d.drop (k + 1)) := rfl
  rw [e, List.take_append_of_le_length (by rw [(d[k]).2]; omega), List.take_of_length_le (by rw [(d[k]).2]; omega)]
theorem flat_take {d : List Dg} {k : Nat} (hk : k < d.length) : flat (d.take (k + 1)) = flat (d.take k) ++ (d[k]).1 := by
  have e : d.take (k + 1) = d.take k ++ [d[k]] := by rw [List.take_add_one, List.getElem?_eq_getElem hk]; rfl
  rw [e, flat_append]
  simp [flat]
end Wz

/-- element k of a list of digests in memory -/
theorem dg_cell {w : World} {b o : Nat} {d : List Wz.Dg} {k : Nat} (hk : k < d.length) (hc : ∀ j u, (u8s (Wz.flat d))[j]? = some u → w.cell? ⟨b, o + j, none⟩ = some u) :
    ∀ j u, (u8s (d[k]).1)[j]? = some u → w.cell? ⟨b, o + k * 16 + j, none⟩ = some u := by
  intro j u hu
  have hj : j < 16 := by
    have := (List.getElem?_eq_some_iff.1 hu).1
    rw [u8s_length, (d[k]).2] at this
    exact this
  rw [Nat.add_assoc]
  refine hc (k * 16 + j) u ?_
  rw [← Wz.flat_part hk] at hu
  unfold u8s at hu ⊢
  rw [List.getElem?_map, List.getElem?_take, if_pos hj, List.getElem?_drop] at hu
  rw [List.getElem?_map, Nat.mul_comm k 16]
  exact hu

theorem Rd.new (w : World) (cs : List Value) (t : TypeId) : Rd (w.alloc (.cells cs.toArray t)) (some ⟨w.heap.size, 0, none⟩) cs := by
  intro _
  refine ⟨_, _, rfl, fun j u hu => ?_⟩
  rw [Nat.zero_add, World.cell?_alloc_new]
  simpa using hu

set_option maxRecDepth 100000 in
set_option maxHeartbeats 400000 in
/-- wire.Digests -/
theorem digests_calls (A : Option Addr) (N cap : Nat) (d : List Wz.Dg) (w : World) (hr : Rd w A (u8s (Wz.flat d))) (hlen : N ≤ 1000000000000) (hNl : d.length = N) :
    Calls Try.prog 46 #[.slice A N cap] w (RetB w (Wz.encD d)) := by
  have hel := Wz.enc_length (N : Int) (by omega) (by omega)
  have HNL := Lib.hid hNl
  clear hNl
  go_enter Try.func46, Try.ntmps46
  go_wp2_with fail
  refine (int_calls _ _ (by omega) (by omega)).mono ?_
  rintro e w1 ⟨v0, rfl, hown0, hb0⟩
  go_wp2_with fail
  go_loopg [3, 11] N (fun g v i wr => ∃ k : Nat, i = .int .i64 (k : Int) ∧ k ≤ N ∧ N - k ≤ g ∧ Own8 wr w.heap.size v (Wz.enc (N : Int) ++ Wz.flat (d.take k)) ∧ Below w.heap.size w wr)
  case atStart => exact ⟨0, rfl, by omega, by omega, by simpa [Wz.flat] using hown0, hb0⟩
  case round =>
    obtain ⟨k, rfl, hk, hg, hown, hb⟩ := hrel
    clear hown0 hb0
    by_cases hkN : k < N
    · have hkl : k < d.length := by rw [HNL.out]; exact hkN
      obtain ⟨b, o, rfl, hc⟩ := hr.below hb (by rw [u8s_length, Wz.flat_length]; omega)
      have HX := Lib.hid (dg_cell hkl hc)
      have hlt : (Wz.enc (N : Int) ++ Wz.flat (d.take k)).length ≤ 9 + 16 * N := by
        rw [List.length_append, Wz.flat_length]
        have h2 : (d.take k).length ≤ N := by rw [List.length_take]; omega
        omega
      have HT := Lib.hid (Wz.flat_take hkl)
      have hx16 : (d[k]).1.length = 16 := (d[k]).2
      obtain ⟨x, hxx⟩ : ∃ x, (d[k]).1 = x := ⟨_, rfl⟩
      rw [hxx] at HX HT hx16
      have hxl : (u8s x).length = 16 := by rw [u8s_length]; exact hx16
      have HXL := Lib.hid hxl
      have HX16 := Lib.hid hx16
      have hbs := hb.size
      clear hxx hc hxl hx16
      go_wp2_with (first | ((with_reducible show wpList _ _ _ (⟨some 14, _, _, _, _, _⟩ :: _) _ _); go_must (refine wpList_loadAgg agg_dg wr rfl (.tmp 13) rfl b (o + k * 16) rfl (u8s x) HXL.out HX.out ?_)) | ((with_reducible show wpList _ _ _ (⟨Option.none, _, _, _, _, _⟩ :: _) _ _); go_must (refine wpList_storeNew agg_dg wr _ 95 rfl (.tmp 5) (.tmp 14) rfl rfl (u8s x) rfl HXL.out rfl (u8s_one _) ?_)) | (at_builtin; go_must (refine wpList_app8 _ rfl (.tmp 15) (.tmp 16) rfl w.heap.size _ _ rfl (hown.alloc _) (some ⟨wr.heap.size, 0, none⟩) 16 x (by rw [HX16.out]; rfl) (Rd.new _ _ _) (by rw [HX16.out]; omega) (by simp; omega) ?_); intro v' w' h1 _ h3))
      go_roundg (N - (k + 1))
      case measure => omega
      case rel => exact ⟨k + 1, by go_num, by omega, by omega, by rw [HT.out, ← List.append_assoc]; exact h1, h3 _ _ (Nat.le_refl _) (hb.alloc (by omega) _)⟩
    · have hkk : k = N := by omega
      go_wp2
      go_ret
      exact ⟨_, rfl, by unfold Wz.encD; rw [HNL.out]; rw [List.take_of_length_le (by rw [HNL.out]; omega)] at hown; exact hown, hb⟩

set_option maxRecDepth 100000 in
set_option maxHeartbeats 400000 in
/-- the reference's Digests -/
theorem refdigests_calls (A : Option Addr) (N cap : Nat) (d : List Wz.Dg) (w : World) (hr : Rd w A (u8s (Wz.flat d))) (hlen : N ≤ 1000000000000) (hNl : d.length = N) :
    Calls Try.prog 47 #[.slice A N cap] w (RetB w (Wz.encD d)) := by
  have hel := Wz.enc_length (N : Int) (by omega) (by omega)
  have HNL := Lib.hid hNl
  clear hNl
  go_enter Try.func47, Try.ntmps47
  go_wp2_with fail
  refine (refint_calls _ _ (by omega) (by omega)).mono ?_
  rintro e w1 ⟨v0, rfl, hown0, hb0⟩
  go_wp2_with fail
  go_loopg [3, 4, 5] N (fun g v i _ wr => ∃ k : Nat, i = .int .i64 (k : Int) ∧ k ≤ N ∧ N - k ≤ g ∧ Own8 wr w.heap.size v (Wz.enc (N : Int) ++ Wz.flat (d.take k)) ∧ Below w.heap.size w wr)
  case atStart => exact ⟨0, rfl, by omega, by omega, by simpa [Wz.flat] using hown0, hb0⟩
  case round =>
    obtain ⟨k, rfl, hk, hg, hown, hb⟩ := hrel
    clear hown0 hb0
    by_cases hkN : k < N
    · have hkl : k < d.length := by rw [HNL.out]; exact hkN
      obtain ⟨b, o, rfl, hc0⟩ := hr (by rw [u8s_length, Wz.flat_length]; omega)
      have HX := Lib.hid (dg_cell hkl hc0)
      have hblt : b < w.heap.size := lt_of_cell (hc0 0 _ (u8s_at (by rw [Wz.flat_length]; omega)))
      have hlt : (Wz.flat (d.take k)).length ≤ 16 * N := by
        rw [Wz.flat_length]
        have h2 : (d.take k).length ≤ N := by rw [List.length_take]; omega
        omega
      have HT := Lib.hid (Wz.flat_take hkl)
      have hx16 : (d[k]).1.length = 16 := (d[k]).2
      obtain ⟨x, hxx⟩ : ∃ x, (d[k]).1 = x := ⟨_, rfl⟩
      rw [hxx] at HX HT hx16
      have HX16 := Lib.hid hx16
      clear hxx hc0 hx16
      have hgk : N - (k + 1) < gk := by omega
      clear hg
      go_wp2_with fail
      go_loopg [3, 5] 16 (fun g v i wq => ∃ j : Nat, i = .int .i64 (j : Int) ∧ j ≤ 16 ∧ 16 - j ≤ g ∧ Own8 wq w.heap.size v (Wz.enc (N : Int) ++ Wz.flat (d.take k) ++ x.take j) ∧ Below w.heap.size w wq)
      case atStart => exact ⟨0, rfl, by omega, by omega, by simpa using hown, hb⟩
      case round =>
        obtain ⟨j, rfl, hj, hjg, hown1, hb1⟩ := hrel
        clear hown hb
        by_cases hj16 : j < 16
        · have hcell : wr.cell? ⟨b, o + k * 16 + j, none⟩ = some (.int .u8 ((x.getD j 0).toNat : Int)) := by
            rw [hb1.cell (p := ⟨b, o + k * 16 + j, none⟩) hblt]
            exact HX.out j _ (u8s_at (by rw [HX16.out]; exact hj16))
          have ht : x.take (j + 1) = x.take j ++ [x.getD j 0] := by
            rw [List.take_add_one, List.getD, List.getElem?_eq_getElem (by rw [HX16.out]; exact hj16)]; rfl
          obtain ⟨c, hc⟩ : ∃ c, x.getD j 0 = c := ⟨_, rfl⟩
          rw [hc] at hcell ht
          have hbs1 := hb1.size
          have hL : (Wz.enc (N : Int) ++ Wz.flat (d.take k) ++ x.take j).length < 140737488355328 := by
            rw [List.length_append, List.length_append, List.length_take]; omega
          have HTT := Lib.hid ht
          clear hc ht
          go_wp2_with (at_builtin; go_must (refine wpList_app8one _ rfl (.tmp 19) (.tmp 26) rfl w.heap.size _ _ _ rfl hown1 rfl c rfl hL hbs1 ?_); intro v' w' h1 _ h3)
          go_roundg (16 - (j + 1))
          case measure => omega
          case rel => exact ⟨j + 1, by go_num, by omega, by omega, by rw [HTT.out, ← List.append_assoc]; exact h1, h3 _ _ (Nat.le_refl _) hb1⟩
        · have hj16' : j = 16 := by omega
          go_wp2
          go_roundg (N - (k + 1))
          case measure => omega
          case rel => exact ⟨k + 1, by go_num, by omega, by omega, by rw [HT.out, ← List.append_assoc]; rw [List.take_of_length_le (l := x) (by rw [HX16.out]; omega)] at hown1; exact hown1, hb1⟩
    · have hkk : k = N := by omega
      go_wp2
      go_ret
      exact ⟨_, rfl, by unfold Wz.encD; rw [HNL.out]; rw [List.take_of_length_le (by rw [HNL.out]; omega)] at hown; exact hown, hb⟩

/-- a []api.Digest that the call owns -/
def OwnD (w : World) (base : Nat) (v : Value) (d : List Wz.Dg) : Prop := w.ownsRow base 95 16 v d.length (u8s (Wz.flat d))
theorem OwnD.nil (w : World) (base : Nat) : OwnD w base (.slice none 0 0) [] := World.ownsRow_nil _ _ _ _
theorem OwnD.rebase {w : World} {base base' : Nat} {v : Value} {l : List Wz.Dg} (h : OwnD w base v l) (hb : base' ≤ base) : OwnD w base' v l := own_rebase h hb
theorem OwnD.below {w w1 : World} {base : Nat} {v : Value} {l : List Wz.Dg} (h : OwnD w base v l) (hb : Below w.heap.size w w1) : OwnD w1 base v l := own_below h hb
theorem OwnD.alloc {w : World} {base : Nat} {v : Value} {l : List Wz.Dg} (h : OwnD w base v l) (o : Obj) : OwnD (w.alloc o) base v l := World.ownsRow.alloc h o
theorem OwnD.slice {w : World} {base : Nat} {v : Value} {l : List Wz.Dg} (h : OwnD w base v l) : ∃ A cap, v = .slice A l.length cap ∧ l.length ≤ cap ∧ cap ≤ maxLen ∧ Rd w A (u8s (Wz.flat l)) := own_slice h
theorem OwnD.base_le {w : World} {base : Nat} {v : Value} {l : List Wz.Dg} (h : OwnD w base v l) : ∀ k, v.ownBlock = some k → base ≤ k ∧ k < w.heap.size := World.ownsRow.lt h
theorem OwnD.kept {w w' : World} {base : Nat} {v : Value} {l : List Wz.Dg} {row : Option Nat} (h : OwnD w base v l) (hg : w.grownBy w' row) (hne : v.ownBlock = none ∨ v.ownBlock ≠ row) : OwnD w' base v l := World.ownsRow.kept h hg hne

theorem wpList_appD (w : World) {ops : Array Oper} {rest : List Oper} {o : Oper} {a : Act} {Q : Exit → Act → World → Prop} (hgd : o.guard = none) (s x : Operand)
    (ho : o.op = .call { callee := .builtin .append, args := #[s, x], argTypes := #[55, 55] })
    (base : Nat) (v : Value) (l : List Wz.Dg) (hs : a.eval s = v) (hown : OwnD w base v l) (A : Option Addr) (c : Nat) (news : List Wz.Dg) (hx : a.eval x = .slice A news.length c) (hr : Rd w A (u8s (Wz.flat news)))
    (hbytes : (l.length + news.length) * 16 ≤ 140737488355328) (hbase : base ≤ w.heap.size)
    (h : ∀ v' w', OwnD w' base v' (l ++ news) → w.grownBy w' v.ownBlock → (∀ B w0, B ≤ base → Below B w0 w → Below B w0 w') → wpList Try.prog ops Q rest (a.put o.dst v') w') : wpList Try.prog ops Q (o :: rest) a w := by
  obtain ⟨i0, hi, hz0, hz1, hz2⟩ := info_parts info_dg
  refine wpList_app w hgd s x 55 ho base 95 i0 _ 16 16 Try.underlying55 hi hz0 hz1 hz2 (by simp [Value.cells]) (by decide) v l.length (u8s (Wz.flat l)) hs hown A news.length c (u8s (Wz.flat news)) hx (by rw [u8s_length, Wz.flat_length, Nat.mul_comm]) hr (u8s_one _) hbytes (by decide) hbase ?_
  intro v' w' h1 h2 _
  refine h v' w' (by unfold OwnD; rw [Wz.flat_append, u8s_append, List.length_append]; exact h1) h2 fun B w0 hB hb => hb.grown h2 (by omega) fun k hk => ?_
  have := hown.base_le k hk
  omega

theorem wpList_appDone (w0 : World) {ops : Array Oper} {rest : List Oper} {o : Oper} {a : Act} {Q : Exit → Act → World → Prop} (hgd : o.guard = none) (s x : Operand)
    (ho : o.op = .call { callee := .builtin .append, args := #[s, x], argTypes := #[55, 55] })
    (base : Nat) (v : Value) (l : List Wz.Dg) (d : Wz.Dg) (hs : a.eval s = v) (hown : OwnD w0 base v l) (hx : a.eval x = .slice (some ⟨w0.heap.size, 0, none⟩) 1 1)
    (hbytes : l.length < 8000000000000) (hbase : base ≤ w0.heap.size)
    (h : ∀ v' w', OwnD w' base v' (l ++ [d]) → (w0.alloc (.cells (u8s d.1).toArray 95)).grownBy w' v.ownBlock → (∀ B w1, B ≤ base → Below B w1 w0 → Below B w1 w') → wpList Try.prog ops Q rest (a.put o.dst v') w') : wpList Try.prog ops Q (o :: rest) a (w0.alloc (.cells (u8s d.1).toArray 95)) := by
  have e : Wz.flat [d] = d.1 := by simp [Wz.flat]
  refine wpList_appD _ hgd s x ho base v l hs (hown.alloc _) (some ⟨w0.heap.size, 0, none⟩) 1 [d] hx (by rw [e]; exact Rd.new _ _ _) (by simp; omega) (by simp; omega) fun v' w' h1 h2 h3 => h v' w' h1 h2 fun B w1 hB hb => h3 B w1 hB (hb.alloc (by omega) _)

theorem run_arrayAt16 (A : Option Addr) (c : Nat) (w : World) : (Instr.arrayAt 95 (.slice A 16 c)).run Try.prog w = .ok (.pointer A) w := by
  simp [Instr.arrayAt, run_underlying Try.underlying95, run_underlying Try.underlying94]

/-- a list of digests, a number of bytes and an error -/
def RetD (w : World) (l : List Wz.Dg) (u er : Nat) (e : Ending) (w' : World) : Prop := ∃ v, e = .returned (.tuple #[v, .int .i64 (u : Int), .int .i64 (er : Int)]) ∧ OwnD w' w.heap.size v l ∧ Below w.heap.size w w'

namespace Wz
theorem chunks_take (b : List UInt8) : ∀ j, chunks (j + 1) b = chunks j b ++ [cutD (b.drop (16 * j))] := by
  intro j
  induction j generalizing b with
  | zero => simp [chunks]
  | succ j ih =>
    rw [chunks, ih, chunks, List.drop_drop, show 16 + 16 * j = 16 * (j + 1) from by omega]
    rfl
theorem chunks_length (n : Nat) : ∀ b, (chunks n b).length = n := by
  induction n with
  | zero => intro b; rfl
  | succ n ih => intro b; rw [chunks, List.length_cons, ih]
theorem cutD_val {b : List UInt8} (h : 16 ≤ b.length) : (cutD b).1 = b.take 16 := by
  unfold cutD
  rw [dif_pos (by rw [List.length_take]; omega)]
end Wz

set_option maxRecDepth 100000 in
set_option maxHeartbeats 800000 in
/-- wire.GetDigests -/
theorem getdigests_calls (A : Option Addr) (N cap : Nat) (l : List UInt8) (w : World) (hr : Rd w A (u8s l)) (hlen : N ≤ 1000000000000) (hcap : N ≤ cap) (hcm : cap ≤ maxLen) (hNl : l.length = N) {s : List Wz.Dg} {u er : Nat} (h : Wz.getD l = (s, u, er)) :
    Calls Try.prog 54 #[.slice A N cap] w (RetD w s u er) := by
  obtain ⟨i0, hi, hz0, hz1, hz2⟩ := info_parts info_u8
  obtain ⟨i1, hi', hz0', hz1', hz2'⟩ := info_parts info_dg
  obtain ⟨q, hq⟩ : ∃ q, Wz.count 16 l = q := ⟨_, rfl⟩
  obtain ⟨D, U, R⟩ := q
  have hok := @Wz.count_ok 16 l
  unfold Wz.getD at h
  rw [hq] at h hok
  simp only at h hok
  have HQ := Lib.hid hq; have HH := Lib.hid h; have HNL := Lib.hid hNl; have HOK := Lib.hid hok
  clear hq h hNl hok
  go_enter Try.func54, Try.ntmps54
  go_wp2_with fail
  refine (count_calls _ _ _ l _ hr (by omega) hcap hcm HNL.out 16 16 rfl (by omega) (by omega) HQ.out).mono ?_
  rintro e w1 ⟨⟨n', at', rfl, hz⟩, rfl⟩
  by_cases hR : R = 0
  · have hRz : ((R : Int) != 0) = false := by subst hR; rfl
    obtain ⟨rfl, rfl⟩ := hz hR
    have hh := HH.out
    rw [if_neg (by omega)] at hh
    simp only [Prod.mk.injEq] at hh
    obtain ⟨hs, rfl, rfl⟩ := hh
    obtain ⟨_, _, _, hfit, _⟩ := HOK.out hR
    rw [HNL.out] at hfit
    have HS := Lib.hid hs
    clear hR HH hs hz
    have har := run_arrayAt16
    go_wp2
    go_loopg [6, 8, 19] D (fun g a v i wr => ∃ j p : Nat, i = .int .i64 (j : Int) ∧ j ≤ D ∧ D - j ≤ g ∧ a = .int .i64 (p : Int) ∧ Hid (p = U + 16 * j) ∧ p + 16 * (D - j) ≤ N ∧ OwnD wr w.heap.size v (Wz.chunks j (l.drop U)) ∧ Below w.heap.size w wr)
    case atStart => exact ⟨0, U, rfl, by omega, by omega, rfl, Lib.hid (by omega), by omega, OwnD.nil _ _, Below.refl _ _⟩
    case round =>
      obtain ⟨j, p, rfl, hj, hg, rfl, HP, hpN, hown, hb⟩ := hrel
      by_cases hjD : j < D
      · have hr1 := hr.below hb
        have hbs := hb.size
        have hp16 : p + 16 ≤ N := by omega
        have hdl : (Wz.cutD (l.drop p)).1 = (l.drop p).take 16 := Wz.cutD_val (by rw [List.length_drop, HNL.out]; omega)
        have hch : Wz.chunks (j + 1) (l.drop U) = Wz.chunks j (l.drop U) ++ [Wz.cutD (l.drop p)] := by
          rw [Wz.chunks_take, List.drop_drop, HP.out]
        obtain ⟨x, hx⟩ : ∃ x, Wz.cutD (l.drop p) = x := ⟨_, rfl⟩
        rw [hx] at hdl hch
        have e1 : ((u8s l).drop (p * 1)).take ((p + 16 - p) * 1) = u8s x.1 := by
          rw [hdl, Nat.mul_one, Nat.mul_one, Nat.add_sub_cancel_left]
          simp [u8s, List.map_drop, List.map_take]
        have HE1 := Lib.hid e1; have HCH := Lib.hid hch
        have hxl : (u8s x.1).length = 16 := by rw [u8s_length]; exact x.2
        have HXL := Lib.hid hxl
        have hcl : (Wz.chunks j (l.drop U)).length < 8000000000000 := by rw [Wz.chunks_length]; omega
        have HCL := Lib.hid hcl
        clear hdl hch hx e1 hxl hcl
        go_wp2_with (first | ((with_reducible show wpList _ _ _ (⟨some 26, _, _, _, _, _⟩ :: _) _ _); go_must (refine wpList_slice wr rfl (.tmp 22) (some (.tmp 23)) (some (.tmp 25)) 57 rfl 5 i0 1 Try.underlying57 hi hz1 A N cap (u8s l) rfl hr1 hcap p (p + 16) (.inr ⟨_, .i64, rfl, rfl⟩) (.inr ⟨_, .i64, rfl, rfl⟩) (Nat.le_add_right _ _) hp16 ?_); intro A' hrA; rw [HE1.out] at hrA; obtain ⟨b', o', rfl, hc'⟩ := hrA (by rw [HXL.out]; decide)) | ((with_reducible show wpList _ _ _ (⟨some 28, _, _, _, _, _⟩ :: _) _ _); go_must (refine wpList_loadAgg agg_dg wr rfl (.tmp 27) rfl b' o' rfl (u8s x.1) HXL.out hc' ?_)) | ((with_reducible show wpList _ _ _ (⟨some 29, _, _, _, _, _⟩ :: _) _ _); go_must (refine wpList_buildOne wr rfl 55 95 i1 _ (.tmp 28) rfl Try.underlying55 hi' hz0' (by rw [hz1']; decide) (by rw [hz1']; decide) (u8s x.1) rfl (by rw [hz1']; exact HXL.out) ?_)) | (at_builtin; go_must (refine wpList_appDone _ rfl (.tmp 21) (.tmp 29) rfl w.heap.size _ _ x rfl hown rfl HCL.out hbs ?_); intro v' w' h1 _ h3))
        go_roundg (D - (j + 1))
        case measure => omega
        case rel => exact ⟨j + 1, p + 16, by go_num, by omega, by omega, by go_num, Lib.hid (by rw [HP.out]; omega), by omega, by rw [HCH.out]; exact h1, h3 _ _ (Nat.le_refl _) hb⟩
      · have hjD2 : j = D := by omega
        subst hjD2
        go_wp2
        go_ret3
        exact ⟨_, by rw [show p = U + 16 * j from HP.out]; rfl, by rw [← HS.out]; exact hown, hb⟩
  · have hRz : ((R : Int) != 0) = true := by rw [bne_iff_ne]; omega
    have hh := HH.out
    rw [if_pos hR] at hh
    simp only [Prod.mk.injEq] at hh
    obtain ⟨rfl, rfl, rfl⟩ := hh
    clear hR HH
    go_wp2
    go_ret3
    exact ⟨_, rfl, OwnD.nil _ _, Below.refl _ _⟩

set_option maxRecDepth 100000 in
set_option maxHeartbeats 800000 in
/-- the reference's GetDigests -/
theorem refgetdigests_calls (A : Option Addr) (N cap : Nat) (l : List UInt8) (w : World) (hr : Rd w A (u8s l)) (hlen : N ≤ 1000000000000) (hcap : N ≤ cap) (hcm : cap ≤ maxLen) (hNl : l.length = N) {s : List Wz.Dg} {u er : Nat} (h : Wz.getD l = (s, u, er)) :
    Calls Try.prog 55 #[.slice A N cap] w (RetD w s u er) := by
  obtain ⟨i1, hi', hz0', hz1', hz2'⟩ := info_parts info_dg
  obtain ⟨q, hq⟩ : ∃ q, Wz.count 16 l = q := ⟨_, rfl⟩
  obtain ⟨D, U, R⟩ := q
  have hok := @Wz.count_ok 16 l
  unfold Wz.getD at h
  rw [hq] at h hok
  simp only at h hok
  have HQ := Lib.hid hq; have HH := Lib.hid h; have HNL := Lib.hid hNl; have HOK := Lib.hid hok
  clear hq h hNl hok
  go_enter Try.func55, Try.ntmps55
  go_wp2_with fail
  refine (refcount_calls _ _ _ l _ hr (by omega) hcap hcm HNL.out 16 16 rfl (by omega) (by omega) HQ.out).mono ?_
  rintro e w1 ⟨rfl, hb1⟩
  by_cases hR : R = 0
  · have hRz : ((R : Int) != 0) = false := by subst hR; rfl
    have hh := HH.out
    rw [if_neg (by omega)] at hh
    simp only [Prod.mk.injEq] at hh
    obtain ⟨hs, rfl, rfl⟩ := hh
    obtain ⟨_, _, _, hfit, _⟩ := HOK.out hR
    rw [HNL.out] at hfit
    have HS := Lib.hid hs
    clear hR HH hs
    go_wp2
    go_loopg [6, 8, 9, 10, 11] D (fun g a v i _ _ wr => ∃ j p : Nat, i = .int .i64 (j : Int) ∧ j ≤ D ∧ D - j ≤ g ∧ a = .int .i64 (p : Int) ∧ Hid (p = U + 16 * j) ∧ p + 16 * (D - j) ≤ N ∧ OwnD wr w.heap.size v (Wz.chunks j (l.drop U)) ∧ Below w.heap.size w wr)
    case atStart => exact ⟨0, U, rfl, by omega, by omega, rfl, Lib.hid (by omega), by omega, OwnD.nil _ _, hb1⟩
    case round =>
      obtain ⟨j, p, rfl, hj, hg, rfl, HP, hpN, hown, hb⟩ := hrel
      clear hb1
      by_cases hjD : j < D
      · obtain ⟨b, o, rfl, hc0⟩ := hr (by rw [u8s_length, HNL.out]; omega)
        have hblt : b < w.heap.size := lt_of_cell (hc0 0 _ (u8s_at (by rw [HNL.out]; omega)))
        have hp16 : p + 16 ≤ N := by omega
        have hdl : (Wz.cutD (l.drop p)).1 = (l.drop p).take 16 := Wz.cutD_val (by rw [List.length_drop, HNL.out]; omega)
        have hch : Wz.chunks (j + 1) (l.drop U) = Wz.chunks j (l.drop U) ++ [Wz.cutD (l.drop p)] := by
          rw [Wz.chunks_take, List.drop_drop, HP.out]
        obtain ⟨x, hx⟩ : ∃ x, Wz.cutD (l.drop p) = x := ⟨_, rfl⟩
        rw [hx] at hdl hch
        have HDL := Lib.hid hdl; have HCH := Lib.hid hch
        have hx16 : x.1.length = 16 := x.2
        have hxl : (u8s x.1).length = 16 := by rw [u8s_length]; exact x.2
        have HXL := Lib.hid hxl; have HX16 := Lib.hid hx16
        have hcl : (Wz.chunks j (l.drop U)).length < 8000000000000 := by rw [Wz.chunks_length]; omega
        have HCL := Lib.hid hcl
        have HC0 := Lib.hid hc0
        have hgj : D - (j + 1) < gk := by omega
        clear hdl hch hx hxl hcl hx16 hc0 hg
        obtain ⟨wo, rfl⟩ : ∃ wo : World, wo = wr := ⟨_, rfl⟩
        go_wp2_with fail
        go_loopg [11] 16 (fun g i wq => ∃ q : Nat, i = .int .i64 (q : Int) ∧ q ≤ 16 ∧ 16 - q ≤ g ∧ Blk wq wo.heap.size 95 (u8s (x.1.take q ++ List.replicate (16 - q) 0)) ∧ wo.grownBy wq (some wo.heap.size))
        case atStart => exact ⟨0, rfl, by omega, by omega, Blk.new wo (u8s (List.replicate 16 0)) 95, World.grownBy_alloc _ _ _⟩
        case round =>
          obtain ⟨q, rfl, hq, hqg, hblk, hgr⟩ := hrel
          have hbw := hb.grown hgr hb.size (fun k hk => by cases hk; exact hb.size)
          by_cases hq16 : q < 16
          · have hxq : (u8s l)[p + q]? = (u8s x.1)[q]? := by
              rw [HDL.out]
              unfold u8s
              rw [List.getElem?_map, List.getElem?_map, List.getElem?_take, if_pos hq16, List.getElem?_drop]
            have hxc : (u8s x.1)[q]? = some (.int .u8 ((x.1.getD q 0).toNat : Int)) := u8s_at (by rw [HX16.out]; exact hq16)
            have hx1 : x.1[q]? = some (x.1.getD q 0) := by rw [List.getD, List.getElem?_eq_getElem (by rw [HX16.out]; exact hq16)]; rfl
            obtain ⟨c, hc⟩ : ∃ c, x.1.getD q 0 = c := ⟨_, rfl⟩
            rw [hc] at hxc hx1
            have hcell : wr.cell? ⟨b, o + (p + q), none⟩ = some (.int .u8 (c.toNat : Int)) := by
              rw [hbw.cell (p := ⟨b, o + (p + q), none⟩) hblt]
              exact HC0.out _ _ (by rw [hxq]; exact hxc)
            have hB1 : wr.cell? ⟨wo.heap.size, q, none⟩ = some (.int .u8 0) := by
              rw [hblk.cell]
              unfold u8s
              rw [List.getElem?_map, List.getElem?_append_right (by rw [List.length_take]; omega), List.getElem?_replicate, if_pos (by rw [List.length_take, HX16.out]; omega)]
              rfl
            have hB2 := hblk.free q
            have hset := hblk.set q (.int .u8 (c.toNat : Int))
            have hfs : (u8s (x.1.take q ++ List.replicate (16 - q) 0)).set q (.int .u8 (c.toNat : Int)) = u8s (x.1.take (q + 1) ++ List.replicate (16 - (q + 1)) 0) := by
              rw [← fill_set (z := 0) HX16.out hq16 hx1]
              unfold u8s
              rw [List.map_set]
            rw [hfs] at hset
            have HSET := Lib.hid hset
            clear hset hfs hxq hxc hx1 hc
            go_wp2
            go_roundg (16 - (q + 1))
            case measure => omega
            case rel => exact ⟨q + 1, by go_num, by omega, by omega, HSET.out, grownBy_trans hgr (grownBy_setCell _ _ _ _)⟩
          · have hq16' : q = 16 := by omega
            subst hq16'
            have hfull : x.1.take 16 ++ List.replicate (16 - 16) 0 = x.1 := by
              rw [List.take_of_length_le (by rw [HX16.out]; omega)]; simp
            rw [hfull] at hblk
            have hown1 : OwnD wr w.heap.size u8 (Wz.chunks j (l.drop U)) := hown.kept hgr (by
              cases hv : u8.ownBlock with
              | none => exact .inl rfl
              | some k => exact .inr (by have := hown.base_le k hv; intro e; cases e; omega))
            have hbs1 := hbw.size
            have hcl' : ∀ (k : Nat) (u : Value), (u8s x.1)[k]? = some u → wr.cell? ⟨wo.heap.size, 0 + k, none⟩ = some u := fun k u hu => by rw [Nat.zero_add, hblk.cell]; exact hu
            have HCL' := Lib.hid hcl'
            clear hcl' hfull
            go_wp2_with (first | ((with_reducible show wpList _ _ _ (⟨some 39, _, _, _, _, _⟩ :: _) _ _); go_must (refine wpList_loadAgg agg_dg wr rfl (.tmp 10) rfl wo.heap.size 0 rfl (u8s x.1) HXL.out HCL'.out ?_)) | ((with_reducible show wpList _ _ _ (⟨some 40, _, _, _, _, _⟩ :: _) _ _); go_must (refine wpList_buildOne wr rfl 55 95 i1 _ (.tmp 39) rfl Try.underlying55 hi' hz0' (by rw [hz1']; decide) (by rw [hz1']; decide) (u8s x.1) rfl (by rw [hz1']; exact HXL.out) ?_)) | (at_builtin; go_must (refine wpList_appDone _ rfl (.tmp 38) (.tmp 40) rfl w.heap.size _ _ x rfl hown1 rfl HCL.out hbs1 ?_); intro v' w' h1 _ h3))
            go_roundg (D - (j + 1))
            case measure => omega
            case rel => exact ⟨j + 1, p + 16, by go_num, by omega, by omega, by go_num, Lib.hid (by rw [HP.out]; omega), by omega, by rw [HCH.out]; exact h1, h3 _ _ (Nat.le_refl _) hbw⟩
      · have hjD2 : j = D := by omega
        subst hjD2
        go_wp2
        go_ret3
        exact ⟨_, by rw [show p = U + 16 * j from HP.out]; rfl, by rw [← HS.out]; exact hown, hb⟩
  · have hRz : ((R : Int) != 0) = true := by rw [bne_iff_ne]; omega
    have hh := HH.out
    rw [if_pos hR] at hh
    simp only [Prod.mk.injEq] at hh
    obtain ⟨rfl, rfl, rfl⟩ := hh
    clear hR HH
    go_wp2
    go_ret3
    exact ⟨_, rfl, OwnD.nil _ _, hb1⟩
end Go.Proofs.Ytcjeclddpkinkaa
