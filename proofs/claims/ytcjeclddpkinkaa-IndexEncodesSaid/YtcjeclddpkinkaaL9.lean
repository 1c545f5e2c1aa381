/- WireOrder: the walk. -/
import Derived.Test.YtcjeclddpkinkaaWx
import Derived.Test.YtcjeclddpkinkaaWy
import Derived.Orders
import Derived.RegionTactic
set_option linter.unusedSimpArgs false
set_option linter.unusedVariables false
namespace Go.Proofs.Ytcjeclddpkinkaa
open Go.RowKit

section
variable {P : Program} {ops : Array Oper} {Q : Exit → Act → World → Prop} {K : Act → World → Prop} {a : Act} {w w' : World} {o : Oper} {i : Nat}
theorem wpOp_val {v : Value} (ho : ops[i]? = some o) (hg : o.guard = none) (hrun : (execOp a.eval o).run P w = .ok (.value v) w') (h : K (a.put o.dst v) w') : wpOp P ops Q i K a w := by
  unfold wpOp
  rw [ho]
  simp only
  rw [if_pos (by unfold Region.wanted; rw [hg])]
  left
  unfold Oper.wp
  rw [hrun]
  exact h
theorem wpOp_call {f : FuncId} {args : Array Value} (ho : ops[i]? = some o) (hg : o.guard = none) (hrun : (execOp a.eval o).run P w = .ok (.enter f args) w) (hc : Calls P f args w (fun e w' => ∃ v, e = .returned v ∧ K (a.put o.dst v) w')) : wpOp P ops Q i K a w := by
  unfold wpOp
  rw [ho]
  simp only
  rw [if_pos (by unfold Region.wanted; rw [hg])]
  left
  unfold Oper.wp
  rw [hrun]
  refine hc.mono ?_
  rintro e w' ⟨v, rfl, hk⟩
  exact hk
theorem wpOp_conv {src dst : TypeId} {x : Operand} {v : Value} (ho : ops[i]? = some o) (hg : o.guard = none) (hop : o.op = .convert src dst x) (hrun : (convert src dst (a.eval x)).run P w = .ok v w) (h : K (a.put o.dst v) w) : wpOp P ops Q i K a w := by
  refine wpOp_val ho hg (v := v) ?_ h
  unfold execOp
  rw [hop]
  simp only [Sem.run_bind, Sem.run_pure, hrun, Result.andThen]
theorem wpOp_assign {x : Operand} (ho : ops[i]? = some o) (hg : o.guard = none) (hop : o.op = .assign x) (h : K (a.put o.dst (a.eval x)) w) : wpOp P ops Q i K a w := wpOp_val ho hg (Go.BigFrame.run_assign x hop _) h
theorem wpOp_move {x : Operand} (ho : ops[i]? = some o) (hg : o.guard = none) (hop : o.op = .move x) (h : K (a.put o.dst (a.eval x)) w) : wpOp P ops Q i K a w := wpOp_val ho hg (Go.BigFrame.run_move x hop _) h
end

theorem quiet_call {P : Program} {C : World → Prop} {o : Oper} {a : Act} {K : Act → Prop} {f : FuncId} {args : Array Value} {v : Value} (hrun : ∀ w, C w → (execOp a.eval o).run P w = .ok (.enter f args) w)
    (hc : ∀ w, C w → Calls P f args w (fun e w'' => e = .returned v ∧ C w'')) (hk : K (a.put o.dst v)) : o.quiet P a C K :=
  ⟨v, fun w hw => by unfold Oper.quietAt; rw [hrun w hw]; exact ⟨rfl, hc w hw⟩, hk⟩
theorem wp_region_quiet_C {P : Program} {id : Nat} {Q : Exit → Act → World → Prop} {a : Act} {w : World} {l : List Oper} (C : World → Prop) (hm : P.follows .mixedOrders = true) (hB : Region.lexB .any l.toArray = true) (hC : C w.drew)
    (h : wpQuiet P l.toArray C (fun a' => ∀ w', C w' → Q .normal a' w') l a) : (Code.region id l.toArray true).wp P Q a w :=
  wp_region_quiet (C := C) hm hB hC (by simpa using h)

theorem str_cut (l : List UInt8) (k : Nat) : ((str l).extract 0 k).data.toList = l.take k := by
  simp [str, ByteArray.extract, ByteArray.copySlice]

/-- string(b), as the model runs it -/
theorem run_str8 {w : World} {A : Option Addr} {n c : Nat} {l : List UInt8} (hr : Rd w A (u8s l)) (hn : l.length = n) (h0 : 0 < n) : (convert 57 9 (.slice A n c)).run Try.prog w = .ok (.string (str l)) w := by
  obtain ⟨b, o', rfl, hc⟩ := hr (by rw [u8s_length]; omega)
  have := run_convert_bytes_arg (P := Try.prog) w 57 5 Try.underlying57 Try.underlying5 b o' n c (l.map fun c => (c.toNat : Int)) (by simpa using hn) (fun i hi => by
    rw [hc i _ (u8s_at (by omega))]
    simp [show i < l.length from by omega]) 9 Try.underlying9
  rw [this, strOfNums_u8]

set_option maxRecDepth 100000 in
set_option maxHeartbeats 1000000 in
theorem order_law (x y : Int) (w : World) (hx0 : -9223372036854775808 ≤ x) (hx1 : x ≤ 9223372036854775807) (hy0 : -9223372036854775808 ≤ y) (hy1 : y ≤ 9223372036854775807) :
    Calls Try.prog 9 #[.int .i64 x, .int .i64 y] w (RetT w) := by
  have hl1 := Wz.enc_length x hx0 hx1
  have hl2 := Wz.enc_length y hy0 hy1
  have HL := Lib.hid (Wz.less_enc x y hx0 hx1 hy0 hy1)
  have HF := Lib.hid (Wz.enc_free x y hx0 hx1 hy0 hy1)
  have HPQ : Hid (Wz.enc x = Wz.enc y ↔ x = y) := Lib.hid ⟨fun h => Wz.enc_inj hx0 hx1 hy0 hy1 h, fun h => by rw [h]⟩
  have cx := fun w => int_calls x w hx0 hx1
  have cy := fun w => int_calls y w hy0 hy1
  obtain ⟨p, hp⟩ : ∃ q, Wz.enc x = q := ⟨_, rfl⟩
  obtain ⟨q, hq⟩ : ∃ q, Wz.enc y = q := ⟨_, rfl⟩
  rw [hp] at hl1 HL HF HPQ
  rw [hp] at cx
  rw [hq] at hl2 HL HF HPQ
  rw [hq] at cy
  obtain ⟨M, hM⟩ : ∃ L, p.length = L := ⟨_, rfl⟩
  obtain ⟨N, hN⟩ : ∃ L, q.length = L := ⟨_, rfl⟩
  rw [hM] at hl1 HF
  rw [hN] at hl2 HF
  have HM := Lib.hid hM; have HN := Lib.hid hN; have CX := Lib.hid cx; have CY := Lib.hid cy
  clear hM hN hp hq cx cy
  go_enter Try.func9, Try.ntmps9
  go_wp2_with fail
  go_cut [5, 6] (fun s5 s6 wc => s5 = .string (str p) ∧ s6 = .string (str q) ∧ Ext w wc)
  case first =>
    refine wp_region_any (by kernel_rfl) ?_
    refine wpAny_take (i := 0) (v := .int .i64 x) rfl (by kernel_rfl) (by kernel_rfl) (by kernel_rfl) (fun _ _ _ h => h) (Or.inl ⟨by rfl, fun w => Go.BigFrame.run_move (.tmp 0) rfl w⟩) ?_
    refine wpAny_take (i := 3) (v := .int .i64 y) rfl (by kernel_rfl) (by kernel_rfl) (by kernel_rfl) (fun _ _ _ h => h) (Or.inl ⟨by rfl, fun w => Go.BigFrame.run_move (.tmp 1) rfl w⟩) ?_
    refine wpAny_all (rs := [1]) (by kernel_rfl) (by simp) ?_
    intro i hi
    rw [List.mem_singleton] at hi
    subst hi
    refine wpOp_call rfl rfl (f := 40) (args := #[.int .i64 x]) ?_ ?_
    · go_simp
    refine (CX.out _).mono ?_
    rintro e w1 ⟨v1, rfl, hown1, hb1⟩
    obtain ⟨A1, c1, rfl, hc1, hm1, hr1⟩ := hown1.slice
    have HCV1 := Lib.hid (fun w' (h : Ext w1 w') => run_str8 (c := c1) (hr1.ext h) HM.out (by omega))
    rw [HM.out]
    clear hr1 hown1 hc1 hm1
    refine ⟨_, rfl, ?_⟩
    refine wpAny_all (rs := [2, 4]) (by kernel_rfl) (by simp) ?_
    intro i hi
    have hi2 : i = 2 ∨ i = 4 := by simpa using hi
    rcases hi2 with rfl | rfl
    · refine wpOp_conv rfl rfl rfl (HCV1.out _ (Ext.refl _)) ?_
      refine wpAny_all (rs := [4]) (by kernel_rfl) (by simp) ?_
      intro i hi
      rw [List.mem_singleton] at hi
      subst hi
      refine wpOp_call rfl rfl (f := 40) (args := #[.int .i64 y]) ?_ ?_
      · go_simp
      refine (CY.out _).mono ?_
      rintro e w2 ⟨v2, rfl, hown2, hb2⟩
      obtain ⟨A2, c2, rfl, hc2, hm2, hr2⟩ := hown2.slice
      have HCV2 := Lib.hid (run_str8 (c := c2) hr2 HN.out (by omega))
      have EE : Ext w w2 := (Ext.refl w).drew.trans ((Ext.of hb1).trans hb2)
      rw [HN.out]
      clear hr2 hown2 hc2 hm2
      refine ⟨_, rfl, ?_⟩
      refine wpAny_take (i := 6) (v := .string (str p)) rfl (by kernel_rfl) (by kernel_rfl) (by kernel_rfl) (fun _ _ _ h => h) (Or.inl ⟨by rfl, fun w => Go.BigFrame.run_assign (.tmp 10) rfl w⟩) ?_
      refine wpAny_all (rs := [5]) (by kernel_rfl) (by simp) ?_
      intro i hi
      rw [List.mem_singleton] at hi
      subst hi
      refine wpOp_conv rfl rfl rfl HCV2.out ?_
      refine wpAny_all (rs := [7]) (by kernel_rfl) (by simp) ?_
      intro i hi
      rw [List.mem_singleton] at hi
      subst hi
      refine wpOp_assign rfl rfl rfl ?_
      refine wpAny_done (by kernel_rfl) ?_ _
      go_wp2_with fail
      go_meet
      case rel => exact ⟨rfl, rfl, EE⟩
    · refine wpOp_call rfl rfl (f := 40) (args := #[.int .i64 y]) ?_ ?_
      · go_simp
      refine (CY.out _).mono ?_
      rintro e w2 ⟨v2, rfl, hown2, hb2⟩
      obtain ⟨A2, c2, rfl, hc2, hm2, hr2⟩ := hown2.slice
      have HCV2 := Lib.hid (run_str8 (c := c2) hr2 HN.out (by omega))
      have EE : Ext w w2 := (Ext.refl w).drew.trans ((Ext.of hb1).trans hb2)
      rw [HN.out]
      clear hr2 hown2 hc2 hm2
      refine ⟨_, rfl, ?_⟩
      refine wpAny_all (rs := [2, 5]) (by kernel_rfl) (by simp) ?_
      intro i hi
      have hi2 : i = 2 ∨ i = 5 := by simpa using hi
      rcases hi2 with rfl | rfl
      · refine wpOp_conv rfl rfl rfl (HCV1.out _ hb2) ?_
        refine wpAny_take (i := 6) (v := .string (str p)) rfl (by kernel_rfl) (by kernel_rfl) (by kernel_rfl) (fun _ _ _ h => h) (Or.inl ⟨by rfl, fun w => Go.BigFrame.run_assign (.tmp 10) rfl w⟩) ?_
        refine wpAny_all (rs := [5]) (by kernel_rfl) (by simp) ?_
        intro i hi
        rw [List.mem_singleton] at hi
        subst hi
        refine wpOp_conv rfl rfl rfl HCV2.out ?_
        refine wpAny_all (rs := [7]) (by kernel_rfl) (by simp) ?_
        intro i hi
        rw [List.mem_singleton] at hi
        subst hi
        refine wpOp_assign rfl rfl rfl ?_
        refine wpAny_done (by kernel_rfl) ?_ _
        go_wp2_with fail
        go_meet
        case rel => exact ⟨rfl, rfl, EE⟩
      · refine wpOp_conv rfl rfl rfl HCV2.out ?_
        refine wpAny_all (rs := [2]) (by kernel_rfl) (by simp) ?_
        intro i hi
        rw [List.mem_singleton] at hi
        subst hi
        refine wpOp_conv rfl rfl rfl (HCV1.out _ hb2) ?_
        refine wpAny_all (rs := [6]) (by kernel_rfl) (by simp) ?_
        intro i hi
        rw [List.mem_singleton] at hi
        subst hi
        refine wpOp_assign rfl rfl rfl ?_
        refine wpAny_all (rs := [7]) (by kernel_rfl) (by simp) ?_
        intro i hi
        rw [List.mem_singleton] at hi
        subst hi
        refine wpOp_assign rfl rfl rfl ?_
        refine wpAny_done (by kernel_rfl) ?_ _
        go_wp2_with fail
        go_meet
        case rel => exact ⟨rfl, rfl, EE⟩
  case rest =>
    obtain ⟨rfl, rfl, hE⟩ := hcut
    have hs1 : (str p).size = M := by rw [str_size]; exact HM.out
    have hs2 : (str q).size = N := by rw [str_size]; exact HN.out
    have t1 : (str p).toList = p := by rw [ByteArray.toList_eq]; rfl
    have t2 : (str q).toList = q := by rw [ByteArray.toList_eq]; rfl
    have hless : Op.bytesLess p q = decide (x < y) := HL.out
    have hz1 : (p == q) = (x == y) := by rw [Bool.eq_iff_iff, beq_iff_eq, beq_iff_eq]; exact HPQ.out
    obtain ⟨K, hK⟩ : ∃ K, K = min M N := ⟨_, rfl⟩
    have hk1 : (if N < M then (N : Int) else (M : Int)) = (K : Int) := by split <;> omega
    have hkM : K ≤ M := by omega
    have hkN : K ≤ N := by omega
    have hFK := HF.out K hK
    have HFK := Lib.hid hFK
    have t3 : (((str p).extract 0 K).toList == ((str q).extract 0 K).toList) = (x == y) := by
      rw [ByteArray.toList_eq, ByteArray.toList_eq, str_cut, str_cut, Bool.eq_iff_iff, beq_iff_eq, beq_iff_eq]; exact HFK.out
    clear hK hFK
    go_wp2_with fail
    refine wp_region_quiet_C (fun w' => Ext w w') (by kernel_rfl) (by kernel_rfl) hE.drew ?_
    go_big_quiet_want
    refine quiet_call (f := 38) (args := #[]) (v := .bool true) (fun w' _ => by go_simp) (fun w' h => (sanity_calls w').mono fun e w'' ⟨h1, h2⟩ => ⟨h1, h.trans h2⟩) ?_
    go_simp
    go_big_quiet_on
    repeat (first | go_big_quiet_skip | (go_big_quiet_want; go_big_quiet_op; go_big_quiet_on) | (go_big_quiet_want; go_big_quiet_op; refine ⟨_, fun _ _ => rfl, ?_⟩; go_big_quiet_on))
    refine wpQuiet_nil ?_
    intro w4 hw4
    go_wp2
    go_ret
    exact ⟨rfl, hw4⟩

end Go.Proofs.Ytcjeclddpkinkaa
