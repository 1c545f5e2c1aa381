/- SHA-256: compress. -/
import Derived.Test.YtcjeclddpkinkaaDoorD3b
import Derived.Outline
set_option linter.unusedSimpArgs false
set_option linter.unusedVariables false
namespace Go.Proofs.YtcjeclddpkinkaaDoor
open Go.RowKit

/-- the round constants -/
def Kc : List UInt32 := [
  0x428a2f98, 0x71374491, 0xb5c0fbcf, 0xe9b5dba5, 0x3956c25b, 0x59f111f1, 0x923f82a4, 0xab1c5ed5,
  0xd807aa98, 0x12835b01, 0x243185be, 0x550c7dc3, 0x72be5d74, 0x80deb1fe, 0x9bdc06a7, 0xc19bf174,
  0xe49b69c1, 0xefbe4786, 0x0fc19dc6, 0x240ca1cc, 0x2de92c6f, 0x4a7484aa, 0x5cb0a9dc, 0x76f988da,
  0x983e5152, 0xa831c66d, 0xb00327c8, 0xbf597fc7, 0xc6e00bf3, 0xd5a79147, 0x06ca6351, 0x14292967,
  0x27b70a85, 0x2e1b2138, 0x4d2c6dfc, 0x53380d13, 0x650a7354, 0x766a0abb, 0x81c2c92e, 0x92722c85,
  0xa2bfe8a1, 0xa81a664b, 0xc24b8b70, 0xc76c51a3, 0xd192e819, 0xd6990624, 0xf40e3585, 0x106aa070,
  0x19a4c116, 0x1e376c08, 0x2748774c, 0x34b0bcb5, 0x391c0cb3, 0x4ed8aa4a, 0x5b9cca4f, 0x682e6ff3,
  0x748f82ee, 0x78a5636f, 0x84c87814, 0x8cc70208, 0x90befffa, 0xa4506ceb, 0xbef9a3f7, 0xc67178f2]
/-- the initial hash value -/
def H0 : List UInt32 := [0x6a09e667, 0xbb67ae85, 0x3c6ef372, 0xa54ff53a, 0x510e527f, 0x9b05688c, 0x1f83d9ab, 0x5be0cd19]
/-- the cells of a row -/
def CellsAt (w : World) (b : Nat) (cs : List Value) : Prop := ∀ j v, cs[j]? = some v → w.cell? ⟨b, 0 + j, none⟩ = some v
/-- the package's variables hold what the text lays in them -/
structure Glo (w : World) : Prop where
  start : CellsAt w 0 (us H0)
  progc : CellsAt w 2 (us Kc)
theorem CellsAt.below {w w' : World} {b B : Nat} {cs : List Value} (h : CellsAt w b cs) (hb : Below B w w') (hB : b < B) : CellsAt w' b cs := fun j v hj => (hb.cell (p := ⟨b, 0 + j, none⟩) hB).trans (h j v hj)
theorem Glo.lt {w : World} (h : Glo w) : 3 ≤ w.heap.size := lt_of_cell (h.progc 0 (u 0x428a2f98) rfl)
theorem Glo.below {w w' : World} {B : Nat} (h : Glo w) (hb : Below B w w') (hB : 3 ≤ B) : Glo w' := ⟨h.start.below hb (by omega), h.progc.below hb (by omega)⟩
theorem Glo.ext {w w' : World} (h : Glo w) (hb : Ext w w') : Glo w' := h.below hb h.lt
/-- the same and the reference's own table -/
structure GloR (w : World) : Prop where
  glo : Glo w
  refc : CellsAt w 1 (us Kc)
theorem GloR.lt {w : World} (h : GloR w) : 3 ≤ w.heap.size := h.glo.lt
theorem GloR.below {w w' : World} {B : Nat} (h : GloR w) (hb : Below B w w') (hB : 3 ≤ B) : GloR w' := ⟨h.glo.below hb hB, h.refc.below hb (by omega)⟩
theorem GloR.ext {w w' : World} (h : GloR w) (hb : Ext w w') : GloR w' := h.below hb h.lt

/-- a state: eight words -/
structure St where
  (a b c d e f g h : UInt32)
def St.l (s : St) : List UInt32 := [s.a, s.b, s.c, s.d, s.e, s.f, s.g, s.h]
def chF (e f g : UInt32) : UInt32 := xr (an e f) (an (nt e) g)
def maF (a b c : UInt32) : UInt32 := xr (xr (an a b) (an a c)) (an b c)
def xF (s : St) (k w : UInt32) : UInt32 := ad (ad (ad (ad s.h (mx s.e 6 11 25)) (chF s.e s.f s.g)) k) w
def yF (s : St) : UInt32 := ad (mx s.a 2 13 22) (maF s.a s.b s.c)
def rnd (s : St) (k w : UInt32) : St := ⟨ad (xF s k w) (yF s), s.a, s.b, s.c, ad s.d (xF s k w), s.e, s.f, s.g⟩
def rnds (s : St) (W : List UInt32) : Nat → St
  | 0 => s
  | t + 1 => rnd (rnds s W t) (Kc.getD t 0) (W.getD t 0)
def addS (s v : St) : St := ⟨ad s.a v.a, ad s.b v.b, ad s.c v.c, ad s.d v.d, ad s.e v.e, ad s.f v.f, ad s.g v.g, ad s.h v.h⟩
/-- the state behind a block -/
def comp (s : St) (l : List UInt8) : St := addS s (rnds s (arrW l 64) 64)

/-- the sum, word by word: i words of each half are added -/
def adF (L P E : List UInt32) : Nat → List UInt32
  | 0 => L
  | i + 1 => ((adF L P E i).set i (ad ((adF L P E i).getD i 0) (P.getD i 0))).set (i + 4) (ad (((adF L P E i).set i (ad ((adF L P E i).getD i 0) (P.getD i 0))).getD (i + 4) 0) (E.getD i 0))
theorem adF_len (L P E : List UInt32) (h : L.length = 8) : ∀ i, (adF L P E i).length = 8
  | 0 => h
  | i + 1 => by rw [adF, List.length_set, List.length_set, adF_len L P E h i]
theorem adF_four (s v : St) : adF s.l [v.a, v.b, v.c, v.d] [v.e, v.f, v.g, v.h] 4 = (addS s v).l := rfl
theorem us_blk8 (t : Nat) (X : List UInt32) (h : X.length = 8) (ht : t < 8) : (us X)[t]? = some (.int .u32 ((X.getD t 0).toNat : Int)) := us_at (by omega)
theorem us_blk4 (t : Nat) (X : List UInt32) (h : X.length = 4) (ht : t < 4) : (us X)[t]? = some (.int .u32 ((X.getD t 0).toNat : Int)) := us_at (by omega)

theorem agg_8 : AggOf Tryd.prog 134 8 := ⟨by kernel_rfl, by kernel_rfl⟩
theorem agg_4 : AggOf Tryd.prog 175 4 := ⟨by kernel_rfl, by kernel_rfl⟩

set_option maxRecDepth 100000 in
theorem run_indexK (t : Nat) (h : t < 64) (w : World) : (Instr.index 139 (.agg (us Kc).toArray) (.int .i64 (t : Int))).run Tryd.prog w = .ok (.int .u32 ((Kc.getD t 0).toNat : Int)) w := by
  obtain ⟨i0, hi⟩ : ∃ i, Tryd.prog.info? 133 = some i := ⟨_, rfl⟩
  have hs : i0.size = 1 := by have h : (Tryd.prog.info? 133).map (·.size) = some 1 := by kernel_rfl
                              rw [hi] at h
                              exact Option.some.inj h
  have hc : (us Kc)[t]? = some (.int .u32 ((Kc.getD t 0).toNat : Int)) := us_blk t Kc rfl h
  obtain ⟨cs, hcs⟩ : ∃ cs, us Kc = cs := ⟨_, rfl⟩
  obtain ⟨v, hv⟩ : ∃ v, Value.int .u32 ((Kc.getD t 0).toNat : Int) = v := ⟨_, rfl⟩
  rw [hcs, hv] at hc
  rw [hcs, hv]
  have h0 : (0 : Int) ≤ (t : Int) ∧ (t : Int) < 64 := by omega
  simp [Instr.index, run_underlying Tryd.underlying139, run_underlying Tryd.underlying133, asIntOf, part, sizeOf, typeInfo, hi, hs, h, hc, Result.andThen, isAgg]
theorem wpList_index {P : Program} {w : World} {ops : Array Oper} {rest : List Oper} {o : Oper} {a : Act} {Q : Exit → Act → World → Prop} {T : TypeId} {v : Value} (hgd : o.guard = none) (x y : Operand) (ho : o.op = .index T x y)
    (hr : (Instr.index T (a.eval x) (a.eval y)).run P w = .ok v w) (h : wpList P ops Q rest (a.put o.dst v) w) : wpList P ops Q (o :: rest) a w := by
  refine wpList_value hgd ?_ h
  unfold execOp
  rw [ho]
  simp only [Sem.run_bind, Sem.run_pure, hr, Result.andThen]
theorem run_arrayAt4 (A : Option Addr) (c : Nat) (w : World) : (Instr.arrayAt 175 (.slice A 4 c)).run Tryd.prog w = .ok (.pointer A) w := by
  simp [Instr.arrayAt, run_underlying Tryd.underlying175, run_underlying Tryd.underlying133]

set_option maxRecDepth 100000 in
set_option maxHeartbeats 600000 in
/-- digest.compress -/
theorem compress_calls (s : St) (A : Option Addr) (cap : Nat) (l : List UInt8) (w : World) (hr : Rd w A (u8s l)) (hl : l.length = 64) (hcap : 64 ≤ cap) (hG : Glo w) :
    Calls Tryd.prog 84 #[.agg (us s.l).toArray, .slice A 64 cap] w (fun e w' => e = .returned (.agg (us (comp s l).l).toArray) ∧ Below w.heap.size w w') := by
  obtain ⟨a0, a1, a2, a3, a4, a5, a6, a7⟩ := s
  have HL := Lib.hid hl
  go_enter Tryd.func84, Tryd.ntmps84
  go_wp2_with (first
    | ((with_reducible show wpList _ _ _ (⟨some 2, _, _, _, _, _⟩ :: _) _ _); go_must (refine wpList_boxAgg 134 _ rfl (.tmp 0) rfl _ rfl ?_)))
  obtain ⟨w1, hw1⟩ : ∃ w1, (w.alloc (Obj.cells (us (St.mk a0 a1 a2 a3 a4 a5 a6 a7).l).toArray 134)).alloc (Obj.cells #[.int .u32 0, .int .u32 0, .int .u32 0, .int .u32 0, .int .u32 0, .int .u32 0, .int .u32 0, .int .u32 0] 134) = w1 := ⟨_, rfl⟩
  have E1 : Ext w w1 := hw1 ▸ ((Ext.refl w).alloc _).alloc _
  have H1 : Blk w1 w.heap.size 134 (us (St.mk a0 a1 a2 a3 a4 a5 a6 a7).l) := hw1 ▸ (Blk.new w _ 134).alloc _
  have R1 : Blk w1 (w.heap.size + 1) 134 (us [0, 0, 0, 0, 0, 0, 0, 0]) := by
    rw [← hw1]
    have := Blk.new (w.alloc (Obj.cells (us (St.mk a0 a1 a2 a3 a4 a5 a6 a7).l).toArray 134)) (us [0, 0, 0, 0, 0, 0, 0, 0]) 134
    rw [World.size_alloc] at this
    exact this
  have Z1 : w.heap.size + 2 ≤ w1.heap.size := by rw [← hw1]; simp
  simp only [hw1]
  clear hw1
  refine (schedule_calls A cap l w1 (hr.ext E1) hl hcap).mono ?_
  rintro e w2 ⟨rfl, E2⟩
  have E2' : Ext w1 w2 := E2
  have hWl := arrW_len l 64
  obtain ⟨W, hW⟩ : ∃ W, arrW l 64 = W := ⟨_, rfl⟩
  rw [hW] at hWl
  simp only [hW]
  clear hl
  go_upto_region 2 with (first
    | ((with_reducible show wpList _ _ _ (⟨Option.none, _, _, _, _, _⟩ :: _) _ _); go_must (refine wpList_storeNew agg_w w2 _ 139 rfl (.tmp 5) (.tmp 14) rfl rfl (us W) rfl (by rw [us_length, hWl]) rfl (us_one _) ?_)))
  have H2 := H1.below E2
  have R2 := R1.below E2
  have hG2 := (hG.ext E1).ext E2'
  have EE := E1.trans E2'
  have Z2 : w.heap.size + 2 ≤ w2.heap.size := Nat.le_trans Z1 E2.size
  obtain ⟨w3, hw3⟩ : ∃ w3, w2.alloc (Obj.cells (us W).toArray 139) = w3 := ⟨_, rfl⟩
  have H3 : Blk w3 w.heap.size 134 (us (St.mk a0 a1 a2 a3 a4 a5 a6 a7).l) := hw3 ▸ H2.alloc _
  have R3 : Blk w3 (w.heap.size + 1) 134 (us [0, 0, 0, 0, 0, 0, 0, 0]) := hw3 ▸ R2.alloc _
  have B3 : Blk w3 w2.heap.size 139 (us W) := hw3 ▸ Blk.new w2 (us W) 139
  have E3 : Ext w w3 := hw3 ▸ EE.alloc _
  have hG3 : Glo w3 := hw3 ▸ hG2.ext ((Ext.refl w2).alloc _)
  have Z3 : w2.heap.size + 1 = w3.heap.size := by rw [← hw3]; simp
  simp only [hw3]
  clear hw3 H2 R2 hG2 EE E2 E2' E1 H1 R1 Z1
  have c0 : w3.cell? ⟨w.heap.size, 0, none⟩ = some (.int .u32 (a0.toNat : Int)) := H3.cell 0
  have c1 : w3.cell? ⟨w.heap.size, 1, none⟩ = some (.int .u32 (a1.toNat : Int)) := H3.cell 1
  have c2 : w3.cell? ⟨w.heap.size, 2, none⟩ = some (.int .u32 (a2.toNat : Int)) := H3.cell 2
  have c3 : w3.cell? ⟨w.heap.size, 3, none⟩ = some (.int .u32 (a3.toNat : Int)) := H3.cell 3
  have c4 : w3.cell? ⟨w.heap.size, 4, none⟩ = some (.int .u32 (a4.toNat : Int)) := H3.cell 4
  have c5 : w3.cell? ⟨w.heap.size, 5, none⟩ = some (.int .u32 (a5.toNat : Int)) := H3.cell 5
  have c6 : w3.cell? ⟨w.heap.size, 6, none⟩ = some (.int .u32 (a6.toNat : Int)) := H3.cell 6
  have c7 : w3.cell? ⟨w.heap.size, 7, none⟩ = some (.int .u32 (a7.toNat : Int)) := H3.cell 7
  simp only [Act.put]
  obtain ⟨n, hn⟩ : ∃ n, w.heap.size = n := ⟨_, rfl⟩
  obtain ⟨m, hm⟩ : ∃ n, w2.heap.size = n := ⟨_, rfl⟩
  simp only [hn, hm] at H3 R3 B3 Z2 Z3 c0 c1 c2 c3 c4 c5 c6 c7 ⊢
  have HNn := Lib.hid hn
  clear hn hm
  go_cut [6, 7] (fun s6 s7 wc => ∃ p q : Nat, s6 = .pointer (some ⟨p, 0, none⟩) ∧ s7 = .pointer (some ⟨q, 0, none⟩) ∧ p ≠ q ∧ m < p ∧ m < q ∧ Blk wc n 134 (us (St.mk a0 a1 a2 a3 a4 a5 a6 a7).l) ∧ Blk wc (n + 1) 134 (us [0, 0, 0, 0, 0, 0, 0, 0]) ∧ Blk wc m 139 (us W) ∧ Blk wc p 175 (us [a0, a1, a2, a3]) ∧ Blk wc q 175 (us [a4, a5, a6, a7]) ∧ Ext w wc ∧ Glo wc)
  case first =>
    have hat := run_arrayAt4
    have hn0 : n < w3.heap.size := by omega
    have hn1 : n ≠ w3.heap.size := by omega
    have hn2 : n ≠ w3.heap.size + 1 := by omega
    go_region
    all_goals go_wp2_with fail
    all_goals go_meet
    all_goals
      refine ⟨_, _, rfl, rfl, by omega, by omega, by omega, ((H3.alloc _).alloc _).drew, ((R3.alloc _).alloc _).drew, ((B3.alloc _).alloc _).drew, ?_, ?_, ((E3.alloc _).alloc _).drew, hG3.ext (((Ext.refl w3).alloc _).alloc _).drew⟩
    · exact (Blk.new w3 (us [a0, a1, a2, a3]) 175).alloc _
    · have := Blk.new (w3.alloc (.cells (us [a0, a1, a2, a3]).toArray 175)) (us [a4, a5, a6, a7]) 175
      rw [World.size_alloc] at this
      exact this
    · have := Blk.new (w3.alloc (.cells (us [a4, a5, a6, a7]).toArray 175)) (us [a0, a1, a2, a3]) 175
      rw [World.size_alloc] at this
      exact this
    · exact (Blk.new w3 (us [a4, a5, a6, a7]) 175).alloc _
  case rest =>
    obtain ⟨p, q, rfl, rfl, hpq, hmp, hmq, N1, N2, N3, N4, N5, N6, N7⟩ := hcut
    have hK := run_indexK
    go_wp2_with (first
      | ((with_reducible show wpList _ _ _ (⟨some 21, _, _, _, _, _⟩ :: _) _ _); go_must (refine wpList_loadAgg agg_w wc rfl (.global 2) rfl 2 0 rfl (us Kc) rfl N7.progc ?_)))
    obtain ⟨KK, hKK⟩ : ∃ KK, (us Kc).toArray = KK := ⟨_, rfl⟩
    obtain ⟨SS, hSS⟩ : ∃ KK, (us (St.mk a0 a1 a2 a3 a4 a5 a6 a7).l).toArray = KK := ⟨_, rfl⟩
    simp only [hKK, hSS] at hK ⊢
    clear hKK hSS
    have HIK := Lib.hid hK
    clear hK
    have HW := Lib.hid hW
    clear hW hG hG3 H3 R3 B3 E3 c0 c1 c2 c3 c4 c5 c6 c7
    obtain ⟨S, hS⟩ : ∃ S, St.mk a0 a1 a2 a3 a4 a5 a6 a7 = S := ⟨_, rfl⟩
    have HS := Lib.hid hS
    have en : some n ≠ some q := by simp; omega
    have en1 : some (n + 1) ≠ some q := by simp; omega
    have em : some m ≠ some q := by simp; omega
    have ep : some p ≠ some q := by simp; omega
    have fn : some n ≠ some p := by simp; omega
    have fn1 : some (n + 1) ≠ some p := by simp; omega
    have fm : some m ≠ some p := by simp; omega
    have fq : some q ≠ some p := by simp; omega
    have lq : w.heap.size ≤ q := by rw [HNn.out]; omega
    have lp : w.heap.size ≤ p := by rw [HNn.out]; omega
    have np : n ≠ p := by omega
    have nq' : n ≠ q := by omega
    go_loopg [22] 64 (fun g i wr => ∃ t : Nat, i = .int .i64 (t : Int) ∧ t ≤ 64 ∧ 64 - t ≤ g ∧ Hid (Blk wr n 134 (us S.l) ∧ Blk wr (n + 1) 134 (us [0, 0, 0, 0, 0, 0, 0, 0]) ∧ Blk wr m 139 (us W) ∧ Blk wr p 175 (us [(rnds S W t).a, (rnds S W t).b, (rnds S W t).c, (rnds S W t).d]) ∧ Blk wr q 175 (us [(rnds S W t).e, (rnds S W t).f, (rnds S W t).g, (rnds S W t).h]) ∧ Ext w wr))
    case atStart => exact ⟨0, rfl, by omega, by omega, Lib.hid ⟨hS ▸ N1, N2, N3, hS ▸ N4, hS ▸ N5, N6⟩⟩
    case round =>
      clear hS N1 N2 N3 N4 N5 N6 N7
      obtain ⟨t, rfl, ht, hg, HH⟩ := hrel
      by_cases ht64 : t < 64
      · obtain ⟨N1, N2, N3, N4, N5, N6⟩ := HH.out
        have HV : Hid (rnds S W (t + 1) = rnd (rnds S W t) (Kc.getD t 0) (W.getD t 0)) := Lib.hid rfl
        obtain ⟨V, hV⟩ : ∃ V, rnds S W t = V := ⟨_, rfl⟩
        rw [hV] at N4 N5 HV
        clear hV HH
        obtain ⟨v0, v1, v2, v3, e0, e1, e2, e3⟩ := V
        have cw := (N3.cell t).trans (us_blk t W hWl ht64)
        have hKt := HIK.out t ht64
        obtain ⟨k, hk⟩ : ∃ k, Kc.getD t 0 = k := ⟨_, rfl⟩
        obtain ⟨wt, hwt⟩ : ∃ k, W.getD t 0 = k := ⟨_, rfl⟩
        rw [hk] at hKt HV; rw [hwt] at cw HV
        clear hk hwt
        have q0 : wr.cell? ⟨q, 0, none⟩ = some (.int .u32 (e0.toNat : Int)) := N5.cell 0
        have q1 : wr.cell? ⟨q, 1, none⟩ = some (.int .u32 (e1.toNat : Int)) := N5.cell 1
        have q2 : wr.cell? ⟨q, 2, none⟩ = some (.int .u32 (e2.toNat : Int)) := N5.cell 2
        have q3 : wr.cell? ⟨q, 3, none⟩ = some (.int .u32 (e3.toNat : Int)) := N5.cell 3
        have p0 : wr.cell? ⟨p, 0, none⟩ = some (.int .u32 (v0.toNat : Int)) := N4.cell 0
        have p1 : wr.cell? ⟨p, 1, none⟩ = some (.int .u32 (v1.toNat : Int)) := N4.cell 1
        have p2 : wr.cell? ⟨p, 2, none⟩ = some (.int .u32 (v2.toNat : Int)) := N4.cell 2
        have p3 : wr.cell? ⟨p, 3, none⟩ = some (.int .u32 (v3.toNat : Int)) := N4.cell 3
        have HN := Lib.hid (And.intro N1 (And.intro N2 (And.intro N3 (And.intro N4 (And.intro N5 N6)))))
        have HKT := Lib.hid hKt
        clear N1 N2 N3 N4 N5 N6 hKt
        have hd : decide ((t : Int) < 64) = true := decide_eq_true (by omega)
        go_upto_if 23 with fail
        go_upto_region 6 with (first
          | ((with_reducible show wpList _ _ _ (⟨some 25, _, _, _, _, _⟩ :: _) _ _); go_must (refine wpList_index rfl (.tmp 21) (.tmp 22) rfl (HKT.out wr) ?_)))
        have x1 := add32 e3 (mx e0 6 11 25)
        have x2 := and32 e0 e1
        have x3 : bits .xor .u32 (if IntKind.u32.signed = true then -1 else IntKind.u32.max) (e0.toNat : Int) = ((nt e0).toNat : Int) := not32 e0
        have x4 := and32 (nt e0) e2
        have x5 : bits .xor .u32 ((an e0 e1).toNat : Int) ((an (nt e0) e2).toNat : Int) = ((chF e0 e1 e2).toNat : Int) := xor32 _ _
        have x6 := add32 (ad e3 (mx e0 6 11 25)) (chF e0 e1 e2)
        have x7 := add32 (ad (ad e3 (mx e0 6 11 25)) (chF e0 e1 e2)) k
        have x8 := add32 (ad (ad (ad e3 (mx e0 6 11 25)) (chF e0 e1 e2)) k) wt
        have HX : Hid (xF (St.mk v0 v1 v2 v3 e0 e1 e2 e3) k wt = ad (ad (ad (ad e3 (mx e0 6 11 25)) (chF e0 e1 e2)) k) wt) := Lib.hid rfl
        obtain ⟨X, hX⟩ : ∃ X, ad (ad (ad (ad e3 (mx e0 6 11 25)) (chF e0 e1 e2)) k) wt = X := ⟨_, rfl⟩
        rw [hX] at x8 HX
        clear hX
        go_quiet (with_reducible refine Calls.quiet_of (mix_lit e0 6 11 25 6 11 25 (by decide) (by decide) (by decide) (by decide) (by decide) (by decide) (by decide) (by decide) (by decide) _))
        clear x1 x2 x3 x4 x5 x6 x7 x8
        go_upto_region 7 with fail
        obtain ⟨w6, hw6⟩ : ∃ v : World, wr.drewN nq = v := ⟨_, rfl⟩
        have aq_0 : w6.cell? ⟨q, 0, none⟩ = some (.int .u32 (e0.toNat : Int)) := by rw [← hw6]; exact q0
        have aq_1 : w6.cell? ⟨q, 1, none⟩ = some (.int .u32 (e1.toNat : Int)) := by rw [← hw6]; exact q1
        have aq_2 : w6.cell? ⟨q, 2, none⟩ = some (.int .u32 (e2.toNat : Int)) := by rw [← hw6]; exact q2
        have aq_3 : w6.cell? ⟨q, 3, none⟩ = some (.int .u32 (e3.toNat : Int)) := by rw [← hw6]; exact q3
        have ap_0 : w6.cell? ⟨p, 0, none⟩ = some (.int .u32 (v0.toNat : Int)) := by rw [← hw6]; exact p0
        have ap_1 : w6.cell? ⟨p, 1, none⟩ = some (.int .u32 (v1.toNat : Int)) := by rw [← hw6]; exact p1
        have ap_2 : w6.cell? ⟨p, 2, none⟩ = some (.int .u32 (v2.toNat : Int)) := by rw [← hw6]; exact p2
        have ap_3 : w6.cell? ⟨p, 3, none⟩ = some (.int .u32 (v3.toNat : Int)) := by rw [← hw6]; exact p3
        have HN6 : Hid (Blk w6 n 134 (us S.l) ∧ Blk w6 (n + 1) 134 (us [0, 0, 0, 0, 0, 0, 0, 0]) ∧ Blk w6 m 139 (us W) ∧ Blk w6 p 175 (us [v0, v1, v2, v3]) ∧ Blk w6 q 175 (us [e0, e1, e2, e3]) ∧ Ext w w6) := by rw [← hw6]; exact Lib.hid ⟨HN.out.1.drewN _, HN.out.2.1.drewN _, HN.out.2.2.1.drewN _, HN.out.2.2.2.1.drewN _, HN.out.2.2.2.2.1.drewN _, HN.out.2.2.2.2.2.drawn ⟨_, rfl⟩⟩
        simp only [hw6]
        clear hw6
        clear q0 q1 q2 q3 p0 p1 p2 p3 cw HN
        have y1 := and32 v0 v1
        have y2 := and32 v0 v2
        have y3 := xor32 (an v0 v1) (an v0 v2)
        have y4 := and32 v1 v2
        have y5 : bits .xor .u32 ((xr (an v0 v1) (an v0 v2)).toNat : Int) ((an v1 v2).toNat : Int) = ((maF v0 v1 v2).toNat : Int) := xor32 _ _
        have y6 := add32 (mx v0 2 13 22) (maF v0 v1 v2)
        have HY : Hid (yF (St.mk v0 v1 v2 v3 e0 e1 e2 e3) = ad (mx v0 2 13 22) (maF v0 v1 v2)) := Lib.hid rfl
        obtain ⟨Y, hY⟩ : ∃ Y, ad (mx v0 2 13 22) (maF v0 v1 v2) = Y := ⟨_, rfl⟩
        rw [hY] at y6 HY
        clear hY
        go_quiet (with_reducible refine Calls.quiet_of (mix_lit v0 2 13 22 2 13 22 (by decide) (by decide) (by decide) (by decide) (by decide) (by decide) (by decide) (by decide) (by decide) _))
        clear y1 y2 y3 y4 y5 y6
        go_upto_region 8 with fail
        obtain ⟨w7, hw7⟩ : ∃ v : World, w6.drewN nq = v := ⟨_, rfl⟩
        have bq_0 : w7.cell? ⟨q, 0, none⟩ = some (.int .u32 (e0.toNat : Int)) := by rw [← hw7]; exact aq_0
        have bq_1 : w7.cell? ⟨q, 1, none⟩ = some (.int .u32 (e1.toNat : Int)) := by rw [← hw7]; exact aq_1
        have bq_2 : w7.cell? ⟨q, 2, none⟩ = some (.int .u32 (e2.toNat : Int)) := by rw [← hw7]; exact aq_2
        have bq_3 : w7.cell? ⟨q, 3, none⟩ = some (.int .u32 (e3.toNat : Int)) := by rw [← hw7]; exact aq_3
        have bp_0 : w7.cell? ⟨p, 0, none⟩ = some (.int .u32 (v0.toNat : Int)) := by rw [← hw7]; exact ap_0
        have bp_1 : w7.cell? ⟨p, 1, none⟩ = some (.int .u32 (v1.toNat : Int)) := by rw [← hw7]; exact ap_1
        have bp_2 : w7.cell? ⟨p, 2, none⟩ = some (.int .u32 (v2.toNat : Int)) := by rw [← hw7]; exact ap_2
        have bp_3 : w7.cell? ⟨p, 3, none⟩ = some (.int .u32 (v3.toNat : Int)) := by rw [← hw7]; exact ap_3
        have HN7 : Hid (Blk w7 n 134 (us S.l) ∧ Blk w7 (n + 1) 134 (us [0, 0, 0, 0, 0, 0, 0, 0]) ∧ Blk w7 m 139 (us W) ∧ Blk w7 p 175 (us [v0, v1, v2, v3]) ∧ Blk w7 q 175 (us [e0, e1, e2, e3]) ∧ Ext w w7) := by rw [← hw7]; exact Lib.hid ⟨HN6.out.1.drewN _, HN6.out.2.1.drewN _, HN6.out.2.2.1.drewN _, HN6.out.2.2.2.1.drewN _, HN6.out.2.2.2.2.1.drewN _, HN6.out.2.2.2.2.2.drawn ⟨_, rfl⟩⟩
        simp only [hw7]
        clear hw7
        have z1 := add32 v3 X
        have z2 := add32 X Y
        go_upto_region 10 with (first
          | ((with_reducible show wpList _ _ _ (⟨some 82, _, _, _, _, _⟩ :: _) _ _); go_must (refine wpList_build4 rfl (.tmp 75) (.tmp 77) (.tmp 79) (.tmp 81) rfl _ _ _ _ rfl rfl rfl rfl ?_))
          | ((with_reducible show wpList _ _ _ (⟨some 92, _, _, _, _, _⟩ :: _) _ _); go_must (refine wpList_build4 rfl (.tmp 85) (.tmp 87) (.tmp 89) (.tmp 91) rfl _ _ _ _ rfl rfl rfl rfl ?_))
          | ((with_reducible show wpList _ _ _ (⟨Option.none, .store _ (.tmp 7) _, _, _, _, _⟩ :: _) _ _)
             go_must (refine wpList_storeBlk agg_4 w7 q 175 _ HN7.out.2.2.2.2.1 rfl (.tmp 7) (.tmp 82) rfl rfl (us [ad v3 X, e0, e1, e2]) rfl rfl rfl (us_one _) ?_)
             intro w8 hB8 hg8
             have HN8 : Hid (Blk w8 n 134 (us S.l) ∧ Blk w8 (n + 1) 134 (us [0, 0, 0, 0, 0, 0, 0, 0]) ∧ Blk w8 m 139 (us W) ∧ Blk w8 p 175 (us [v0, v1, v2, v3]) ∧ Blk w8 q 175 (us [ad v3 X, e0, e1, e2]) ∧ Ext w w8) := Lib.hid ⟨HN7.out.1.grown hg8 en, HN7.out.2.1.grown hg8 en1, HN7.out.2.2.1.grown hg8 em, HN7.out.2.2.2.1.grown hg8 ep, hB8, below_grownB HN7.out.2.2.2.2.2 hg8 lq HN7.out.2.2.2.2.2.size⟩
             have r0 : w8.cell? ⟨p, 0, none⟩ = some (.int .u32 (v0.toNat : Int)) := HN8.out.2.2.2.1.cell 0
             have r1 : w8.cell? ⟨p, 1, none⟩ = some (.int .u32 (v1.toNat : Int)) := HN8.out.2.2.2.1.cell 1
             have r2 : w8.cell? ⟨p, 2, none⟩ = some (.int .u32 (v2.toNat : Int)) := HN8.out.2.2.2.1.cell 2)
          | ((with_reducible show wpList _ _ _ (⟨Option.none, .store _ (.tmp 6) _, _, _, _, _⟩ :: _) _ _)
             go_must (refine wpList_storeBlk agg_4 _ p 175 _ HN8.out.2.2.2.1 rfl (.tmp 6) (.tmp 92) rfl rfl (us [ad X Y, v0, v1, v2]) rfl rfl rfl (us_one _) ?_)
             intro w9 hB9 hg9
             have HN9 : Hid (Blk w9 n 134 (us S.l) ∧ Blk w9 (n + 1) 134 (us [0, 0, 0, 0, 0, 0, 0, 0]) ∧ Blk w9 m 139 (us W) ∧ Blk w9 p 175 (us [ad X Y, v0, v1, v2]) ∧ Blk w9 q 175 (us [ad v3 X, e0, e1, e2]) ∧ Ext w w9) := Lib.hid ⟨HN8.out.1.grown hg9 fn, HN8.out.2.1.grown hg9 fn1, HN8.out.2.2.1.grown hg9 fm, hB9, HN8.out.2.2.2.2.1.grown hg9 fq, below_grownB HN8.out.2.2.2.2.2 hg9 lp HN8.out.2.2.2.2.2.size⟩))
        clear z1 z2
        go_wp2_with fail
        go_roundg (64 - (t + 1))
        case measure => omega
        case rel =>
          refine ⟨t + 1, by go_num, by omega, by omega, Lib.hid ?_⟩
          rw [HV.out]
          unfold rnd
          rw [HX.out, HY.out]
          exact HN9.out
      · have ht' : t = 64 := by omega
        subst ht'
        have hd : decide ((((64 : Nat) : Int)) < 64) = false := by decide
        go_upto_if 23 with fail
        obtain ⟨N1, N2, N3, N4, N5, N6⟩ := HH.out
        obtain ⟨V, hV⟩ : ∃ V, rnds S W 64 = V := ⟨_, rfl⟩
        rw [hV] at N4 N5
        have HV := Lib.hid hV
        clear hV HH
        have hPl : ([V.a, V.b, V.c, V.d] : List UInt32).length = 4 := rfl
        have hEl : ([V.e, V.f, V.g, V.h] : List UInt32).length = 4 := rfl
        have hSl : S.l.length = 8 := rfl
        have HF := Lib.hid (adF_four S V)
        obtain ⟨P, hP⟩ : ∃ P, [V.a, V.b, V.c, V.d] = P := ⟨_, rfl⟩
        obtain ⟨E, hE⟩ : ∃ P, [V.e, V.f, V.g, V.h] = P := ⟨_, rfl⟩
        obtain ⟨L, hL⟩ : ∃ P, S.l = P := ⟨_, rfl⟩
        rw [hP] at N4 hPl HF; rw [hE] at N5 hEl HF; rw [hL] at N1 hSl HF
        clear hP hE hL
        have HN := Lib.hid (And.intro N1 (And.intro N2 (And.intro N4 (And.intro N5 N6))))
        clear N1 N2 N3 N4 N5 N6
        go_wp2_with fail
        obtain ⟨wo, hwo⟩ : ∃ wo : World, wo = wr := ⟨_, rfl⟩
        subst hwo
        go_loopg [94] 4 (fun g i wr => ∃ j : Nat, i = .int .i64 (j : Int) ∧ j ≤ 4 ∧ 4 - j ≤ g ∧ Hid (Blk wr n 134 (us (adF L P E j)) ∧ Blk wr (n + 1) 134 (us [0, 0, 0, 0, 0, 0, 0, 0]) ∧ Blk wr p 175 (us P) ∧ Blk wr q 175 (us E) ∧ Ext w wr))
        case atStart => exact ⟨0, rfl, by omega, by omega, HN⟩
        case round =>
          clear HN
          obtain ⟨j, rfl, hj, hjg, HM⟩ := hrel
          by_cases hj4 : j < 4
          · obtain ⟨M1, M2, M3, M4, M5⟩ := HM.out
            have hd : decide ((j : Int) < 4) = true := decide_eq_true (by omega)
            have hAl := adF_len L P E hSl j
            have HA : Hid (adF L P E (j + 1) = ((adF L P E j).set j (ad ((adF L P E j).getD j 0) (P.getD j 0))).set (j + 4) (ad (((adF L P E j).set j (ad ((adF L P E j).getD j 0) (P.getD j 0))).getD (j + 4) 0) (E.getD j 0))) := Lib.hid rfl
            obtain ⟨T, hT⟩ : ∃ T, adF L P E j = T := ⟨_, rfl⟩
            rw [hT] at M1 hAl HA
            clear hT
            have b0 := (M1.cell j).trans (us_blk8 j T hAl (by omega))
            have b1 := (M3.cell j).trans (us_blk4 j P hPl (by omega))
            have f0 := M1.free j
            obtain ⟨x, hx⟩ : ∃ x, T.getD j 0 = x := ⟨_, rfl⟩
            obtain ⟨y, hy⟩ : ∃ x, P.getD j 0 = x := ⟨_, rfl⟩
            rw [hx] at b0 HA; rw [hy] at b1 HA
            clear hx hy
            have s1 := add32 x y
            have hTl : (T.set j (ad x y)).length = 8 := by rw [List.length_set]; exact hAl
            obtain ⟨T', hT'⟩ : ∃ T', T.set j (ad x y) = T' := ⟨_, rfl⟩
            have HT' := Lib.hid hT'
            rw [hT'] at hTl HA
            clear hT'
            have HMM := Lib.hid (And.intro M1 (And.intro M2 (And.intro M3 (And.intro M4 M5))))
            clear M1 M2 M3 M4 M5 HM
            go_upto_region 14 with fail
            go_region
            clear s1 b0 b1 f0
            go_upto_region 15 with fail
            obtain ⟨wt, hwt⟩ : ∃ v : World, (wr.setCell ⟨n, j, none⟩ (.int .u32 ((ad x y).toNat : Int))).drew = v := ⟨_, rfl⟩
            have HNN : Hid (Blk wt n 134 (us T') ∧ Blk wt (n + 1) 134 (us [0, 0, 0, 0, 0, 0, 0, 0]) ∧ Blk wt p 175 (us P) ∧ Blk wt q 175 (us E) ∧ Ext w wt) := by
              refine Lib.hid ⟨?_, ?_, ?_, ?_, ?_⟩
              · rw [← hwt, ← HT'.out, us_set]
                exact (HMM.out.1.set j _).drew
              · rw [← hwt]; exact (HMM.out.2.1.setOther (by show n ≠ n + 1; omega) _).drew
              · rw [← hwt]; exact (HMM.out.2.2.1.setOther (by show n ≠ p; exact np) _).drew
              · rw [← hwt]; exact (HMM.out.2.2.2.1.setOther (by show n ≠ q; exact nq') _).drew
              · rw [← hwt]; exact (HMM.out.2.2.2.2.setCell (by show w.heap.size ≤ n; rw [HNn.out]; exact Nat.le_refl _) _).drew
            simp only [hwt]
            clear hwt HMM HT'
            have b0 := (HNN.out.1.cell (j + 4)).trans (us_blk8 (j + 4) T' hTl (by omega))
            have b1 := (HNN.out.2.2.2.1.cell j).trans (us_blk4 j E hEl (by omega))
            have f0 := HNN.out.1.free (j + 4)
            obtain ⟨x, hx⟩ : ∃ x, T'.getD (j + 4) 0 = x := ⟨_, rfl⟩
            obtain ⟨y, hy⟩ : ∃ x, E.getD j 0 = x := ⟨_, rfl⟩
            rw [hx] at b0 HA; rw [hy] at b1 HA
            clear hx hy
            have s1 := add32 x y
            go_region
            clear s1 b0 b1 f0
            go_wp2_with fail
            go_roundg (4 - (j + 1))
            case measure => omega
            case rel =>
              refine ⟨j + 1, by go_num, by omega, by omega, Lib.hid ⟨?_, ?_, ?_, ?_, ?_⟩⟩
              · rw [HA.out, us_set]
                exact (HNN.out.1.set (j + 4) _).drew
              · exact (HNN.out.2.1.setOther (by show n ≠ n + 1; omega) _).drew
              · exact (HNN.out.2.2.1.setOther (by show n ≠ p; exact np) _).drew
              · exact (HNN.out.2.2.2.1.setOther (by show n ≠ q; exact nq') _).drew
              · exact (HNN.out.2.2.2.2.setCell (by show w.heap.size ≤ n; rw [HNn.out]; exact Nat.le_refl _) _).drew
          · have hj4' : j = 4 := by omega
            subst hj4'
            have hd : decide ((((4 : Nat) : Int)) < 4) = false := by decide
            go_upto_region 17 with fail
            have HC : comp S l = addS S V := by unfold comp; rw [HW.out, HV.out]
            go_wp2_with (first
              | ((with_reducible show wpList _ _ _ (⟨some 115, _, _, _, _, _⟩ :: _) _ _); go_must (refine wpList_loadAgg agg_8 wr rfl (.tmp 2) rfl n 0 rfl (us (adF L P E 4)) (by rw [us_length, adF_len L P E hSl]) HM.out.1.agg ?_))
              | ((with_reducible show wpList _ _ _ (⟨Option.none, _, _, _, _, _⟩ :: _) _ _); go_must (refine wpList_storeBlk agg_8 wr (n + 1) 134 _ HM.out.2.1 rfl (.tmp 4) (.tmp 115) rfl rfl (us (adF L P E 4)) rfl (by rw [us_length, adF_len L P E hSl]) rfl (us_one _) ?_); intro wz hBz hgz))
            refine bodyPost_ret (results_cell rfl agg_8 _ wz (n + 1) rfl (us (adF L P E 4)) (by rw [us_length, adF_len L P E hSl]) 134 hBz) rfl ?_
            refine ⟨?_, below_grownB HM.out.2.2.2.2 hgz (by rw [HNn.out]; omega) HM.out.2.2.2.2.size⟩
            rw [HS.out, HC, HF.out]

end Go.Proofs.YtcjeclddpkinkaaDoor
