/- Words of 32 bits, as the walk has them. -/
import Derived.Test.YtcjeclddpkinkaaDoorWi
import Derived.Test.YtcjeclddpkinkaaDoorB2
import Derived.Outline
namespace Go.Proofs.YtcjeclddpkinkaaDoor
open Go.RowKit

/-! ### words of 32 bits -/
def u (x : UInt32) : Value := .int .u32 (x.toNat : Int)
def us (l : List UInt32) : List Value := l.map u
theorem us_length (l : List UInt32) : (us l).length = l.length := by simp [us]
theorem us_at {l : List UInt32} {j : Nat} (h : j < l.length) : (us l)[j]? = some (u (l.getD j 0)) := by
  simp [us, List.getD, List.getElem?_eq_getElem h]
theorem us_set (l : List UInt32) (j : Nat) (x : UInt32) : us (l.set j x) = (us l).set j (u x) := by simp [us, List.map_set]
theorem u32_lt (a : UInt32) : 0 ≤ (a.toNat : Int) ∧ (a.toNat : Int) ≤ 4294967295 := by have := a.toNat_lt; omega
def xr (a b : UInt32) : UInt32 := a ^^^ b
def an (a b : UInt32) : UInt32 := a &&& b
def ro (a b : UInt32) : UInt32 := a ||| b
def ad (a b : UInt32) : UInt32 := a + b
def nt (a : UInt32) : UInt32 := ~~~a
def sr (a : UInt32) (k : Nat) : UInt32 := a >>> UInt32.ofNat k
def sl (a : UInt32) (k : Nat) : UInt32 := a <<< UInt32.ofNat k
theorem bv32 (a : UInt32) : BitVec.ofInt 32 (a.toNat : Int) = a.toBitVec := by
  apply BitVec.eq_of_toNat_eq
  rw [BitVec.ofInt_natCast, BitVec.toNat_ofNat, UInt32.toNat_toBitVec]
  have := a.toNat_lt; omega
theorem w32 (n : Nat) (h : n < 4294967296) : IntKind.u32.wrap (n : Int) = (n : Int) := by rw [IntKind.wrap_u32]; omega
theorem xor32 (a b : UInt32) : bits .xor .u32 (a.toNat : Int) (b.toNat : Int) = ((xr a b).toNat : Int) := by
  show IntKind.u32.wrap ((BitVec.ofInt 32 (a.toNat : Int) ^^^ BitVec.ofInt 32 (b.toNat : Int)).toNat : Int) = _
  rw [bv32, bv32, xr, ← UInt32.toBitVec_xor, UInt32.toNat_toBitVec, w32 _ (UInt32.toNat_lt _)]
theorem and32 (a b : UInt32) : bits .and .u32 (a.toNat : Int) (b.toNat : Int) = ((an a b).toNat : Int) := by
  show IntKind.u32.wrap ((BitVec.ofInt 32 (a.toNat : Int) &&& BitVec.ofInt 32 (b.toNat : Int)).toNat : Int) = _
  rw [bv32, bv32, an, ← UInt32.toBitVec_and, UInt32.toNat_toBitVec, w32 _ (UInt32.toNat_lt _)]
theorem or32 (a b : UInt32) : bits .or .u32 (a.toNat : Int) (b.toNat : Int) = ((ro a b).toNat : Int) := by
  show IntKind.u32.wrap ((BitVec.ofInt 32 (a.toNat : Int) ||| BitVec.ofInt 32 (b.toNat : Int)).toNat : Int) = _
  rw [bv32, bv32, ro, ← UInt32.toBitVec_or, UInt32.toNat_toBitVec, w32 _ (UInt32.toNat_lt _)]
theorem add32 (a b : UInt32) : IntKind.u32.wrap ((a.toNat : Int) + (b.toNat : Int)) = ((ad a b).toNat : Int) := by
  rw [IntKind.wrap_u32, ad, UInt32.toNat_add]; omega
theorem not32 (a : UInt32) : bits .xor .u32 IntKind.u32.max (a.toNat : Int) = ((nt a).toNat : Int) := by
  show IntKind.u32.wrap ((BitVec.ofInt 32 IntKind.u32.max ^^^ BitVec.ofInt 32 (a.toNat : Int)).toNat : Int) = _
  rw [bv32, nt, show BitVec.ofInt 32 IntKind.u32.max = BitVec.allOnes 32 from by decide, BitVec.allOnes_xor, ← UInt32.toBitVec_not, UInt32.toNat_toBitVec, w32 _ (UInt32.toNat_lt _)]
theorem notX32 (a : UInt32) : bits .xor .u32 (a.toNat : Int) 4294967295 = ((nt a).toNat : Int) := by
  show IntKind.u32.wrap ((BitVec.ofInt 32 (a.toNat : Int) ^^^ BitVec.ofInt 32 4294967295).toNat : Int) = _
  rw [bv32, nt, show BitVec.ofInt 32 4294967295 = BitVec.allOnes 32 from by decide, BitVec.xor_allOnes, ← UInt32.toBitVec_not, UInt32.toNat_toBitVec, w32 _ (UInt32.toNat_lt _)]
theorem shr32 (a : UInt32) (k : Nat) (hk : k < 32) : (a.toNat : Int) / 2 ^ k = ((sr a k).toNat : Int) := by
  rw [sr, UInt32.toNat_shiftRight, Nat.shiftRight_eq_div_pow, UInt32.toNat_ofNat']
  have : k % 2 ^ 32 % 32 = k := by omega
  rw [this, Int.natCast_ediv, Int.natCast_pow]
  rfl
theorem shl32 (a : UInt32) (k : Nat) (hk : k < 32) : IntKind.u32.wrap ((a.toNat : Int) * 2 ^ k) = ((sl a k).toNat : Int) := by
  rw [sl, UInt32.toNat_shiftLeft, Nat.shiftLeft_eq, UInt32.toNat_ofNat', IntKind.wrap_u32]
  have : k % 2 ^ 32 % 32 = k := by omega
  rw [this, Int.natCast_emod, Int.natCast_mul, Int.natCast_pow]
  rfl
/-- a word, rotated right -/
def rot (x : UInt32) (k : Nat) : UInt32 := ro (sl x (32 - k)) (sr x k)
theorem rot_comm (x : UInt32) (k : Nat) : ro (sr x k) (sl x (32 - k)) = rot x k := UInt32.or_comm _ _
/-- the exclusive or of three rotations -/
def mx (x : UInt32) (i j k : Nat) : UInt32 := xr (xr (rot x i) (rot x j)) (rot x k)
theorem shr32' (a : UInt32) (k : Int) (h0 : 0 ≤ k) (hk : k < 32) : (a.toNat : Int) / 2 ^ k.toNat = ((sr a k.toNat).toNat : Int) := shr32 a k.toNat (by omega)

/-- the call returns v and turns nothing at all -/
def Still (w : World) (v : Value) (e : Ending) (w' : World) : Prop := e = .returned v ∧ w' = w

/-- the call returns v and draws at most -/
def Drw (w : World) (v : Value) (e : Ending) (w' : World) : Prop := e = .returned v ∧ Drawn w w'

theorem mask31 (i : Nat) (h0 : 0 < i) (h1 : i < 32) : bits .and .u64 (IntKind.u64.wrap (-(i : Int))) 31 = ((32 - i : Nat) : Int) := by
  have := bits_mask .u64 64 (by decide) w64 5 (by decide) (IntKind.u64.wrap (-(i : Int))) (by rw [IntKind.wrap_u64]; omega) (by rw [IntKind.wrap_u64, pow64i]; omega)
  rw [show (2 : Int) ^ 5 - 1 = 31 from by decide, show (2 : Int) ^ 5 = 32 from by decide] at this
  rw [this, IntKind.wrap_u64]
  omega

set_option maxRecDepth 100000 in
/-- bits.RotateLeft32 by a negative count rotates right -/
theorem rotl_calls (x : UInt32) (i : Nat) (h0 : 0 < i) (h1 : i < 32) (w : World) :
    Calls Tryd.prog 142 #[.int .u32 (x.toNat : Int), .int .i64 (-(i : Int))] w (Still w (.int .u32 ((rot x i).toNat : Int))) := by
  have hm := mask31 i h0 h1
  have hl := shl32 x (32 - i) (by omega)
  have hr : (x.toNat : Int) / 2 ^ (32 - (32 - i)) = ((sr x i).toNat : Int) := by rw [shr32 x (32 - (32 - i)) (by omega)]; rw [show 32 - (32 - i) = i from by omega]
  have ho : bits .or .u32 ((sl x (32 - i)).toNat : Int) ((sr x i).toNat : Int) = ((rot x i).toNat : Int) := or32 _ _
  go_enter Tryd.func142, Tryd.ntmps142
  go_wp2
  go_ret
  exact ⟨rfl, rfl⟩
theorem rotl_lit (x : UInt32) (k : Int) (i : Nat) (hk : k = -(i : Int)) (h0 : 0 < i) (h1 : i < 32) (w : World) :
    Calls Tryd.prog 142 #[.int .u32 (x.toNat : Int), .int .i64 k] w (Still w (.int .u32 ((rot x i).toNat : Int))) := by
  subst hk
  exact rotl_calls x i h0 h1 w
set_option maxRecDepth 100000 in
/-- the reference's rotr -/
theorem rotr_calls (x : UInt32) (i : Nat) (h0 : 0 < i) (h1 : i < 32) (w : World) :
    Calls Tryd.prog 87 #[.int .u32 (x.toNat : Int), .int .i64 (i : Int)] w (Drw w (.int .u32 ((rot x i).toNat : Int))) := by
  have hl := shl32 x (32 - i) (by omega)
  have hr := shr32 x i h1
  have ho : bits .or .u32 ((sr x i).toNat : Int) ((sl x (32 - i)).toNat : Int) = ((rot x i).toNat : Int) := by rw [← rot_comm]; exact or32 _ _
  go_enter Tryd.func87, Tryd.ntmps87
  go_wp2
  go_region
  go_wp2
  go_ret
  exact ⟨rfl, (Drawn.refl _).one⟩
theorem rotr_lit (x : UInt32) (k : Int) (i : Nat) (hk : k = (i : Int)) (h0 : 0 < i) (h1 : i < 32) (w : World) :
    Calls Tryd.prog 87 #[.int .u32 (x.toNat : Int), .int .i64 k] w (fun e w' => e = .returned (.int .u32 ((rot x i).toNat : Int)) ∧ ∃ n, w' = w.drewN n) := by
  subst hk
  exact rotr_calls x i h0 h1 w
set_option maxRecDepth 100000 in
/-- digest.mix -/
theorem mix_calls (x : UInt32) (i j k : Nat) (hi0 : 0 < i) (hi1 : i < 32) (hj0 : 0 < j) (hj1 : j < 32) (hk0 : 0 < k) (hk1 : k < 32) (w : World) :
    Calls Tryd.prog 132 #[.int .u32 (x.toNat : Int), .int .i64 (i : Int), .int .i64 (j : Int), .int .i64 (k : Int)] w (Still w (.int .u32 ((mx x i j k).toNat : Int))) := by
  have h1 := xor32 (rot x i) (rot x j)
  have h2 : bits .xor .u32 ((xr (rot x i) (rot x j)).toNat : Int) ((rot x k).toNat : Int) = ((mx x i j k).toNat : Int) := xor32 _ _
  go_enter Tryd.func132, Tryd.ntmps132
  go_wp2_with (first
    | ((with_reducible refine (rotl_calls x i hi0 hi1 _).mono ?_); rintro e wX ⟨rfl, rfl⟩)
    | ((with_reducible refine (rotl_calls x j hj0 hj1 _).mono ?_); rintro e wX ⟨rfl, rfl⟩)
    | ((with_reducible refine (rotl_calls x k hk0 hk1 _).mono ?_); rintro e wX ⟨rfl, rfl⟩))
  go_ret
  exact ⟨rfl, rfl⟩
theorem mix_lit (x : UInt32) (a b c : Int) (i j k : Nat) (ha : a = (i : Int)) (hb : b = (j : Int)) (hc : c = (k : Int)) (hi0 : 0 < i) (hi1 : i < 32) (hj0 : 0 < j) (hj1 : j < 32) (hk0 : 0 < k) (hk1 : k < 32) (w : World) :
    Calls Tryd.prog 132 #[.int .u32 (x.toNat : Int), .int .i64 a, .int .i64 b, .int .i64 c] w (fun e w' => e = .returned (.int .u32 ((mx x i j k).toNat : Int)) ∧ ∃ n, w' = w.drewN n) := by
  subst ha hb hc
  exact (mix_calls x i j k hi0 hi1 hj0 hj1 hk0 hk1 w).mono fun e w' h => ⟨h.1, 0, h.2⟩
attribute [irreducible] xr an ro ad nt sr sl rot mx

theorem cell_same {A B : World} {b o : Nat} (h : B.heap[b]? = A.heap[b]?) : B.cell? ⟨b, o, none⟩ = A.cell? ⟨b, o, none⟩ := by simp [World.cell?, h]
/-- the cells xs lie behind the address A, in a block below B -/
def RdB (w : World) (B : Nat) (A : Option Addr) (xs : List Value) : Prop := 0 < xs.length → ∃ b o, A = some ⟨b, o, none⟩ ∧ b < B ∧ ∀ j u, xs[j]? = some u → w.cell? ⟨b, o + j, none⟩ = some u
theorem RdB.rd {w : World} {B : Nat} {A : Option Addr} {xs : List Value} (h : RdB w B A xs) : Rd w A xs := fun hl => by
  obtain ⟨b, o, e, _, hc⟩ := h hl
  exact ⟨b, o, e, hc⟩
theorem RdB.of {w : World} {A : Option Addr} {xs : List Value} (h : Rd w A xs) : RdB w w.heap.size A xs := fun hl => by
  obtain ⟨b, o, e, hc⟩ := h hl
  exact ⟨b, o, e, lt_of_cell (hc 0 _ (List.getElem?_eq_getElem hl)), hc⟩
theorem RdB.kept {w w' : World} {B : Nat} {A : Option Addr} {xs : List Value} (h : RdB w B A xs) (hb : ∀ b, b < B → w'.heap[b]? = w.heap[b]?) : RdB w' B A xs := fun hl => by
  obtain ⟨b, o, e, hB, hc⟩ := h hl
  exact ⟨b, o, e, hB, fun j u hu => (cell_same (hb b hB)).trans (hc j u hu)⟩
theorem RdB.cut {w w' : World} {B : Nat} {A A' : Option Addr} {xs ys : List Value} (h : RdB w B A xs) (hr : Rd w' A' ys) (hA : ∀ q' : Addr, A' = some q' → ∃ q : Addr, A = some q ∧ q.block = q'.block) (hl : 0 < ys.length → 0 < xs.length) : RdB w' B A' ys := fun hy => by
  obtain ⟨b, o, e, hB, hc⟩ := h (hl hy)
  obtain ⟨b', o', e', hc'⟩ := hr hy
  obtain ⟨q, hq, hb⟩ := hA _ e'
  rw [e] at hq
  obtain rfl := Option.some.inj hq
  simp only at hb
  exact ⟨b', o', e', by omega, hc'⟩
/-- slicing, with the block that it stays in -/
theorem wpList_sliceB {P : Program} (w : World) {ops : Array Oper} {rest : List Oper} {o : Oper} {a : Act} {Q : Exit → Act → World → Prop} (hgd : o.guard = none) (x : Operand) (lo hi' : Option Operand) (t : TypeId)
    (ho : o.op = .slice t x lo hi' none) (e : TypeId) (i : TypeInfo) (size : Nat) (ht : P.underlying t = some (.slice e)) (hi : P.info? e = some i) (hsz : i.size = size)
    (A : Option Addr) (n cap : Nat) (xs : List Value) (hx : a.eval x = .slice A n cap) (hr : Rd w A xs) (hn : n ≤ cap) (l h : Nat)
    (hlo : (lo = none ∧ l = 0) ∨ ∃ p k, lo = some p ∧ a.eval p = .int k (l : Int)) (hhi : (hi' = none ∧ h = n) ∨ ∃ p k, hi' = some p ∧ a.eval p = .int k (h : Int)) (hlh : l ≤ h) (hhn : h ≤ n)
    (hK : ∀ A', Rd w A' ((xs.drop (l * size)).take ((h - l) * size)) → (∀ q' : Addr, A' = some q' → ∃ q : Addr, A = some q ∧ q.block = q'.block) → wpList P ops Q rest (a.put o.dst (.slice A' (h - l) (cap - l))) w) : wpList P ops Q (o :: rest) a w := by
  subst hsz
  refine wpList_value (w' := w) hgd ?_ (hK _ (hr.cut (n := n) (l := l) (m := h - l) (cap := cap) (s := i.size) (by omega) hn) ?_)
  · unfold execOp
    rw [ho]
    have h1 := run_slice_all3 (P := P) w t e i ht hi A n cap (lo.map a.eval) (hi'.map a.eval) l h
      (by rcases hlo with ⟨rfl, rfl⟩ | ⟨p, k, rfl, hp⟩
          · exact .inl ⟨rfl, rfl⟩
          · exact .inr ⟨k, by rw [Option.map_some, hp]⟩)
      (by rcases hhi with ⟨rfl, rfl⟩ | ⟨p, k, rfl, hp⟩
          · exact .inl ⟨rfl, rfl⟩
          · exact .inr ⟨k, by rw [Option.map_some, hp]⟩) hlh (by omega)
    simp only [Option.map_none, Sem.run_bind, Sem.run_pure, hx, h1, Result.andThen]
  · intro q' hA
    split at hA
    · exact ⟨q', hA, rfl⟩
    · cases A with
      | none => cases hA
      | some q =>
        simp only [Option.map_some, Option.some.injEq] at hA
        subst hA
        refine ⟨q, rfl, ?_⟩
        unfold Addr.add
        split <;> rfl
/-- what a call may do: new blocks alone, all else kept -/
def Ext (w w' : World) : Prop := Below w.heap.size w w'
theorem Ext.refl (w : World) : Ext w w := Below.refl _ _
theorem Ext.trans {a b c : World} (h : Ext a b) (k : Ext b c) : Ext a c := below_then h h.size k
theorem Ext.alloc {a b : World} (h : Ext a b) (o : Obj) : Ext a (b.alloc o) := Below.alloc h h.size o
theorem Ext.drawn {a b c : World} (h : Ext a b) (k : Drawn b c) : Ext a c := Below.trans h (k.below _)
theorem Ext.drew {a b : World} (h : Ext a b) : Ext a b.drew := h.drawn (Drawn.refl _).one
theorem Ext.of {a b : World} (h : Below a.heap.size a b) : Ext a b := h
theorem Rd.ext {w w' : World} {A : Option Addr} {xs : List Value} (h : Rd w A xs) (hb : Ext w w') : Rd w' A xs := h.below hb
theorem Own8.ext {w w' : World} {base : Nat} {v : Value} {l : List UInt8} (h : Own8 w base v l) (hb : Ext w w') : Own8 w' base v l := h.below hb
theorem Own64.ext {w w' : World} {base : Nat} {v : Value} {l : List Int} (h : Own64 w base v l) (hb : Ext w w') : Own64 w' base v l := h.below hb

/-- a law's answer -/
def RetT (w : World) (e : Ending) (w' : World) : Prop := e = .returned (.bool true) ∧ Ext w w'

/-- an operation whose guard is met -/
theorem wpList_guarded {P : Program} {w : World} {ops : Array Oper} {rest : List Oper} {o : Oper} {a : Act} {Q : Exit → Act → World → Prop} (hw : Region.wanted o (yielded ops a.tmps) = true)
    (h : wpList P ops Q ({ o with guard := none } :: rest) a w) : wpList P ops Q (o :: rest) a w := by
  have hn : Region.wanted { o with guard := none } (yielded ops a.tmps) = true := rfl
  unfold wpList at h ⊢
  rw [if_pos hn] at h
  rw [if_pos hw]
  exact h

theorem setRow_heap (w : World) (g j : Nat) (cs : Array Value) (h : j ≠ g) : (w.setRow g cs).heap[j]? = w.heap[j]? := by
  simp only [World.setRow, Array.getElem?_modify]
  rw [if_neg (fun e => h e.symm)]
theorem setRow_self (w : World) (g : Nat) (cur cs : Array Value) (ty : TypeId) (h : w.heap[g]? = some (.cells cur ty (0, 0))) : (w.setRow g cs).heap[g]? = some (.cells cs ty (0, 0)) := by
  simp [World.setRow, Array.getElem?_modify, h]
theorem setRow_size (w : World) (g : Nat) (cs : Array Value) : (w.setRow g cs).heap.size = w.heap.size := by simp [World.setRow]
/-- a store of a whole value into a block that lies there -/
theorem wpList_storeBlk {P : Program} {t : TypeId} {n : Nat} (hT : AggOf P t n) (w : World) (g ty : Nat) (cur : List Value) (hg : Blk w g ty cur) {ops : Array Oper} {rest : List Oper} {o : Oper} {a : Act} {Q : Exit → Act → World → Prop} (hgd : o.guard = none) (p x : Operand) (ho : o.op = .store t p x)
    (hp : a.eval p = .pointer (some ⟨g, 0, none⟩)) (cs : List Value) (hx : a.eval x = .agg cs.toArray) (hl : cs.length = n) (hcur : cur.length = n) (h1 : ∀ u ∈ cs, u.oneCell' = true)
    (h : ∀ w', Blk w' g ty cs → w.grownBy w' (some g) → wpList P ops Q rest (a.put o.dst undef) w') : wpList P ops Q (o :: rest) a w := by
  have hr := run_storeAgg hT w g 0 ty cur.toArray hg cs hl h1 (by simp [hcur])
  rw [List.take_zero, List.nil_append, Nat.zero_add, List.drop_of_length_le (by simp [hcur]), List.append_nil] at hr
  refine wpList_skip hgd ?_ (h (w.setRow g cs.toArray) (setRow_self w g _ _ ty hg) ⟨rfl, rfl, rfl, by rw [setRow_size]; exact Nat.le_refl _, fun i hi hne => setRow_heap w g i _ (fun e => hne (by rw [e]))⟩)
  unfold execOp
  rw [ho]
  simp only [Sem.run_bind, Sem.run_pure, hp, hx, hr, Result.andThen]
theorem us_one (l : List UInt32) : ∀ v ∈ us l, v.oneCell' = true := by
  intro v hv
  obtain ⟨x, _, rfl⟩ := List.mem_map.1 hv
  rfl
theorem Blk.agg {w : World} {B t : Nat} {cs : List Value} (h : Blk w B t cs) : ∀ j u, cs[j]? = some u → w.cell? ⟨B, 0 + j, none⟩ = some u := fun j u hu => by rw [Nat.zero_add, h.cell j]; exact hu

theorem results_cell {P : Program} {fn : Func} {t : Tmp} {T : TypeId} {n : Nat} (h : fn.results = #[.cell t T]) (hT : AggOf P T n) (tmps : Array Value) (w : World) (b : Nat) (hp : tmps.getD t undef = .pointer (some ⟨b, 0, none⟩)) (cs : List Value) (hl : cs.length = n) (ty : Nat) (hB : Blk w b ty cs) :
    (results fn tmps).run P w = .ok (.agg cs.toArray) w := by
  have h1 := run_loadAgg hT w b 0 cs hl hB.agg
  simp only [Instr.loadAt, Instr.sureAddr, Sem.run_bind, Sem.run_pure, Result.andThen] at h1
  rw [Array.getD_eq_getD_getElem?] at hp
  simp [results, h, Result.andThen]
  rw [hp]
  exact h1

theorem below_grownB {B g : Nat} {w a b : World} (h : Below B w a) (hg : a.grownBy b (some g)) (hB : B ≤ g) (hs : B ≤ a.heap.size) : Below B w b :=
  ⟨hg.os.trans h.os, hg.tape.trans h.tape, hg.output.trans h.output, Nat.le_trans h.size hg.size, fun k hk => (hg.block k (by omega) (fun e => by have := Option.some.inj e; omega)).trans (h.block k hk)⟩

end Go.Proofs.YtcjeclddpkinkaaDoor
