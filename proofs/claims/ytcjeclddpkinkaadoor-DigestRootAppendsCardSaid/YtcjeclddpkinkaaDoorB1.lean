/- Type facts of the program, and append at []byte and []int in short form. -/
import Derived.Test.YtcjeclddpkinkaaDoorB0
import Derived.Test.YtcjeclddpkinkaaDoorProg
import Derived.KernelRfl
import Derived.Laws.BytesArg
import Derived.Lib.ConvBytes
import Derived.Lib.AppendStr
set_option linter.unusedSimpArgs false
set_option linter.unusedVariables false
namespace Go.Proofs.YtcjeclddpkinkaaDoor
open Go.RowKit

theorem info_u8 : (Tryd.prog.info? 5).map (fun i => (i.zero, i.size, i.bytes)) = some (some (.int .u8 0), 1, 1) := by kernel_rfl
theorem info_int : (Tryd.prog.info? 3).map (fun i => (i.zero, i.size, i.bytes)) = some (some (.int .i64 0), 1, 8) := by kernel_rfl

/-- a []byte that the call owns from block base on -/
def Own8 (w : World) (base : Nat) (v : Value) (l : List UInt8) : Prop := w.ownsRow base 5 1 v l.length (u8s l)
/-- a []int that the call owns -/
def Own64 (w : World) (base : Nat) (v : Value) (l : List Int) : Prop := w.ownsRow base 3 1 v l.length (i64s l)

theorem Own8.nil (w : World) (base : Nat) : Own8 w base (.slice none 0 0) [] := World.ownsRow_nil _ _ _ _
theorem Own64.nil (w : World) (base : Nat) : Own64 w base (.slice none 0 0) [] := World.ownsRow_nil _ _ _ _
theorem Own8.rebase {w : World} {base base' : Nat} {v : Value} {l : List UInt8} (h : Own8 w base v l) (hb : base' ≤ base) : Own8 w base' v l := own_rebase h hb
theorem Own64.rebase {w : World} {base base' : Nat} {v : Value} {l : List Int} (h : Own64 w base v l) (hb : base' ≤ base) : Own64 w base' v l := own_rebase h hb
theorem Own8.below {w w1 : World} {base : Nat} {v : Value} {l : List UInt8} (h : Own8 w base v l) (hb : Below w.heap.size w w1) : Own8 w1 base v l := own_below h hb
theorem Own64.below {w w1 : World} {base : Nat} {v : Value} {l : List Int} (h : Own64 w base v l) (hb : Below w.heap.size w w1) : Own64 w1 base v l := own_below h hb
theorem Own8.alloc {w : World} {base : Nat} {v : Value} {l : List UInt8} (h : Own8 w base v l) (o : Obj) : Own8 (w.alloc o) base v l := World.ownsRow.alloc h o
theorem Own64.alloc {w : World} {base : Nat} {v : Value} {l : List Int} (h : Own64 w base v l) (o : Obj) : Own64 (w.alloc o) base v l := World.ownsRow.alloc h o
theorem Own8.slice {w : World} {base : Nat} {v : Value} {l : List UInt8} (h : Own8 w base v l) : ∃ A cap, v = .slice A l.length cap ∧ l.length ≤ cap ∧ cap ≤ maxLen ∧ Rd w A (u8s l) := own_slice h
theorem Own64.slice {w : World} {base : Nat} {v : Value} {l : List Int} (h : Own64 w base v l) : ∃ A cap, v = .slice A l.length cap ∧ l.length ≤ cap ∧ cap ≤ maxLen ∧ Rd w A (i64s l) := own_slice h
theorem Own8.base_le {w : World} {base : Nat} {v : Value} {l : List UInt8} (h : Own8 w base v l) : ∀ k, v.ownBlock = some k → base ≤ k ∧ k < w.heap.size := World.ownsRow.lt h
theorem Own64.base_le {w : World} {base : Nat} {v : Value} {l : List Int} (h : Own64 w base v l) : ∀ k, v.ownBlock = some k → base ≤ k ∧ k < w.heap.size := World.ownsRow.lt h
theorem Own8.kept {w w' : World} {base : Nat} {v : Value} {l : List UInt8} {row : Option Nat} (h : Own8 w base v l) (hg : w.grownBy w' row) (hne : v.ownBlock = none ∨ v.ownBlock ≠ row) : Own8 w' base v l := World.ownsRow.kept h hg hne
theorem Own64.kept {w w' : World} {base : Nat} {v : Value} {l : List Int} {row : Option Nat} (h : Own64 w base v l) (hg : w.grownBy w' row) (hne : v.ownBlock = none ∨ v.ownBlock ≠ row) : Own64 w' base v l := World.ownsRow.kept h hg hne

/-- a new row of one byte, as 'buildSlice' lays it -/
theorem Own8.new (w : World) (base : Nat) (hb : base ≤ w.heap.size) {X : Int} {c : UInt8} (hX : X = (c.toNat : Int)) : Own8 (w.alloc (.cells #[.int .u8 X] 5)) base (.slice (some ⟨w.heap.size, 0, none⟩) 1 1) [c] := by
  subst hX
  exact ⟨by simp [u8s], .inr ⟨w.heap.size, 1, #[.int .u8 (c.toNat : Int)], rfl, hb, heap_alloc_new w _, Nat.le_refl _, by simp [maxLen], rfl, rfl⟩⟩

theorem wpList_app8 (w : World) {ops : Array Oper} {rest : List Oper} {o : Oper} {a : Act} {Q : Exit → Act → World → Prop} (hgd : o.guard = none) (s x : Operand)
    (ho : o.op = .call { callee := .builtin .append, args := #[s, x], argTypes := #[34, 34] })
    (base : Nat) (v : Value) (l : List UInt8) (hs : a.eval s = v) (hown : Own8 w base v l) (A : Option Addr) (c : Nat) (news : List UInt8) (hx : a.eval x = .slice A news.length c) (hr : Rd w A (u8s news))
    (hbytes : l.length + news.length ≤ 140737488355328) (hbase : base ≤ w.heap.size)
    (h : ∀ v' w', Own8 w' base v' (l ++ news) → w.grownBy w' v.ownBlock → (∀ B w0, B ≤ base → Below B w0 w → Below B w0 w') → wpList Tryd.prog ops Q rest (a.put o.dst v') w') : wpList Tryd.prog ops Q (o :: rest) a w := by
  obtain ⟨i0, hi, hz0, hz1, hz2⟩ := info_parts info_u8
  refine wpList_app w hgd s x 34 ho base 5 i0 (.int .u8 0) 1 1 Tryd.underlying34 hi hz0 hz1 hz2 rfl (by decide) v l.length (u8s l) hs hown A news.length c (u8s news) hx (by simp [u8s_length]) hr (u8s_one _) (by omega) (by decide) hbase ?_
  intro v' w' h1 h2 _
  refine h v' w' (by unfold Own8; rw [u8s_append, List.length_append]; exact h1) h2 fun B w0 hB hb => hb.grown h2 (by omega) fun k hk => ?_
  have := hown.base_le k hk
  omega

theorem wpList_app8one (w0 : World) {ops : Array Oper} {rest : List Oper} {o : Oper} {a : Act} {Q : Exit → Act → World → Prop} (hgd : o.guard = none) (s x : Operand)
    (ho : o.op = .call { callee := .builtin .append, args := #[s, x], argTypes := #[34, 34] })
    (base : Nat) (v : Value) (l : List UInt8) (X : Int) (hs : a.eval s = v) (hown : Own8 w0 base v l) (hx : a.eval x = .slice (some ⟨w0.heap.size, 0, none⟩) 1 1) (c : UInt8) (hX : X = (c.toNat : Int))
    (hbytes : l.length < 140737488355328) (hbase : base ≤ w0.heap.size)
    (h : ∀ v' w', Own8 w' base v' (l ++ [c]) → (w0.alloc (.cells #[.int .u8 X] 5)).grownBy w' v.ownBlock → (∀ B w1, B ≤ base → Below B w1 w0 → Below B w1 w') → wpList Tryd.prog ops Q rest (a.put o.dst v') w') : wpList Tryd.prog ops Q (o :: rest) a (w0.alloc (.cells #[.int .u8 X] 5)) := by
  subst hX
  refine wpList_app8 _ hgd s x ho base v l hs (hown.alloc _) (some ⟨w0.heap.size, 0, none⟩) 1 [c] hx (Rd.one _ _ _) (by simp; omega) (by simp; omega) fun v' w' h1 h2 h3 => h v' w' h1 h2 fun B w1 hB hb => h3 B w1 hB (hb.alloc (by omega) _)

theorem wpList_app64 (w : World) {ops : Array Oper} {rest : List Oper} {o : Oper} {a : Act} {Q : Exit → Act → World → Prop} (hgd : o.guard = none) (s x : Operand)
    (ho : o.op = .call { callee := .builtin .append, args := #[s, x], argTypes := #[52, 52] })
    (base : Nat) (v : Value) (l : List Int) (hs : a.eval s = v) (hown : Own64 w base v l) (A : Option Addr) (c : Nat) (news : List Int) (hx : a.eval x = .slice A news.length c) (hr : Rd w A (i64s news))
    (hbytes : (l.length + news.length) * 8 ≤ 140737488355328) (hbase : base ≤ w.heap.size)
    (h : ∀ v' w', Own64 w' base v' (l ++ news) → w.grownBy w' v.ownBlock → (∀ B w0, B ≤ base → Below B w0 w → Below B w0 w') → wpList Tryd.prog ops Q rest (a.put o.dst v') w') : wpList Tryd.prog ops Q (o :: rest) a w := by
  obtain ⟨i0, hi, hz0, hz1, hz2⟩ := info_parts info_int
  refine wpList_app w hgd s x 52 ho base 3 i0 (.int .i64 0) 1 8 Tryd.underlying52 hi hz0 hz1 hz2 rfl (by decide) v l.length (i64s l) hs hown A news.length c (i64s news) hx (by simp [i64s_length]) hr (i64s_one _) (by omega) (by decide) hbase ?_
  intro v' w' h1 h2 _
  refine h v' w' (by unfold Own64; rw [i64s_append, List.length_append]; exact h1) h2 fun B w0 hB hb => hb.grown h2 (by omega) fun k hk => ?_
  have := hown.base_le k hk
  omega

theorem wpList_app64one (w0 : World) {ops : Array Oper} {rest : List Oper} {o : Oper} {a : Act} {Q : Exit → Act → World → Prop} (hgd : o.guard = none) (s x : Operand)
    (ho : o.op = .call { callee := .builtin .append, args := #[s, x], argTypes := #[52, 52] })
    (base : Nat) (v : Value) (l : List Int) (X : Int) (hs : a.eval s = v) (hown : Own64 w0 base v l) (hx : a.eval x = .slice (some ⟨w0.heap.size, 0, none⟩) 1 1)
    (hbytes : l.length < 17592186044416) (hbase : base ≤ w0.heap.size)
    (h : ∀ v' w', Own64 w' base v' (l ++ [X]) → (w0.alloc (.cells #[.int .i64 X] 3)).grownBy w' v.ownBlock → (∀ B w1, B ≤ base → Below B w1 w0 → Below B w1 w') → wpList Tryd.prog ops Q rest (a.put o.dst v') w') : wpList Tryd.prog ops Q (o :: rest) a (w0.alloc (.cells #[.int .i64 X] 3)) := by
  refine wpList_app64 _ hgd s x ho base v l hs (hown.alloc _) (some ⟨w0.heap.size, 0, none⟩) 1 [X] hx (Rd.one _ _ _) (by simp; omega) (by simp; omega) fun v' w' h1 h2 h3 => h v' w' h1 h2 fun B w1 hB hb => h3 B w1 hB (hb.alloc (by omega) _)

/-! ### strings -/
def str (l : List UInt8) : ByteArray := ⟨l.toArray⟩
theorem str_list (s : ByteArray) : str s.data.toList = s := rfl
theorem str_size (l : List UInt8) : (str l).size = l.length := by simp [str, ByteArray.size]
theorem str_inj {l m : List UInt8} (h : str l = str m) : l = m := by
  have := congrArg (fun s : ByteArray => s.data.toList) h
  simpa [str] using this
theorem strOfNums_u8 (l : List UInt8) : strOfNums (l.map fun c => (c.toNat : Int)) = str l := by
  simp [strOfNums, str, List.map_map, Function.comp_def]

/-- string(b) -/
theorem wpList_str8 (w : World) {ops : Array Oper} {rest : List Oper} {o : Oper} {a : Act} {Q : Exit → Act → World → Prop} (hgd : o.guard = none) (x : Operand) (ho : o.op = .convert 34 9 x)
    (A : Option Addr) (n c : Nat) (l : List UInt8) (hx : a.eval x = .slice A n c) (hr : Rd w A (u8s l)) (hn : l.length = n)
    (h : wpList Tryd.prog ops Q rest (a.put o.dst (.string (str l))) w) : wpList Tryd.prog ops Q (o :: rest) a w := by
  refine wpList_value hgd ?_ h
  unfold execOp
  rw [ho]
  have hrun : (convert 34 9 (.slice A n c)).run Tryd.prog w = .ok (.string (str l)) w := by
    rcases Nat.eq_zero_or_pos l.length with h0 | h0
    · have hl : l = [] := List.eq_nil_of_length_eq_zero h0
      subst hl
      subst hn
      cases A with
      | none => exact run_convert_bytes_nil w 34 5 Tryd.underlying34 Tryd.underlying5 _ _ _ Tryd.underlying9
      | some a =>
        have := run_convert_bytes_string (P := Tryd.prog) w 34 9 5 (some a) 0 c Tryd.underlying34 Tryd.underlying5 Tryd.underlying9
        show (convert 34 9 (.slice (some a) 0 c)).run Tryd.prog w = _
        rw [this]
        simp [Conv.bytesToString, loadCells, loadCellsFrom, str, Result.andThen]
        rfl
    · obtain ⟨b, o', rfl, hc⟩ := hr (by rw [u8s_length]; exact h0)
      have := run_convert_bytes_arg (P := Tryd.prog) w 34 5 Tryd.underlying34 Tryd.underlying5 b o' n c (l.map fun c => (c.toNat : Int)) (by simpa using hn) (fun i hi => by
        rw [hc i _ (u8s_at (by omega))]
        simp [show i < l.length from by omega]) 9 Tryd.underlying9
      rw [this, strOfNums_u8]
  simp only [Sem.run_bind, Sem.run_pure, hx, hrun, Result.andThen]

/-- []byte(s): a row of its own that is only read -/
theorem wpList_bytes8 (w : World) {ops : Array Oper} {rest : List Oper} {o : Oper} {a : Act} {Q : Exit → Act → World → Prop} (hgd : o.guard = none) (x : Operand) (ho : o.op = .convert 9 34 x)
    (s : ByteArray) (hx : a.eval x = .string s) (hs : s.size ≤ maxLen)
    (h : ∀ A c w', Rd w' A (u8s s.data.toList) → s.size ≤ c → c ≤ maxLen → Below w.heap.size w w' → wpList Tryd.prog ops Q rest (a.put o.dst (.slice A s.size c)) w') : wpList Tryd.prog ops Q (o :: rest) a w := by
  have hrd : Rd (Lib.bytesWorld w 5 s) (some ⟨w.heap.size, 0, none⟩) (u8s s.data.toList) := by
    intro _
    refine ⟨_, _, rfl, fun j u hu => ?_⟩
    have hj : j < s.data.toList.length := by
      have := (List.getElem?_eq_some_iff.1 hu).1
      rwa [u8s_length] at this
    rw [Nat.zero_add, Lib.bytesWorld_cell w _ s j (by simpa using hj)]
    rw [u8s_at hj] at hu
    exact hu
  have hbel : Below w.heap.size w (Lib.bytesWorld w 5 s) := ⟨by simp [Lib.bytesWorld, World.freeze]; rfl, by simp [Lib.bytesWorld, World.freeze], by simp [Lib.bytesWorld, World.freeze]; rfl, by rw [Lib.bytesWorld_size]; omega, fun k hk => Lib.bytesWorld_at_old w _ s k hk⟩
  refine wpList_value hgd ?_ (h _ _ _ hrd (grownCap_ge w s.size 0 5) (grownCap_le_maxLen w s.size 0 5 hs) hbel)
  unfold execOp
  rw [ho]
  have hrun := Lib.run_convert_string_bytes (P := Tryd.prog) w 9 34 5 s Tryd.underlying9 Tryd.underlying34 Tryd.underlying5
  simp only [Sem.run_bind, Sem.run_pure, hx, hrun, Result.andThen]

/-- append(b, s...) -/
theorem wpList_app8str (w : World) {ops : Array Oper} {rest : List Oper} {o : Oper} {a : Act} {Q : Exit → Act → World → Prop} (hgd : o.guard = none) (sl x : Operand)
    (ho : o.op = .call { callee := .builtin .append, args := #[sl, x], argTypes := #[34, 9] })
    (base : Nat) (v : Value) (l : List UInt8) (hs : a.eval sl = v) (hown : Own8 w base v l) (s : ByteArray) (hx : a.eval x = .string s)
    (hbytes : l.length + s.size ≤ 140737488355328) (hbase : base ≤ w.heap.size)
    (h : ∀ v' w', Own8 w' base v' (l ++ s.data.toList) → w.grownBy w' v.ownBlock → (∀ B w0, B ≤ base → Below B w0 w → Below B w0 w') → wpList Tryd.prog ops Q rest (a.put o.dst v') w') : wpList Tryd.prog ops Q (o :: rest) a w := by
  obtain ⟨i0, hi, hz0, hz1, hz2⟩ := info_parts info_u8
  refine Lib.wpList_append_own_string (w := w) hgd sl x 34 9 ho base 5 i0 Tryd.underlying34 Tryd.underlying9 hi hz0 hz1 hz2 v l.length (u8s l) hs hown s hx (by simp only [maxLen]; omega) hbytes hbase ?_
  intro v' w' h1 h2 _
  refine h v' w' ?_ h2 fun B w0 hB hb => hb.grown h2 (by omega) fun k hk => ?_
  · unfold Own8
    rw [u8s_append, List.length_append, Array.length_toList]
    exact h1
  · have := hown.base_le k hk
    omega

/-! ### bytes as the walk has them -/
theorem u8_lt (c : UInt8) : 0 ≤ (c.toNat : Int) ∧ (c.toNat : Int) ≤ 255 := by have := c.toNat_lt; omega
theorem ofNat8 (n : Nat) (h : n < 256) : ((UInt8.ofNat n).toNat : Int) = (n : Int) := by
  rw [UInt8.toNat_ofNat']; omega
theorem xor8_0' (x : Int) (h0 : 0 ≤ x) (h1 : x ≤ 255) : bits .xor .u8 x 0 = x := by
  obtain ⟨n, rfl⟩ := Int.eq_ofNat_of_zero_le h0
  have hn : n < 256 := by omega
  have e : (BitVec.ofInt 8 (n : Int)).toNat = n := by rw [BitVec.ofInt_natCast, BitVec.toNat_ofNat]; omega
  show IntKind.u8.wrap ((BitVec.ofInt 8 (n : Int) ^^^ BitVec.ofInt 8 0).toNat : Int) = _
  rw [show BitVec.ofInt 8 0 = 0#8 from by decide, BitVec.xor_zero, e, IntKind.wrap_u8]
  omega
theorem xor8_255' (x : Int) (h0 : 0 ≤ x) (h1 : x ≤ 255) : bits .xor .u8 x 255 = 255 - x := by
  obtain ⟨n, rfl⟩ := Int.eq_ofNat_of_zero_le h0
  have hn : n < 256 := by omega
  have e : (BitVec.ofInt 8 (n : Int)).toNat = n := by rw [BitVec.ofInt_natCast, BitVec.toNat_ofNat]; omega
  show IntKind.u8.wrap ((BitVec.ofInt 8 (n : Int) ^^^ BitVec.ofInt 8 255).toNat : Int) = _
  rw [show BitVec.ofInt 8 255 = BitVec.allOnes 8 from by decide, BitVec.xor_allOnes, BitVec.toNat_not, e, IntKind.wrap_u8]
  omega
theorem xor8_0 (c : UInt8) : bits .xor .u8 (c.toNat : Int) 0 = (c.toNat : Int) := xor8_0' _ (u8_lt c).1 (u8_lt c).2
theorem xor8_255 (c : UInt8) : bits .xor .u8 (c.toNat : Int) 255 = 255 - (c.toNat : Int) := xor8_255' _ (u8_lt c).1 (u8_lt c).2
theorem not64 (x : Int) (h0 : 0 ≤ x) (h1 : x ≤ 18446744073709551615) : bits .xor .u64 IntKind.u64.max x = 18446744073709551615 - x := by
  obtain ⟨n, rfl⟩ := Int.eq_ofNat_of_zero_le h0
  have e : (BitVec.ofInt 64 (n : Int)).toNat = n := by rw [BitVec.ofInt_natCast, BitVec.toNat_ofNat]; omega
  show IntKind.u64.wrap ((BitVec.ofInt 64 IntKind.u64.max ^^^ BitVec.ofInt 64 (n : Int)).toNat : Int) = _
  rw [show BitVec.ofInt 64 IntKind.u64.max = BitVec.allOnes 64 from by decide, BitVec.allOnes_xor, BitVec.toNat_not, e, IntKind.wrap_u64]
  omega
theorem pow64i : (2 : Int) ^ 64 = 18446744073709551616 := by decide
theorem w64 (n : Int) (h0 : 0 ≤ n) (h1 : n < 2 ^ 64) : IntKind.u64.wrap n = n := by
  rw [pow64i] at h1
  rw [IntKind.wrap_u64]
  exact Int.emod_eq_of_lt h0 h1
theorem lt64 (n : Nat) (h : n < 18446744073709551616) : n < 2 ^ 64 := Nat.lt_of_lt_of_eq h (by decide)
/-- 'm<<8 | c' -/
theorem or64 (m c : Nat) (hm : m * 256 + c < 18446744073709551616) (hc : c < 256) : bits .or .u64 ((m * 256 : Nat) : Int) (c : Int) = ((m * 256 + c : Nat) : Int) := by
  have h1 : m * 256 < 18446744073709551616 := Nat.lt_of_le_of_lt (Nat.le_add_right _ _) hm
  have h2 : c < 18446744073709551616 := Nat.lt_trans hc (by decide)
  have h := (bits_nat .u64 64 (by decide) w64 (m * 256) c (lt64 _ h1) (lt64 _ h2)).2
  rw [h]
  have := Nat.shiftLeft_add_eq_or_of_lt (i := 8) (b := c) (Nat.lt_of_lt_of_eq hc (by decide)) m
  rw [Nat.shiftLeft_eq] at this
  rw [show m * 256 = m * 2 ^ 8 from rfl, ← this]

end Go.Proofs.YtcjeclddpkinkaaDoor
