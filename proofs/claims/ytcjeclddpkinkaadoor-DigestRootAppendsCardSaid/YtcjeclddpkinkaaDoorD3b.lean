/- building an array of four words -/
import Derived.Test.YtcjeclddpkinkaaDoorD2
set_option linter.unusedSimpArgs false
namespace Go.Proofs.YtcjeclddpkinkaaDoor
open Go.RowKit
theorem run_build4 (x0 x1 x2 x3 : Int) (w : World) : (Instr.build 175 #[(0, .int .u32 x0), (1, .int .u32 x1), (2, .int .u32 x2), (3, .int .u32 x3)]).run Tryd.prog w = .ok (.agg #[.int .u32 x0, .int .u32 x1, .int .u32 x2, .int .u32 x3]) w := by
  kernel_rfl
theorem wpList_build4 {w : World} {ops : Array Oper} {rest : List Oper} {o : Oper} {a : Act} {Q : Exit → Act → World → Prop} (hgd : o.guard = none) (x0 x1 x2 x3 : Operand) (ho : o.op = .build 175 #[(0, x0), (1, x1), (2, x2), (3, x3)])
    (y0 y1 y2 y3 : Int) (h0 : a.eval x0 = .int .u32 y0) (h1 : a.eval x1 = .int .u32 y1) (h2 : a.eval x2 = .int .u32 y2) (h3 : a.eval x3 = .int .u32 y3)
    (h : wpList Tryd.prog ops Q rest (a.put o.dst (.agg #[.int .u32 y0, .int .u32 y1, .int .u32 y2, .int .u32 y3])) w) : wpList Tryd.prog ops Q (o :: rest) a w := by
  refine wpList_value hgd ?_ h
  unfold execOp
  rw [ho]
  simp only [Sem.run_bind, Sem.run_pure, List.map_toArray, List.map_cons, List.map_nil, h0, h1, h2, h3, run_build4, Result.andThen]
end Go.Proofs.YtcjeclddpkinkaaDoor
