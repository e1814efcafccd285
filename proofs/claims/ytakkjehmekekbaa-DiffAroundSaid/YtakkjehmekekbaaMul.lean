/- A product of two ints whose value is told, as one step of the walk. -/
import Derived.Test.YtakkjehmekekbaaMay
namespace Go.Proofs.Ytakkjehmekekbaa
open Go.RowKit

theorem wpList_mul {P : Program} {w : World} {ops : Array Oper} {rest : List Oper} {o : Oper} {a : Act} {Q : Exit → Act → World → Prop} (hgd : o.guard = none) (s t : Operand)
    (ho : o.op = .binOp .mul 3 s t 3) (x y z : Int) (hs : a.eval s = .int .i64 x) (ht : a.eval t = .int .i64 y) (hz : IntKind.i64.wrap (x * y) = z)
    (h : wpList P ops Q rest (a.put o.dst (.int .i64 z)) w) : wpList P ops Q (o :: rest) a w := by
  subst hz
  refine wpList_plain hgd fun K hK => ?_
  unfold Oper.wp execOp
  simp only [ho]
  simp [hs, ht, eqGuard_mul, binOp_mul, Op.intArith]
  exact hK _ _ h
end Go.Proofs.Ytakkjehmekekbaa
