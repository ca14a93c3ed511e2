/- The law Names walked: it returns true. -/
import Derived.Test.YtljmklohgpaopaaDoorTold
namespace Go.Proofs.YtljmklohgpaopaaDoor
open Go.RowKit

def errA (k : Int) (t : ByteArray) : Value := .agg #[.int .i64 k, .string t, .bool true]

/-- '==' between two errors in plain data. -/
theorem eql_err (k k' : Int) (t t' : ByteArray) (b b' : Bool) (w : World) :
    (binOp .eql 27 (.agg #[.int .i64 k, .string t, .bool b]) (.agg #[.int .i64 k', .string t', .bool b'])).run Tryd.prog w = .ok (.bool (k == k' && (t.toList == t'.toList && b == b'))) w := by
  have he := run_equalIn_struct (P := Tryd.prog) w 9999 27 #[.int .i64 k, .string t, .bool b] #[.int .i64 k', .string t', .bool b'] (by kernel_rfl) (by kernel_rfl)
  simp only [binOp]
  simp only [Op.equal, Op.maxDepth, Sem.run_bind, he]
  simp [go_sem, part]
  by_cases h1 : k = k' <;> by_cases h2 : t.toList = t'.toList <;> by_cases h3 : b = b' <;> simp [h1, h2, h3]

end Go.Proofs.YtljmklohgpaopaaDoor
