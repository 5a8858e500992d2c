/- The seat's program: facts that the evaluator asks for. -/
import Derived.Test.YtecflllnnbiheaaEv15
import Derived.Test.YtecflllnnbiheaaAnn
import Derived.Test.YtecflllnnbiheaaTy
set_option maxHeartbeats 4000000
set_option linter.unusedVariables false
set_option linter.unusedSimpArgs false
namespace Ev
open Go Go.Proofs
theorem prog_ok : progOk Try.prog ann = true := by kernel_rfl
theorem mixed : Try.prog.follows .mixedOrders = true := by kernel_rfl
/-- what the evaluator answers with 'true' -/
theorem seat_calls (ho : OrcOk Try.prog ann) {f : Nat} {args : List AV} {V : Array Value} {W : World} {G' : Hp} (h : ev Try.prog ann f args [] = some (.val (.bool true), G')) (hr : RepsA (gAll W) W args V) :
    Calls Try.prog f V W fun e W' => e = .returned (.bool true) ∧ RowKit.Below W.heap.size W W' :=
  law_calls mixed (noNum_of prog_ok) (fitsP_of prog_ok) ho h hr
end Ev
