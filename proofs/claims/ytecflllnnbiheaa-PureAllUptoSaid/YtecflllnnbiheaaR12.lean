/- Codes as they are read: instructions, blocks. -/
import Derived.Test.YtecflllnnbiheaaT00
set_option maxHeartbeats 4000000
set_option linter.unusedVariables false
set_option linter.unusedSimpArgs false
namespace Ev
open Go Go.Proofs
set_option maxRecDepth 100000
structure OpT where
  kind : Int
  n : Int
  s : List UInt8
  blocks : List Int
  deriving DecidableEq
def intsA (l : List Int) : AV := .sl (l.map (.int .i64)) .no
def opA (o : OpT) : AV := .agg [.int .i64 o.kind, .int .i64 o.n, .str o.s, intsA o.blocks]
abbrev CodeT := List (List OpT)
def blockA' (l : List OpT) : AV := .sl (l.map opA) .no
def codeA (c : CodeT) : AV := .agg [.sl (c.map blockA') .no]
variable {B : {H : Type} → DataW H → Nat}
def rdOp : Rd OpT := ⟨opA, fun o => o.s.length + o.blocks.length + 2, fun _ => True⟩
def rdCode : Rd CodeT := ⟨codeA, fun c => (c.map fun l => (l.map fun o => o.s.length + o.blocks.length + 2).sum + 1).sum, fun _ => True⟩
theorem sum_one : ∀ (l : List Int), (l.map fun _ => 1).sum = l.length
  | [] => rfl
  | x :: l => by simp [sum_one l]; omega
theorem rdInts_ok (hB : BulkOk B) (n : Nat) : (rdSl (rdInt .i64)).OkAt Try.prog B 22 (n + 1) := rdSl_at hB (rdInt .i64) Try.underlying22 tz3 (fun _ => rfl) (rdInt_ok hB Try.underlying3 n)
theorem rdOp_ok (hB : BulkOk B) (n : Nat) : rdOp.OkAt Try.prog B 44 (n + 2) :=
  rdStruct_at hB (frCons (rdInt .i64) (frCons (rdInt .i64) (frCons rdStr (frCons (rdSl (rdInt .i64)) frNil)))) rdOp (fun x => ⟨x.1, x.2.1, x.2.2.1, x.2.2.2.1⟩) Try.underlying44 tz44
    (frCons_at rfl tz3 (fun _ => rfl) (rdInt_ok hB Try.underlying3 _) (frCons_at rfl tz3 (fun _ => rfl) (rdInt_ok hB Try.underlying3 _)
      (frCons_at rfl tz9 (fun _ => rfl) (rdStr_ok hB Try.underlying9 _) (frCons_at rfl tz22 (fun _ => rfl) (rdInts_ok hB n) frNil_ok))))
    (fun _ => rfl) (fun _ => rfl) (fun x => by simp [rdOp, frCons, frNil, rdInt, rdStr, rdSl, sum_one]; omega) (fun _ _ => trivial)
theorem rdCode_ok (hB : BulkOk B) (n : Nat) : rdCode.OkAt Try.prog B 25 (n + 5) :=
  rdStruct_at hB (frCons (rdSl (rdSl rdOp)) frNil) rdCode (fun x => x.1) Try.underlying25 tz25
    (frCons_at rfl tz23 (fun _ => rfl) (rdSl_at hB (rdSl rdOp) Try.underlying23 tz42 (fun _ => rfl) (rdSl_at hB rdOp Try.underlying42 tz44 (fun _ => rfl) (rdOp_ok hB n))) frNil_ok)
    (fun _ => rfl) (fun x => rfl) (fun x => by
      show (x.1.map fun l => (l.map fun o => o.s.length + o.blocks.length + 2).sum + 1).sum ≤ ((x.1.map (rdSl rdOp).bulk).sum + 1) + 0
      have : (rdSl rdOp).bulk = fun l => (l.map fun o => o.s.length + o.blocks.length + 2).sum + 1 := rfl
      rw [this]; omega) (fun _ _ => trivial)
end Ev
