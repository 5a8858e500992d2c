/- Nodes as they are read. -/
import Derived.Test.YtecflllnnbiheaaT18
import Derived.Test.YtecflllnnbiheaaEv15
set_option maxHeartbeats 4000000
set_option linter.unusedVariables false
set_option linter.unusedSimpArgs false
namespace Ev
open Go Go.Proofs
set_option maxRecDepth 100000
variable {B : {H : Type} → DataW H → Nat}
theorem trim_whole {e : Env} {L : Hp} : trim L.length e L = L := by
  unfold trim
  rw [if_pos (Nat.le_refl _)]
mutual
def nbulk : NodeT → Nat
  | .mk _ s l => 1 + (s.length + (nbulks l + 1))
def nbulks : List NodeT → Nat
  | [] => 0
  | n :: l => nbulk n + nbulks l
end
theorem nbulks_sum : ∀ l, nbulks l = (l.map nbulk).sum
  | [] => rfl
  | n :: l => by rw [nbulks, nbulks_sum l]; rfl
mutual
theorem tsz_bulk : ∀ n, tsz n ≤ nbulk n
  | .mk _ s l => by have := tszs_bulk l; rw [tsz, nbulk]; omega
theorem tszs_bulk : ∀ l, tszs l ≤ nbulks l
  | [] => Nat.le_refl _
  | n :: l => by have := tsz_bulk n; have := tszs_bulk l; rw [tszs, nbulks]; omega
end
def rdNode : Rd NodeT := ⟨nodeA, nbulk, fun _ => True⟩
theorem node_cells (n : NodeT) : (nodeA n).cells.length = 3 := by cases n; rw [nodeA]; rfl
theorem rdNode_ok (hB : BulkOk B) : ∀ n, rdNode.OkAt Try.prog B 30 (2 * n)
  | 0 => fun enc W fuel cs x hf hx => by
    have : fuel = 0 := by omega
    subst this
    cases hx
  | n + 1 =>
    rdStruct_at hB (frCons (rdInt .i64) (frCons rdStr (frCons (rdSl rdNode) frNil))) rdNode (fun x => .mk x.1 x.2.1 x.2.2.1) Try.underlying30 tz30
      (frCons_at rfl tz3 (fun _ => rfl) (rdInt_ok hB Try.underlying3 _) (frCons_at rfl tz9 (fun _ => rfl) (rdStr_ok hB Try.underlying9 _)
        (frCons_at rfl tz28 (fun _ => rfl) (rdSl_at hB rdNode Try.underlying28 tz30 node_cells (rdNode_ok hB n)) frNil_ok)))
      (fun _ => rfl) (fun x => by
        show (nodeA (.mk x.1 x.2.1 x.2.2.1)).cells = [AV.int .i64 x.1] ++ ([AV.str x.2.1] ++ ([AV.sl (x.2.2.1.map nodeA) .no] ++ []))
        rw [nodeA, nodesA_map]; rfl) (fun x => by
        show nbulk (.mk x.1 x.2.1 x.2.2.1) ≤ 1 + (x.2.1.length + (((x.2.2.1.map nbulk).sum + 1) + 0))
        rw [nbulk, nbulks_sum]; omega) (fun _ _ => trivial)
end Ev
