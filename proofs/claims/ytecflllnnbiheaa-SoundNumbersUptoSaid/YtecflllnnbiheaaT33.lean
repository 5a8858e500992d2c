/- Instructions that may be: both ways. -/
import Derived.Test.YtecflllnnbiheaaT32
import Derived.Test.YtecflllnnbiheaaEv18
import Derived.KernelRfl
set_option maxHeartbeats 4000000
set_option linter.unusedVariables false
set_option linter.unusedSimpArgs false
namespace Ev
open Go Go.Proofs
set_option maxRecDepth 10000
theorem part_mid {cs : List AV} {o n : Nat} : (AV.agg cs).part o true n = if o = 0 ∧ n = cs.length then some (.agg cs) else if o + n ≤ cs.length then some (.agg ((cs.drop o).take n)) else none := by
  simp only [AV.part, AV.cells, if_true]
  rfl
theorem kinds_call (L G : Hp) : callA (cfg Try.prog ann) 98 [] L G = some (.val (.agg [.int .i64 0, .bool false, .bool false, .bool false, .int .i64 0, .bool false, .bool true, .bool false, .int .i64 1, .bool false, .bool false, .bool false, .int .i64 3, .bool false, .bool false, .bool false, .int .i64 (-1), .bool true, .bool false, .bool false, .int .i64 (-1), .bool true, .bool true, .bool false, .int .i64 0, .bool false, .bool true, .bool true]), L, G) :=
  call_pure rfl rfl rfl rfl (ev_of_fuel (n := 1) (d := 2) (by kernel_rfl) : ev Try.prog ann _ [] [] = some (_, []))
def OpRes (r : Option Int) (x : Int) (ok : Bool) : Prop := match r with | some k => x = k ∧ ok = true | none => ok = false
theorem op_1 (n : Int) (s : List UInt8) (l : List Int) (b m : Int) (hl : l.length < 2 ^ 40) : ∃ (x : Int) (ok : Bool) (G' : Hp), OpRes (takesF ⟨1, n, s, l⟩ b m) x ok ∧ ev Try.prog ann 82 [.agg [.int .i64 1, .int .i64 n, .str s, .sl (l.map (.int .i64)) .no], .int .i64 b, .int .i64 m] [] = some (.val (.tup [.int .i64 x, .bool ok]), G') := by
  rw [fun_some Try.func82 rfl rfl]
  have hk := kinds_call
  by_cases hn : n = 0
  · subst hn
    cases l with
    | nil =>
      refine ⟨_, _, _, ?_, by simp only [go_sem, Nat.reduceEqDiff, Int.natCast_zero, Int.lt_irrefl, part_mid, hk, Int.reduceLT, Int.reduceLE, Int.reduceBEq, Int.reduceBNe, Int.reduceToNat, Int.reduceNeg, Int.reduceEq, Nat.reduceMul, Nat.reduceAdd, Nat.reduceLeDiff, Nat.reduceLT, show ((0 : Nat) < 2) = True from by decide, show ((0 : Nat) < 1) = True from by decide, show ((4 : Nat) = 0) = False from by decide, List.drop_succ_cons, List.drop_zero, List.take_succ_cons, List.take_zero, List.map_nil] <;> rfl⟩
      simp [OpRes, takesF, *]
    | cons y l =>
      have hp : ((0 : Int) < ((l.length + 1 : Nat) : Int)) = True := eq_true (by omega)
      refine ⟨_, _, _, ?_, by simp only [go_sem, Nat.reduceEqDiff, Int.natCast_zero, Int.lt_irrefl, part_mid, hk, Int.reduceLT, Int.reduceLE, Int.reduceBEq, Int.reduceBNe, Int.reduceToNat, Int.reduceNeg, Int.reduceEq, Nat.reduceMul, Nat.reduceAdd, Nat.reduceLeDiff, Nat.reduceLT, show ((0 : Nat) < 2) = True from by decide, show ((0 : Nat) < 1) = True from by decide, show ((4 : Nat) = 0) = False from by decide, List.drop_succ_cons, List.drop_zero, List.take_succ_cons, List.take_zero, hp] <;> rfl⟩
      simp [OpRes, takesF, *]
  · have e1 : (n != 0) = true := by simpa using hn
    refine ⟨_, _, _, ?_, by simp only [go_sem, Nat.reduceEqDiff, Int.natCast_zero, Int.lt_irrefl, part_mid, hk, Int.reduceLT, Int.reduceLE, Int.reduceBEq, Int.reduceBNe, Int.reduceToNat, Int.reduceNeg, Int.reduceEq, Nat.reduceMul, Nat.reduceAdd, Nat.reduceLeDiff, Nat.reduceLT, show ((0 : Nat) < 2) = True from by decide, show ((0 : Nat) < 1) = True from by decide, show ((4 : Nat) = 0) = False from by decide, List.drop_succ_cons, List.drop_zero, List.take_succ_cons, List.take_zero, e1] <;> rfl⟩
    simp [OpRes, takesF, *]
theorem op_2 (n : Int) (s : List UInt8) (l : List Int) (b m : Int) (hl : l.length < 2 ^ 40) : ∃ (x : Int) (ok : Bool) (G' : Hp), OpRes (takesF ⟨2, n, s, l⟩ b m) x ok ∧ ev Try.prog ann 82 [.agg [.int .i64 2, .int .i64 n, .str s, .sl (l.map (.int .i64)) .no], .int .i64 b, .int .i64 m] [] = some (.val (.tup [.int .i64 x, .bool ok]), G') := by
  rw [fun_some Try.func82 rfl rfl]
  have hk := kinds_call
  by_cases hn : n = 0
  · subst hn
    by_cases hs : s = []
    · subst hs
      have e2 : (([] : List UInt8) != []) = false := rfl
      cases l with
      | nil =>
        refine ⟨_, _, _, ?_, by simp only [go_sem, Nat.reduceEqDiff, Int.natCast_zero, Int.lt_irrefl, part_mid, hk, Int.reduceLT, Int.reduceLE, Int.reduceBEq, Int.reduceBNe, Int.reduceToNat, Int.reduceNeg, Int.reduceEq, Nat.reduceMul, Nat.reduceAdd, Nat.reduceLeDiff, Nat.reduceLT, show ((0 : Nat) < 2) = True from by decide, show ((0 : Nat) < 1) = True from by decide, show ((4 : Nat) = 0) = False from by decide, List.drop_succ_cons, List.drop_zero, List.take_succ_cons, List.take_zero, e2, List.map_nil] <;> rfl⟩
        simp [OpRes, takesF, *]
      | cons y l =>
        have hp : ((0 : Int) < ((l.length + 1 : Nat) : Int)) = True := eq_true (by omega)
        refine ⟨_, _, _, ?_, by simp only [go_sem, Nat.reduceEqDiff, Int.natCast_zero, Int.lt_irrefl, part_mid, hk, Int.reduceLT, Int.reduceLE, Int.reduceBEq, Int.reduceBNe, Int.reduceToNat, Int.reduceNeg, Int.reduceEq, Nat.reduceMul, Nat.reduceAdd, Nat.reduceLeDiff, Nat.reduceLT, show ((0 : Nat) < 2) = True from by decide, show ((0 : Nat) < 1) = True from by decide, show ((4 : Nat) = 0) = False from by decide, List.drop_succ_cons, List.drop_zero, List.take_succ_cons, List.take_zero, e2, hp] <;> rfl⟩
        simp [OpRes, takesF, *]
    · have e2 : (s != []) = true := by simpa using hs
      refine ⟨_, _, _, ?_, by simp only [go_sem, Nat.reduceEqDiff, Int.natCast_zero, Int.lt_irrefl, part_mid, hk, Int.reduceLT, Int.reduceLE, Int.reduceBEq, Int.reduceBNe, Int.reduceToNat, Int.reduceNeg, Int.reduceEq, Nat.reduceMul, Nat.reduceAdd, Nat.reduceLeDiff, Nat.reduceLT, show ((0 : Nat) < 2) = True from by decide, show ((0 : Nat) < 1) = True from by decide, show ((4 : Nat) = 0) = False from by decide, List.drop_succ_cons, List.drop_zero, List.take_succ_cons, List.take_zero, e2] <;> rfl⟩
      simp [OpRes, takesF, *]
  · have e1 : (n != 0) = true := by simpa using hn
    refine ⟨_, _, _, ?_, by simp only [go_sem, Nat.reduceEqDiff, Int.natCast_zero, Int.lt_irrefl, part_mid, hk, Int.reduceLT, Int.reduceLE, Int.reduceBEq, Int.reduceBNe, Int.reduceToNat, Int.reduceNeg, Int.reduceEq, Nat.reduceMul, Nat.reduceAdd, Nat.reduceLeDiff, Nat.reduceLT, show ((0 : Nat) < 2) = True from by decide, show ((0 : Nat) < 1) = True from by decide, show ((4 : Nat) = 0) = False from by decide, List.drop_succ_cons, List.drop_zero, List.take_succ_cons, List.take_zero, e1] <;> rfl⟩
    simp [OpRes, takesF, *]
theorem op_3 (n : Int) (s : List UInt8) (l : List Int) (b m : Int) (hl : l.length < 2 ^ 40) : ∃ (x : Int) (ok : Bool) (G' : Hp), OpRes (takesF ⟨3, n, s, l⟩ b m) x ok ∧ ev Try.prog ann 82 [.agg [.int .i64 3, .int .i64 n, .str s, .sl (l.map (.int .i64)) .no], .int .i64 b, .int .i64 m] [] = some (.val (.tup [.int .i64 x, .bool ok]), G') := by
  rw [fun_some Try.func82 rfl rfl]
  have hk := kinds_call
  by_cases hn : n = 0
  · subst hn
    by_cases hs : s = []
    · subst hs
      have e2 : (([] : List UInt8) != []) = false := rfl
      cases l with
      | nil =>
        refine ⟨_, _, _, ?_, by simp only [go_sem, Nat.reduceEqDiff, Int.natCast_zero, Int.lt_irrefl, part_mid, hk, Int.reduceLT, Int.reduceLE, Int.reduceBEq, Int.reduceBNe, Int.reduceToNat, Int.reduceNeg, Int.reduceEq, Nat.reduceMul, Nat.reduceAdd, Nat.reduceLeDiff, Nat.reduceLT, show ((0 : Nat) < 2) = True from by decide, show ((0 : Nat) < 1) = True from by decide, show ((4 : Nat) = 0) = False from by decide, List.drop_succ_cons, List.drop_zero, List.take_succ_cons, List.take_zero, e2, List.map_nil] <;> rfl⟩
        simp [OpRes, takesF, *]
      | cons y l =>
        have hp : ((0 : Int) < ((l.length + 1 : Nat) : Int)) = True := eq_true (by omega)
        refine ⟨_, _, _, ?_, by simp only [go_sem, Nat.reduceEqDiff, Int.natCast_zero, Int.lt_irrefl, part_mid, hk, Int.reduceLT, Int.reduceLE, Int.reduceBEq, Int.reduceBNe, Int.reduceToNat, Int.reduceNeg, Int.reduceEq, Nat.reduceMul, Nat.reduceAdd, Nat.reduceLeDiff, Nat.reduceLT, show ((0 : Nat) < 2) = True from by decide, show ((0 : Nat) < 1) = True from by decide, show ((4 : Nat) = 0) = False from by decide, List.drop_succ_cons, List.drop_zero, List.take_succ_cons, List.take_zero, e2, hp] <;> rfl⟩
        simp [OpRes, takesF, *]
    · have e2 : (s != []) = true := by simpa using hs
      refine ⟨_, _, _, ?_, by simp only [go_sem, Nat.reduceEqDiff, Int.natCast_zero, Int.lt_irrefl, part_mid, hk, Int.reduceLT, Int.reduceLE, Int.reduceBEq, Int.reduceBNe, Int.reduceToNat, Int.reduceNeg, Int.reduceEq, Nat.reduceMul, Nat.reduceAdd, Nat.reduceLeDiff, Nat.reduceLT, show ((0 : Nat) < 2) = True from by decide, show ((0 : Nat) < 1) = True from by decide, show ((4 : Nat) = 0) = False from by decide, List.drop_succ_cons, List.drop_zero, List.take_succ_cons, List.take_zero, e2] <;> rfl⟩
      simp [OpRes, takesF, *]
  · have e1 : (n != 0) = true := by simpa using hn
    refine ⟨_, _, _, ?_, by simp only [go_sem, Nat.reduceEqDiff, Int.natCast_zero, Int.lt_irrefl, part_mid, hk, Int.reduceLT, Int.reduceLE, Int.reduceBEq, Int.reduceBNe, Int.reduceToNat, Int.reduceNeg, Int.reduceEq, Nat.reduceMul, Nat.reduceAdd, Nat.reduceLeDiff, Nat.reduceLT, show ((0 : Nat) < 2) = True from by decide, show ((0 : Nat) < 1) = True from by decide, show ((4 : Nat) = 0) = False from by decide, List.drop_succ_cons, List.drop_zero, List.take_succ_cons, List.take_zero, e1] <;> rfl⟩
    simp [OpRes, takesF, *]
theorem op_4 (n : Int) (s : List UInt8) (l : List Int) (b m : Int) (hl : l.length < 2 ^ 40) : ∃ (x : Int) (ok : Bool) (G' : Hp), OpRes (takesF ⟨4, n, s, l⟩ b m) x ok ∧ ev Try.prog ann 82 [.agg [.int .i64 4, .int .i64 n, .str s, .sl (l.map (.int .i64)) .no], .int .i64 b, .int .i64 m] [] = some (.val (.tup [.int .i64 x, .bool ok]), G') := by
  rw [fun_some Try.func82 rfl rfl]
  have hk := kinds_call
  by_cases hs : s = []
  · subst hs
    have e2 : (([] : List UInt8) != []) = false := rfl
    cases l with
    | nil =>
      by_cases h0 : n < 0
      · have h1 : ¬ 0 ≤ n := by omega
        refine ⟨_, _, _, ?_, by simp only [go_sem, Nat.reduceEqDiff, Int.natCast_zero, Int.lt_irrefl, part_mid, hk, Int.reduceLT, Int.reduceLE, Int.reduceBEq, Int.reduceBNe, Int.reduceToNat, Int.reduceNeg, Int.reduceEq, Nat.reduceMul, Nat.reduceAdd, Nat.reduceLeDiff, Nat.reduceLT, show ((0 : Nat) < 2) = True from by decide, show ((0 : Nat) < 1) = True from by decide, show ((4 : Nat) = 0) = False from by decide, List.drop_succ_cons, List.drop_zero, List.take_succ_cons, List.take_zero, e2, List.map_nil, h0] <;> rfl⟩
        simp [OpRes, takesF, *]
      · have h1 : 0 ≤ n := by omega
        refine ⟨_, _, _, ?_, by simp only [go_sem, Nat.reduceEqDiff, Int.natCast_zero, Int.lt_irrefl, part_mid, hk, Int.reduceLT, Int.reduceLE, Int.reduceBEq, Int.reduceBNe, Int.reduceToNat, Int.reduceNeg, Int.reduceEq, Nat.reduceMul, Nat.reduceAdd, Nat.reduceLeDiff, Nat.reduceLT, show ((0 : Nat) < 2) = True from by decide, show ((0 : Nat) < 1) = True from by decide, show ((4 : Nat) = 0) = False from by decide, List.drop_succ_cons, List.drop_zero, List.take_succ_cons, List.take_zero, e2, List.map_nil, h0] <;> rfl⟩
        simp [OpRes, takesF, *]
    | cons y l =>
      have hp : ((0 : Int) < ((l.length + 1 : Nat) : Int)) = True := eq_true (by omega)
      refine ⟨_, _, _, ?_, by simp only [go_sem, Nat.reduceEqDiff, Int.natCast_zero, Int.lt_irrefl, part_mid, hk, Int.reduceLT, Int.reduceLE, Int.reduceBEq, Int.reduceBNe, Int.reduceToNat, Int.reduceNeg, Int.reduceEq, Nat.reduceMul, Nat.reduceAdd, Nat.reduceLeDiff, Nat.reduceLT, show ((0 : Nat) < 2) = True from by decide, show ((0 : Nat) < 1) = True from by decide, show ((4 : Nat) = 0) = False from by decide, List.drop_succ_cons, List.drop_zero, List.take_succ_cons, List.take_zero, e2, hp] <;> rfl⟩
      simp [OpRes, takesF, *]
  · have e2 : (s != []) = true := by simpa using hs
    refine ⟨_, _, _, ?_, by simp only [go_sem, Nat.reduceEqDiff, Int.natCast_zero, Int.lt_irrefl, part_mid, hk, Int.reduceLT, Int.reduceLE, Int.reduceBEq, Int.reduceBNe, Int.reduceToNat, Int.reduceNeg, Int.reduceEq, Nat.reduceMul, Nat.reduceAdd, Nat.reduceLeDiff, Nat.reduceLT, show ((0 : Nat) < 2) = True from by decide, show ((0 : Nat) < 1) = True from by decide, show ((4 : Nat) = 0) = False from by decide, List.drop_succ_cons, List.drop_zero, List.take_succ_cons, List.take_zero, e2] <;> rfl⟩
    simp [OpRes, takesF, *]
theorem op_5 (n : Int) (s : List UInt8) (l : List Int) (b m : Int) (hl : l.length < 2 ^ 40) : ∃ (x : Int) (ok : Bool) (G' : Hp), OpRes (takesF ⟨5, n, s, l⟩ b m) x ok ∧ ev Try.prog ann 82 [.agg [.int .i64 5, .int .i64 n, .str s, .sl (l.map (.int .i64)) .no], .int .i64 b, .int .i64 m] [] = some (.val (.tup [.int .i64 x, .bool ok]), G') := by
  rw [fun_some Try.func82 rfl rfl]
  have hk := kinds_call
  have hf := fun L G => fits_call s n false L G
  cases l with
  | nil =>
    by_cases h0 : n < 0
    · have h1 : ¬ 0 ≤ n := by omega
      refine ⟨_, _, _, ?_, by simp only [go_sem, Nat.reduceEqDiff, Int.natCast_zero, Int.lt_irrefl, part_mid, hk, Int.reduceLT, Int.reduceLE, Int.reduceBEq, Int.reduceBNe, Int.reduceToNat, Int.reduceNeg, Int.reduceEq, Nat.reduceMul, Nat.reduceAdd, Nat.reduceLeDiff, Nat.reduceLT, show ((0 : Nat) < 2) = True from by decide, show ((0 : Nat) < 1) = True from by decide, show ((4 : Nat) = 0) = False from by decide, List.drop_succ_cons, List.drop_zero, List.take_succ_cons, List.take_zero, List.map_nil, h0] <;> rfl⟩
      simp [OpRes, takesF, *]
    · have h1 : 0 ≤ n := by omega
      cases h2 : fitsF s n false with
      | true =>
        refine ⟨_, _, _, ?_, by simp only [go_sem, Nat.reduceEqDiff, Int.natCast_zero, Int.lt_irrefl, part_mid, hk, Int.reduceLT, Int.reduceLE, Int.reduceBEq, Int.reduceBNe, Int.reduceToNat, Int.reduceNeg, Int.reduceEq, Nat.reduceMul, Nat.reduceAdd, Nat.reduceLeDiff, Nat.reduceLT, show ((0 : Nat) < 2) = True from by decide, show ((0 : Nat) < 1) = True from by decide, show ((4 : Nat) = 0) = False from by decide, List.drop_succ_cons, List.drop_zero, List.take_succ_cons, List.take_zero, List.map_nil, h0, hf, h2] <;> rfl⟩
        simp [OpRes, takesF, *]
      | false =>
        refine ⟨_, _, _, ?_, by simp only [go_sem, Nat.reduceEqDiff, Int.natCast_zero, Int.lt_irrefl, part_mid, hk, Int.reduceLT, Int.reduceLE, Int.reduceBEq, Int.reduceBNe, Int.reduceToNat, Int.reduceNeg, Int.reduceEq, Nat.reduceMul, Nat.reduceAdd, Nat.reduceLeDiff, Nat.reduceLT, show ((0 : Nat) < 2) = True from by decide, show ((0 : Nat) < 1) = True from by decide, show ((4 : Nat) = 0) = False from by decide, List.drop_succ_cons, List.drop_zero, List.take_succ_cons, List.take_zero, List.map_nil, h0, hf, h2] <;> rfl⟩
        simp [OpRes, takesF, *]
  | cons y l =>
    have hp : ((0 : Int) < ((l.length + 1 : Nat) : Int)) = True := eq_true (by omega)
    refine ⟨_, _, _, ?_, by simp only [go_sem, Nat.reduceEqDiff, Int.natCast_zero, Int.lt_irrefl, part_mid, hk, Int.reduceLT, Int.reduceLE, Int.reduceBEq, Int.reduceBNe, Int.reduceToNat, Int.reduceNeg, Int.reduceEq, Nat.reduceMul, Nat.reduceAdd, Nat.reduceLeDiff, Nat.reduceLT, show ((0 : Nat) < 2) = True from by decide, show ((0 : Nat) < 1) = True from by decide, show ((4 : Nat) = 0) = False from by decide, List.drop_succ_cons, List.drop_zero, List.take_succ_cons, List.take_zero, hp] <;> rfl⟩
    simp [OpRes, takesF, *]
theorem op_6 (n : Int) (s : List UInt8) (l : List Int) (b m : Int) (hl : l.length < 2 ^ 40) : ∃ (x : Int) (ok : Bool) (G' : Hp), OpRes (takesF ⟨6, n, s, l⟩ b m) x ok ∧ ev Try.prog ann 82 [.agg [.int .i64 6, .int .i64 n, .str s, .sl (l.map (.int .i64)) .no], .int .i64 b, .int .i64 m] [] = some (.val (.tup [.int .i64 x, .bool ok]), G') := by
  rw [fun_some Try.func82 rfl rfl]
  have hk := kinds_call
  have hf := fun L G => fits_call s l.length true L G
  by_cases hn : n = 0
  · subst hn
    simp only [go_sem, Nat.reduceEqDiff, Int.natCast_zero, Int.lt_irrefl, part_mid, hk, Int.reduceLT, Int.reduceLE, Int.reduceBEq, Int.reduceBNe, Int.reduceToNat, Int.reduceNeg, Int.reduceEq, Nat.reduceMul, Nat.reduceAdd, Nat.reduceLeDiff, Nat.reduceLT, show ((0 : Nat) < 2) = True from by decide, show ((0 : Nat) < 1) = True from by decide, show ((4 : Nat) = 0) = False from by decide, List.drop_succ_cons, List.drop_zero, List.take_succ_cons, List.take_zero]
    generalize hw : loopW _ _ _ _ _ _ = w
    obtain ⟨ou, rfl, hq⟩ : ∃ ou, w = some ou ∧ ((ou = (.exit 1, [(3, .ptr true 0 0 0 0)], [.row 0 [.agg [.int .i64 6, .int .i64 0, .str s, .sl (l.map (.int .i64)) .no]], .row 0 [.agg [.int .i64 0, .bool false, .bool true, .bool true]]], []) ∧ (l.all fun x => decide (b < x) && decide (x < m)) = true) ∨ (ou = (.ret, [(6, .int .i64 0), (7, .bool false)], [.row 0 [.agg [.int .i64 6, .int .i64 0, .str s, .sl (l.map (.int .i64)) .no]], .row 0 [.agg [.int .i64 0, .bool false, .bool true, .bool true]]], []) ∧ (l.all fun x => decide (b < x) && decide (x < m)) = false)) := by
      rw [← hw]
      clear hw
      refine loop_ex (σ := Nat) (fun i => [(1, .int .i64 b), (2, .int .i64 m), (3, .ptr true 0 0 0 0), (71, .sl (l.map (.int .i64)) .no), (72, .int .i64 l.length), (73, .int .i64 i)]) (fun _ => [.row 0 [.agg [.int .i64 6, .int .i64 0, .str s, .sl (l.map (.int .i64)) .no]], .row 0 [.agg [.int .i64 0, .bool false, .bool true, .bool true]]]) (fun _ => []) (fun i => i ≤ l.length ∧ (l.all fun x => decide (b < x) && decide (x < m)) = (l.drop i).all fun x => decide (b < x) && decide (x < m)) (fun i => l.length - i) _ ?_ 0 ⟨Nat.zero_le _, by simp⟩
      rintro i ⟨hi, hd⟩
      by_cases h : i < l.length
      · obtain ⟨x, hx⟩ : ∃ x, l[i]? = some x := ⟨_, List.getElem?_eq_getElem h⟩
        have hx' : (l.map (AV.int .i64))[i]? = some (.int .i64 x) := by rw [List.getElem?_map, hx]; rfl
        have hw : IntKind.i64.wrap ((i : Int) + 1) = ((i + 1 : Nat) : Int) := by rw [wrap_in] <;> omega
        have hdr : l.drop i = x :: l.drop (i + 1) := by
          obtain ⟨h1, rfl⟩ := List.getElem?_eq_some_iff.1 hx
          rw [List.drop_eq_getElem_cons h1]
        rw [hdr, List.all_cons] at hd
        by_cases h1 : x ≤ b
        · refine ⟨_, by simp only [go_sem, Nat.reduceEqDiff, Int.natCast_zero, Int.lt_irrefl, part_mid, hk, Int.reduceLT, Int.reduceLE, Int.reduceBEq, Int.reduceBNe, Int.reduceToNat, Int.reduceNeg, Int.reduceEq, Nat.reduceMul, Nat.reduceAdd, Nat.reduceLeDiff, Nat.reduceLT, show ((0 : Nat) < 2) = True from by decide, show ((0 : Nat) < 1) = True from by decide, show ((4 : Nat) = 0) = False from by decide, List.drop_succ_cons, List.drop_zero, List.take_succ_cons, List.take_zero, h, hx', hw, h1] <;> rfl, .inr ⟨_, rfl, .inr ⟨rfl, ?_⟩⟩⟩
          rw [hd, show decide (b < x) = false by simp; omega]; simp
        · by_cases h2 : m ≤ x
          · refine ⟨_, by simp only [go_sem, Nat.reduceEqDiff, Int.natCast_zero, Int.lt_irrefl, part_mid, hk, Int.reduceLT, Int.reduceLE, Int.reduceBEq, Int.reduceBNe, Int.reduceToNat, Int.reduceNeg, Int.reduceEq, Nat.reduceMul, Nat.reduceAdd, Nat.reduceLeDiff, Nat.reduceLT, show ((0 : Nat) < 2) = True from by decide, show ((0 : Nat) < 1) = True from by decide, show ((4 : Nat) = 0) = False from by decide, List.drop_succ_cons, List.drop_zero, List.take_succ_cons, List.take_zero, h, hx', hw, h1, h2] <;> rfl, .inr ⟨_, rfl, .inr ⟨rfl, ?_⟩⟩⟩
            rw [hd, show decide (x < m) = false by simp; omega]; simp
          · refine ⟨_, by simp only [go_sem, Nat.reduceEqDiff, Int.natCast_zero, Int.lt_irrefl, part_mid, hk, Int.reduceLT, Int.reduceLE, Int.reduceBEq, Int.reduceBNe, Int.reduceToNat, Int.reduceNeg, Int.reduceEq, Nat.reduceMul, Nat.reduceAdd, Nat.reduceLeDiff, Nat.reduceLT, show ((0 : Nat) < 2) = True from by decide, show ((0 : Nat) < 1) = True from by decide, show ((4 : Nat) = 0) = False from by decide, List.drop_succ_cons, List.drop_zero, List.take_succ_cons, List.take_zero, h, hx', hw, h1, h2] <;> rfl, .inl ⟨i + 1, ⟨by omega, ?_⟩, by omega, rfl⟩⟩
            rw [hd, show decide (b < x) = true by simp; omega, show decide (x < m) = true by simp; omega]; simp
      · have hdr : l.drop i = [] := List.drop_eq_nil_of_le (by omega)
        rw [hdr] at hd
        refine ⟨_, by simp only [go_sem, Nat.reduceEqDiff, Int.natCast_zero, Int.lt_irrefl, part_mid, hk, Int.reduceLT, Int.reduceLE, Int.reduceBEq, Int.reduceBNe, Int.reduceToNat, Int.reduceNeg, Int.reduceEq, Nat.reduceMul, Nat.reduceAdd, Nat.reduceLeDiff, Nat.reduceLT, show ((0 : Nat) < 2) = True from by decide, show ((0 : Nat) < 1) = True from by decide, show ((4 : Nat) = 0) = False from by decide, List.drop_succ_cons, List.drop_zero, List.take_succ_cons, List.take_zero, h] <;> rfl, .inr ⟨_, rfl, .inl ⟨rfl, by simpa using hd⟩⟩⟩
    rcases hq with ⟨rfl, ha⟩ | ⟨rfl, ha⟩
    · cases h2 : fitsF s l.length true with
      | true =>
        refine ⟨_, _, _, ?_, by simp only [go_sem, Nat.reduceEqDiff, Int.natCast_zero, Int.lt_irrefl, part_mid, hk, Int.reduceLT, Int.reduceLE, Int.reduceBEq, Int.reduceBNe, Int.reduceToNat, Int.reduceNeg, Int.reduceEq, Nat.reduceMul, Nat.reduceAdd, Nat.reduceLeDiff, Nat.reduceLT, show ((0 : Nat) < 2) = True from by decide, show ((0 : Nat) < 1) = True from by decide, show ((4 : Nat) = 0) = False from by decide, List.drop_succ_cons, List.drop_zero, List.take_succ_cons, List.take_zero, hf, h2] <;> rfl⟩
        simp [OpRes, takesF, *]
      | false =>
        refine ⟨_, _, _, ?_, by simp only [go_sem, Nat.reduceEqDiff, Int.natCast_zero, Int.lt_irrefl, part_mid, hk, Int.reduceLT, Int.reduceLE, Int.reduceBEq, Int.reduceBNe, Int.reduceToNat, Int.reduceNeg, Int.reduceEq, Nat.reduceMul, Nat.reduceAdd, Nat.reduceLeDiff, Nat.reduceLT, show ((0 : Nat) < 2) = True from by decide, show ((0 : Nat) < 1) = True from by decide, show ((4 : Nat) = 0) = False from by decide, List.drop_succ_cons, List.drop_zero, List.take_succ_cons, List.take_zero, hf, h2] <;> rfl⟩
        simp [OpRes, takesF, *]
    · refine ⟨_, _, _, ?_, by simp only [go_sem, Nat.reduceEqDiff, Int.natCast_zero, Int.lt_irrefl, part_mid, hk, Int.reduceLT, Int.reduceLE, Int.reduceBEq, Int.reduceBNe, Int.reduceToNat, Int.reduceNeg, Int.reduceEq, Nat.reduceMul, Nat.reduceAdd, Nat.reduceLeDiff, Nat.reduceLT, show ((0 : Nat) < 2) = True from by decide, show ((0 : Nat) < 1) = True from by decide, show ((4 : Nat) = 0) = False from by decide, List.drop_succ_cons, List.drop_zero, List.take_succ_cons, List.take_zero, List.map_nil] <;> rfl⟩
      simp [OpRes, takesF, *]
  · have e1 : (n != 0) = true := by simpa using hn
    refine ⟨_, _, _, ?_, by simp only [go_sem, Nat.reduceEqDiff, Int.natCast_zero, Int.lt_irrefl, part_mid, hk, Int.reduceLT, Int.reduceLE, Int.reduceBEq, Int.reduceBNe, Int.reduceToNat, Int.reduceNeg, Int.reduceEq, Nat.reduceMul, Nat.reduceAdd, Nat.reduceLeDiff, Nat.reduceLT, show ((0 : Nat) < 2) = True from by decide, show ((0 : Nat) < 1) = True from by decide, show ((4 : Nat) = 0) = False from by decide, List.drop_succ_cons, List.drop_zero, List.take_succ_cons, List.take_zero, e1] <;> rfl⟩
    simp [OpRes, takesF, *]
theorem takes_1 (n : Int) (s : List UInt8) (l : List Int) (b m : Int) (hl : l.length < 2 ^ 40) : ∃ (x : Int) (G' : Hp), ((takesF ⟨1, n, s, l⟩ b m = none ∧ x < 0) ∨ (takesF ⟨1, n, s, l⟩ b m = some x ∧ 0 ≤ x)) ∧ ev Try.prog ann 66 [.agg [.int .i64 1, .int .i64 n, .str s, .sl (l.map (.int .i64)) .no], .int .i64 b, .int .i64 m] [] = some (.val (.int .i64 x), G') := by
  rw [fun_some Try.func66 rfl rfl]
  by_cases hn : n = 0
  · subst hn
    cases l with
    | nil =>
      refine ⟨_, _, ?_, by simp only [go_sem, Nat.reduceEqDiff, Int.natCast_zero, Int.lt_irrefl, part_mid, Int.reduceLT, Int.reduceLE, Int.reduceBEq, Int.reduceBNe, Int.reduceToNat, Int.reduceNeg, Int.reduceEq, Nat.reduceMul, Nat.reduceAdd, Nat.reduceLeDiff, Nat.reduceLT, show ((0 : Nat) < 2) = True from by decide, show ((0 : Nat) < 1) = True from by decide, show ((4 : Nat) = 0) = False from by decide, List.drop_succ_cons, List.drop_zero, List.take_succ_cons, List.take_zero, List.map_nil] <;> rfl⟩
      exact .inr ⟨by simp [takesF, *], by omega⟩
    | cons y l =>
      have hp : ((0 : Int) < ((l.length + 1 : Nat) : Int)) = True := eq_true (by omega)
      refine ⟨_, _, ?_, by simp only [go_sem, Nat.reduceEqDiff, Int.natCast_zero, Int.lt_irrefl, part_mid, Int.reduceLT, Int.reduceLE, Int.reduceBEq, Int.reduceBNe, Int.reduceToNat, Int.reduceNeg, Int.reduceEq, Nat.reduceMul, Nat.reduceAdd, Nat.reduceLeDiff, Nat.reduceLT, show ((0 : Nat) < 2) = True from by decide, show ((0 : Nat) < 1) = True from by decide, show ((4 : Nat) = 0) = False from by decide, List.drop_succ_cons, List.drop_zero, List.take_succ_cons, List.take_zero, hp] <;> rfl⟩
      exact .inl ⟨by simp [takesF, *], by omega⟩
  · have e1 : (n != 0) = true := by simpa using hn
    refine ⟨_, _, ?_, by simp only [go_sem, Nat.reduceEqDiff, Int.natCast_zero, Int.lt_irrefl, part_mid, Int.reduceLT, Int.reduceLE, Int.reduceBEq, Int.reduceBNe, Int.reduceToNat, Int.reduceNeg, Int.reduceEq, Nat.reduceMul, Nat.reduceAdd, Nat.reduceLeDiff, Nat.reduceLT, show ((0 : Nat) < 2) = True from by decide, show ((0 : Nat) < 1) = True from by decide, show ((4 : Nat) = 0) = False from by decide, List.drop_succ_cons, List.drop_zero, List.take_succ_cons, List.take_zero, e1] <;> rfl⟩
    exact .inl ⟨by simp [takesF, *], by omega⟩
theorem takes_2 (n : Int) (s : List UInt8) (l : List Int) (b m : Int) (hl : l.length < 2 ^ 40) : ∃ (x : Int) (G' : Hp), ((takesF ⟨2, n, s, l⟩ b m = none ∧ x < 0) ∨ (takesF ⟨2, n, s, l⟩ b m = some x ∧ 0 ≤ x)) ∧ ev Try.prog ann 66 [.agg [.int .i64 2, .int .i64 n, .str s, .sl (l.map (.int .i64)) .no], .int .i64 b, .int .i64 m] [] = some (.val (.int .i64 x), G') := by
  rw [fun_some Try.func66 rfl rfl]
  by_cases hn : n = 0
  · subst hn
    by_cases hs : s = []
    · subst hs
      have e2 : (([] : List UInt8) != []) = false := rfl
      cases l with
      | nil =>
        refine ⟨_, _, ?_, by simp only [go_sem, Nat.reduceEqDiff, Int.natCast_zero, Int.lt_irrefl, part_mid, Int.reduceLT, Int.reduceLE, Int.reduceBEq, Int.reduceBNe, Int.reduceToNat, Int.reduceNeg, Int.reduceEq, Nat.reduceMul, Nat.reduceAdd, Nat.reduceLeDiff, Nat.reduceLT, show ((0 : Nat) < 2) = True from by decide, show ((0 : Nat) < 1) = True from by decide, show ((4 : Nat) = 0) = False from by decide, List.drop_succ_cons, List.drop_zero, List.take_succ_cons, List.take_zero, e2, List.map_nil] <;> rfl⟩
        exact .inr ⟨by simp [takesF, *], by omega⟩
      | cons y l =>
        have hp : ((0 : Int) < ((l.length + 1 : Nat) : Int)) = True := eq_true (by omega)
        refine ⟨_, _, ?_, by simp only [go_sem, Nat.reduceEqDiff, Int.natCast_zero, Int.lt_irrefl, part_mid, Int.reduceLT, Int.reduceLE, Int.reduceBEq, Int.reduceBNe, Int.reduceToNat, Int.reduceNeg, Int.reduceEq, Nat.reduceMul, Nat.reduceAdd, Nat.reduceLeDiff, Nat.reduceLT, show ((0 : Nat) < 2) = True from by decide, show ((0 : Nat) < 1) = True from by decide, show ((4 : Nat) = 0) = False from by decide, List.drop_succ_cons, List.drop_zero, List.take_succ_cons, List.take_zero, e2, hp] <;> rfl⟩
        exact .inl ⟨by simp [takesF, *], by omega⟩
    · have e2 : (s != []) = true := by simpa using hs
      refine ⟨_, _, ?_, by simp only [go_sem, Nat.reduceEqDiff, Int.natCast_zero, Int.lt_irrefl, part_mid, Int.reduceLT, Int.reduceLE, Int.reduceBEq, Int.reduceBNe, Int.reduceToNat, Int.reduceNeg, Int.reduceEq, Nat.reduceMul, Nat.reduceAdd, Nat.reduceLeDiff, Nat.reduceLT, show ((0 : Nat) < 2) = True from by decide, show ((0 : Nat) < 1) = True from by decide, show ((4 : Nat) = 0) = False from by decide, List.drop_succ_cons, List.drop_zero, List.take_succ_cons, List.take_zero, e2] <;> rfl⟩
      exact .inl ⟨by simp [takesF, *], by omega⟩
  · have e1 : (n != 0) = true := by simpa using hn
    cases e2 : (s != []) with
    | false =>
      refine ⟨_, _, ?_, by simp only [go_sem, Nat.reduceEqDiff, Int.natCast_zero, Int.lt_irrefl, part_mid, Int.reduceLT, Int.reduceLE, Int.reduceBEq, Int.reduceBNe, Int.reduceToNat, Int.reduceNeg, Int.reduceEq, Nat.reduceMul, Nat.reduceAdd, Nat.reduceLeDiff, Nat.reduceLT, show ((0 : Nat) < 2) = True from by decide, show ((0 : Nat) < 1) = True from by decide, show ((4 : Nat) = 0) = False from by decide, List.drop_succ_cons, List.drop_zero, List.take_succ_cons, List.take_zero, e1, e2] <;> rfl⟩
      exact .inl ⟨by simp [takesF, *], by omega⟩
    | true =>
      refine ⟨_, _, ?_, by simp only [go_sem, Nat.reduceEqDiff, Int.natCast_zero, Int.lt_irrefl, part_mid, Int.reduceLT, Int.reduceLE, Int.reduceBEq, Int.reduceBNe, Int.reduceToNat, Int.reduceNeg, Int.reduceEq, Nat.reduceMul, Nat.reduceAdd, Nat.reduceLeDiff, Nat.reduceLT, show ((0 : Nat) < 2) = True from by decide, show ((0 : Nat) < 1) = True from by decide, show ((4 : Nat) = 0) = False from by decide, List.drop_succ_cons, List.drop_zero, List.take_succ_cons, List.take_zero, e1, e2] <;> rfl⟩
      exact .inl ⟨by simp [takesF, *], by omega⟩
theorem takes_3 (n : Int) (s : List UInt8) (l : List Int) (b m : Int) (hl : l.length < 2 ^ 40) : ∃ (x : Int) (G' : Hp), ((takesF ⟨3, n, s, l⟩ b m = none ∧ x < 0) ∨ (takesF ⟨3, n, s, l⟩ b m = some x ∧ 0 ≤ x)) ∧ ev Try.prog ann 66 [.agg [.int .i64 3, .int .i64 n, .str s, .sl (l.map (.int .i64)) .no], .int .i64 b, .int .i64 m] [] = some (.val (.int .i64 x), G') := by
  rw [fun_some Try.func66 rfl rfl]
  by_cases hn : n = 0
  · subst hn
    by_cases hs : s = []
    · subst hs
      have e2 : (([] : List UInt8) != []) = false := rfl
      cases l with
      | nil =>
        refine ⟨_, _, ?_, by simp only [go_sem, Nat.reduceEqDiff, Int.natCast_zero, Int.lt_irrefl, part_mid, Int.reduceLT, Int.reduceLE, Int.reduceBEq, Int.reduceBNe, Int.reduceToNat, Int.reduceNeg, Int.reduceEq, Nat.reduceMul, Nat.reduceAdd, Nat.reduceLeDiff, Nat.reduceLT, show ((0 : Nat) < 2) = True from by decide, show ((0 : Nat) < 1) = True from by decide, show ((4 : Nat) = 0) = False from by decide, List.drop_succ_cons, List.drop_zero, List.take_succ_cons, List.take_zero, e2, List.map_nil] <;> rfl⟩
        exact .inr ⟨by simp [takesF, *], by omega⟩
      | cons y l =>
        have hp : ((0 : Int) < ((l.length + 1 : Nat) : Int)) = True := eq_true (by omega)
        refine ⟨_, _, ?_, by simp only [go_sem, Nat.reduceEqDiff, Int.natCast_zero, Int.lt_irrefl, part_mid, Int.reduceLT, Int.reduceLE, Int.reduceBEq, Int.reduceBNe, Int.reduceToNat, Int.reduceNeg, Int.reduceEq, Nat.reduceMul, Nat.reduceAdd, Nat.reduceLeDiff, Nat.reduceLT, show ((0 : Nat) < 2) = True from by decide, show ((0 : Nat) < 1) = True from by decide, show ((4 : Nat) = 0) = False from by decide, List.drop_succ_cons, List.drop_zero, List.take_succ_cons, List.take_zero, e2, hp] <;> rfl⟩
        exact .inl ⟨by simp [takesF, *], by omega⟩
    · have e2 : (s != []) = true := by simpa using hs
      refine ⟨_, _, ?_, by simp only [go_sem, Nat.reduceEqDiff, Int.natCast_zero, Int.lt_irrefl, part_mid, Int.reduceLT, Int.reduceLE, Int.reduceBEq, Int.reduceBNe, Int.reduceToNat, Int.reduceNeg, Int.reduceEq, Nat.reduceMul, Nat.reduceAdd, Nat.reduceLeDiff, Nat.reduceLT, show ((0 : Nat) < 2) = True from by decide, show ((0 : Nat) < 1) = True from by decide, show ((4 : Nat) = 0) = False from by decide, List.drop_succ_cons, List.drop_zero, List.take_succ_cons, List.take_zero, e2] <;> rfl⟩
      exact .inl ⟨by simp [takesF, *], by omega⟩
  · have e1 : (n != 0) = true := by simpa using hn
    cases e2 : (s != []) with
    | false =>
      refine ⟨_, _, ?_, by simp only [go_sem, Nat.reduceEqDiff, Int.natCast_zero, Int.lt_irrefl, part_mid, Int.reduceLT, Int.reduceLE, Int.reduceBEq, Int.reduceBNe, Int.reduceToNat, Int.reduceNeg, Int.reduceEq, Nat.reduceMul, Nat.reduceAdd, Nat.reduceLeDiff, Nat.reduceLT, show ((0 : Nat) < 2) = True from by decide, show ((0 : Nat) < 1) = True from by decide, show ((4 : Nat) = 0) = False from by decide, List.drop_succ_cons, List.drop_zero, List.take_succ_cons, List.take_zero, e1, e2] <;> rfl⟩
      exact .inl ⟨by simp [takesF, *], by omega⟩
    | true =>
      refine ⟨_, _, ?_, by simp only [go_sem, Nat.reduceEqDiff, Int.natCast_zero, Int.lt_irrefl, part_mid, Int.reduceLT, Int.reduceLE, Int.reduceBEq, Int.reduceBNe, Int.reduceToNat, Int.reduceNeg, Int.reduceEq, Nat.reduceMul, Nat.reduceAdd, Nat.reduceLeDiff, Nat.reduceLT, show ((0 : Nat) < 2) = True from by decide, show ((0 : Nat) < 1) = True from by decide, show ((4 : Nat) = 0) = False from by decide, List.drop_succ_cons, List.drop_zero, List.take_succ_cons, List.take_zero, e1, e2] <;> rfl⟩
      exact .inl ⟨by simp [takesF, *], by omega⟩
theorem takes_4 (n : Int) (s : List UInt8) (l : List Int) (b m : Int) (hl : l.length < 2 ^ 40) : ∃ (x : Int) (G' : Hp), ((takesF ⟨4, n, s, l⟩ b m = none ∧ x < 0) ∨ (takesF ⟨4, n, s, l⟩ b m = some x ∧ 0 ≤ x)) ∧ ev Try.prog ann 66 [.agg [.int .i64 4, .int .i64 n, .str s, .sl (l.map (.int .i64)) .no], .int .i64 b, .int .i64 m] [] = some (.val (.int .i64 x), G') := by
  rw [fun_some Try.func66 rfl rfl]
  by_cases hs : s = []
  · subst hs
    have e2 : (([] : List UInt8) != []) = false := rfl
    cases l with
    | nil =>
      by_cases h0 : n < 0
      · have h1 : ¬ 0 ≤ n := by omega
        refine ⟨_, _, ?_, by simp only [go_sem, Nat.reduceEqDiff, Int.natCast_zero, Int.lt_irrefl, part_mid, Int.reduceLT, Int.reduceLE, Int.reduceBEq, Int.reduceBNe, Int.reduceToNat, Int.reduceNeg, Int.reduceEq, Nat.reduceMul, Nat.reduceAdd, Nat.reduceLeDiff, Nat.reduceLT, show ((0 : Nat) < 2) = True from by decide, show ((0 : Nat) < 1) = True from by decide, show ((4 : Nat) = 0) = False from by decide, List.drop_succ_cons, List.drop_zero, List.take_succ_cons, List.take_zero, e2, List.map_nil, h0] <;> rfl⟩
        exact .inl ⟨by simp [takesF, *], by omega⟩
      · have h1 : 0 ≤ n := by omega
        refine ⟨_, _, ?_, by simp only [go_sem, Nat.reduceEqDiff, Int.natCast_zero, Int.lt_irrefl, part_mid, Int.reduceLT, Int.reduceLE, Int.reduceBEq, Int.reduceBNe, Int.reduceToNat, Int.reduceNeg, Int.reduceEq, Nat.reduceMul, Nat.reduceAdd, Nat.reduceLeDiff, Nat.reduceLT, show ((0 : Nat) < 2) = True from by decide, show ((0 : Nat) < 1) = True from by decide, show ((4 : Nat) = 0) = False from by decide, List.drop_succ_cons, List.drop_zero, List.take_succ_cons, List.take_zero, e2, List.map_nil, h0] <;> rfl⟩
        exact .inr ⟨by simp [takesF, *], by omega⟩
    | cons y l =>
      have hp : ((0 : Int) < ((l.length + 1 : Nat) : Int)) = True := eq_true (by omega)
      refine ⟨_, _, ?_, by simp only [go_sem, Nat.reduceEqDiff, Int.natCast_zero, Int.lt_irrefl, part_mid, Int.reduceLT, Int.reduceLE, Int.reduceBEq, Int.reduceBNe, Int.reduceToNat, Int.reduceNeg, Int.reduceEq, Nat.reduceMul, Nat.reduceAdd, Nat.reduceLeDiff, Nat.reduceLT, show ((0 : Nat) < 2) = True from by decide, show ((0 : Nat) < 1) = True from by decide, show ((4 : Nat) = 0) = False from by decide, List.drop_succ_cons, List.drop_zero, List.take_succ_cons, List.take_zero, e2, hp] <;> rfl⟩
      exact .inl ⟨by simp [takesF, *], by omega⟩
  · have e2 : (s != []) = true := by simpa using hs
    refine ⟨_, _, ?_, by simp only [go_sem, Nat.reduceEqDiff, Int.natCast_zero, Int.lt_irrefl, part_mid, Int.reduceLT, Int.reduceLE, Int.reduceBEq, Int.reduceBNe, Int.reduceToNat, Int.reduceNeg, Int.reduceEq, Nat.reduceMul, Nat.reduceAdd, Nat.reduceLeDiff, Nat.reduceLT, show ((0 : Nat) < 2) = True from by decide, show ((0 : Nat) < 1) = True from by decide, show ((4 : Nat) = 0) = False from by decide, List.drop_succ_cons, List.drop_zero, List.take_succ_cons, List.take_zero, e2] <;> rfl⟩
    exact .inl ⟨by simp [takesF, *], by omega⟩
theorem takes_5 (n : Int) (s : List UInt8) (l : List Int) (b m : Int) (hl : l.length < 2 ^ 40) : ∃ (x : Int) (G' : Hp), ((takesF ⟨5, n, s, l⟩ b m = none ∧ x < 0) ∨ (takesF ⟨5, n, s, l⟩ b m = some x ∧ 0 ≤ x)) ∧ ev Try.prog ann 66 [.agg [.int .i64 5, .int .i64 n, .str s, .sl (l.map (.int .i64)) .no], .int .i64 b, .int .i64 m] [] = some (.val (.int .i64 x), G') := by
  rw [fun_some Try.func66 rfl rfl]
  have hf := fun L G => refFits_call s n false L G
  cases l with
  | nil =>
    by_cases h0 : n < 0
    · have h1 : ¬ 0 ≤ n := by omega
      have h2 : fitsF s n false = false := by
        cases h : fitsF s n false with
        | true => have := fits_pos h; omega
        | false => rfl
      refine ⟨_, _, ?_, by simp only [go_sem, Nat.reduceEqDiff, Int.natCast_zero, Int.lt_irrefl, part_mid, Int.reduceLT, Int.reduceLE, Int.reduceBEq, Int.reduceBNe, Int.reduceToNat, Int.reduceNeg, Int.reduceEq, Nat.reduceMul, Nat.reduceAdd, Nat.reduceLeDiff, Nat.reduceLT, show ((0 : Nat) < 2) = True from by decide, show ((0 : Nat) < 1) = True from by decide, show ((4 : Nat) = 0) = False from by decide, List.drop_succ_cons, List.drop_zero, List.take_succ_cons, List.take_zero, List.map_nil, h0, hf, h2] <;> rfl⟩
      exact .inl ⟨by simp [takesF, *], by omega⟩
    · have h1 : 0 ≤ n := by omega
      cases h2 : fitsF s n false with
      | true =>
        refine ⟨_, _, ?_, by simp only [go_sem, Nat.reduceEqDiff, Int.natCast_zero, Int.lt_irrefl, part_mid, Int.reduceLT, Int.reduceLE, Int.reduceBEq, Int.reduceBNe, Int.reduceToNat, Int.reduceNeg, Int.reduceEq, Nat.reduceMul, Nat.reduceAdd, Nat.reduceLeDiff, Nat.reduceLT, show ((0 : Nat) < 2) = True from by decide, show ((0 : Nat) < 1) = True from by decide, show ((4 : Nat) = 0) = False from by decide, List.drop_succ_cons, List.drop_zero, List.take_succ_cons, List.take_zero, List.map_nil, h0, hf, h2] <;> rfl⟩
        exact .inr ⟨by simp [takesF, *], by omega⟩
      | false =>
        refine ⟨_, _, ?_, by simp only [go_sem, Nat.reduceEqDiff, Int.natCast_zero, Int.lt_irrefl, part_mid, Int.reduceLT, Int.reduceLE, Int.reduceBEq, Int.reduceBNe, Int.reduceToNat, Int.reduceNeg, Int.reduceEq, Nat.reduceMul, Nat.reduceAdd, Nat.reduceLeDiff, Nat.reduceLT, show ((0 : Nat) < 2) = True from by decide, show ((0 : Nat) < 1) = True from by decide, show ((4 : Nat) = 0) = False from by decide, List.drop_succ_cons, List.drop_zero, List.take_succ_cons, List.take_zero, List.map_nil, h0, hf, h2] <;> rfl⟩
        exact .inl ⟨by simp [takesF, *], by omega⟩
  | cons y l =>
    have hp : ((0 : Int) < ((l.length + 1 : Nat) : Int)) = True := eq_true (by omega)
    refine ⟨_, _, ?_, by simp only [go_sem, Nat.reduceEqDiff, Int.natCast_zero, Int.lt_irrefl, part_mid, Int.reduceLT, Int.reduceLE, Int.reduceBEq, Int.reduceBNe, Int.reduceToNat, Int.reduceNeg, Int.reduceEq, Nat.reduceMul, Nat.reduceAdd, Nat.reduceLeDiff, Nat.reduceLT, show ((0 : Nat) < 2) = True from by decide, show ((0 : Nat) < 1) = True from by decide, show ((4 : Nat) = 0) = False from by decide, List.drop_succ_cons, List.drop_zero, List.take_succ_cons, List.take_zero, hp] <;> rfl⟩
    exact .inl ⟨by simp [takesF, *], by omega⟩
theorem takes_6 (n : Int) (s : List UInt8) (l : List Int) (b m : Int) (hl : l.length < 2 ^ 40) : ∃ (x : Int) (G' : Hp), ((takesF ⟨6, n, s, l⟩ b m = none ∧ x < 0) ∨ (takesF ⟨6, n, s, l⟩ b m = some x ∧ 0 ≤ x)) ∧ ev Try.prog ann 66 [.agg [.int .i64 6, .int .i64 n, .str s, .sl (l.map (.int .i64)) .no], .int .i64 b, .int .i64 m] [] = some (.val (.int .i64 x), G') := by
  rw [fun_some Try.func66 rfl rfl]
  have hf := fun L G => refFits_call s l.length true L G
  by_cases hn : n = 0
  · subst hn
    simp only [go_sem, Nat.reduceEqDiff, Int.natCast_zero, Int.lt_irrefl, part_mid, Int.reduceLT, Int.reduceLE, Int.reduceBEq, Int.reduceBNe, Int.reduceToNat, Int.reduceNeg, Int.reduceEq, Nat.reduceMul, Nat.reduceAdd, Nat.reduceLeDiff, Nat.reduceLT, show ((0 : Nat) < 2) = True from by decide, show ((0 : Nat) < 1) = True from by decide, show ((4 : Nat) = 0) = False from by decide, List.drop_succ_cons, List.drop_zero, List.take_succ_cons, List.take_zero]
    generalize hw : loopW _ _ _ _ _ _ = w
    obtain ⟨ou, rfl, hq⟩ : ∃ ou, w = some ou ∧ ((ou = (.exit 1, [(3, .ptr true 0 0 0 0)], [.row 0 [.agg [.int .i64 6, .int .i64 0, .str s, .sl (l.map (.int .i64)) .no]]], []) ∧ (l.all fun x => decide (b < x) && decide (x < m)) = true) ∨ (ou = (.ret, [(6, .int .i64 (-1))], [.row 0 [.agg [.int .i64 6, .int .i64 0, .str s, .sl (l.map (.int .i64)) .no]]], []) ∧ (l.all fun x => decide (b < x) && decide (x < m)) = false)) := by
      rw [← hw]
      clear hw
      refine loop_ex (σ := Nat) (fun i => [(1, .int .i64 b), (2, .int .i64 m), (3, .ptr true 0 0 0 0), (7, .int .i64 i)]) (fun _ => [.row 0 [.agg [.int .i64 6, .int .i64 0, .str s, .sl (l.map (.int .i64)) .no]]]) (fun _ => []) (fun i => i ≤ l.length ∧ (l.all fun x => decide (b < x) && decide (x < m)) = (l.drop i).all fun x => decide (b < x) && decide (x < m)) (fun i => l.length - i) _ ?_ 0 ⟨Nat.zero_le _, by simp⟩
      rintro i ⟨hi, hd⟩
      by_cases h : i < l.length
      · obtain ⟨x, hx⟩ : ∃ x, l[i]? = some x := ⟨_, List.getElem?_eq_getElem h⟩
        have hx' : (l.map (AV.int .i64))[i]? = some (.int .i64 x) := by rw [List.getElem?_map, hx]; rfl
        have hw : IntKind.i64.wrap ((i : Int) + 1) = ((i + 1 : Nat) : Int) := by rw [wrap_in] <;> omega
        have hdr : l.drop i = x :: l.drop (i + 1) := by
          obtain ⟨h1, rfl⟩ := List.getElem?_eq_some_iff.1 hx
          rw [List.drop_eq_getElem_cons h1]
        rw [hdr, List.all_cons] at hd
        by_cases h1 : x ≤ b
        · refine ⟨_, by simp only [go_sem, Nat.reduceEqDiff, Int.natCast_zero, Int.lt_irrefl, part_mid, Int.reduceLT, Int.reduceLE, Int.reduceBEq, Int.reduceBNe, Int.reduceToNat, Int.reduceNeg, Int.reduceEq, Nat.reduceMul, Nat.reduceAdd, Nat.reduceLeDiff, Nat.reduceLT, show ((0 : Nat) < 2) = True from by decide, show ((0 : Nat) < 1) = True from by decide, show ((4 : Nat) = 0) = False from by decide, List.drop_succ_cons, List.drop_zero, List.take_succ_cons, List.take_zero, h, hx', hw, h1] <;> rfl, .inr ⟨_, rfl, .inr ⟨rfl, ?_⟩⟩⟩
          rw [hd, show decide (b < x) = false by simp; omega]; simp
        · by_cases h2 : m ≤ x
          · refine ⟨_, by simp only [go_sem, Nat.reduceEqDiff, Int.natCast_zero, Int.lt_irrefl, part_mid, Int.reduceLT, Int.reduceLE, Int.reduceBEq, Int.reduceBNe, Int.reduceToNat, Int.reduceNeg, Int.reduceEq, Nat.reduceMul, Nat.reduceAdd, Nat.reduceLeDiff, Nat.reduceLT, show ((0 : Nat) < 2) = True from by decide, show ((0 : Nat) < 1) = True from by decide, show ((4 : Nat) = 0) = False from by decide, List.drop_succ_cons, List.drop_zero, List.take_succ_cons, List.take_zero, h, hx', hw, h1, h2] <;> rfl, .inr ⟨_, rfl, .inr ⟨rfl, ?_⟩⟩⟩
            rw [hd, show decide (x < m) = false by simp; omega]; simp
          · refine ⟨_, by simp only [go_sem, Nat.reduceEqDiff, Int.natCast_zero, Int.lt_irrefl, part_mid, Int.reduceLT, Int.reduceLE, Int.reduceBEq, Int.reduceBNe, Int.reduceToNat, Int.reduceNeg, Int.reduceEq, Nat.reduceMul, Nat.reduceAdd, Nat.reduceLeDiff, Nat.reduceLT, show ((0 : Nat) < 2) = True from by decide, show ((0 : Nat) < 1) = True from by decide, show ((4 : Nat) = 0) = False from by decide, List.drop_succ_cons, List.drop_zero, List.take_succ_cons, List.take_zero, h, hx', hw, h1, h2] <;> rfl, .inl ⟨i + 1, ⟨by omega, ?_⟩, by omega, rfl⟩⟩
            rw [hd, show decide (b < x) = true by simp; omega, show decide (x < m) = true by simp; omega]; simp
      · have hdr : l.drop i = [] := List.drop_eq_nil_of_le (by omega)
        rw [hdr] at hd
        refine ⟨_, by simp only [go_sem, Nat.reduceEqDiff, Int.natCast_zero, Int.lt_irrefl, part_mid, Int.reduceLT, Int.reduceLE, Int.reduceBEq, Int.reduceBNe, Int.reduceToNat, Int.reduceNeg, Int.reduceEq, Nat.reduceMul, Nat.reduceAdd, Nat.reduceLeDiff, Nat.reduceLT, show ((0 : Nat) < 2) = True from by decide, show ((0 : Nat) < 1) = True from by decide, show ((4 : Nat) = 0) = False from by decide, List.drop_succ_cons, List.drop_zero, List.take_succ_cons, List.take_zero, h] <;> rfl, .inr ⟨_, rfl, .inl ⟨rfl, by simpa using hd⟩⟩⟩
    rcases hq with ⟨rfl, ha⟩ | ⟨rfl, ha⟩
    · cases h2 : fitsF s l.length true with
      | true =>
        refine ⟨_, _, ?_, by simp only [go_sem, Nat.reduceEqDiff, Int.natCast_zero, Int.lt_irrefl, part_mid, Int.reduceLT, Int.reduceLE, Int.reduceBEq, Int.reduceBNe, Int.reduceToNat, Int.reduceNeg, Int.reduceEq, Nat.reduceMul, Nat.reduceAdd, Nat.reduceLeDiff, Nat.reduceLT, show ((0 : Nat) < 2) = True from by decide, show ((0 : Nat) < 1) = True from by decide, show ((4 : Nat) = 0) = False from by decide, List.drop_succ_cons, List.drop_zero, List.take_succ_cons, List.take_zero, hf, h2] <;> rfl⟩
        exact .inr ⟨by simp [takesF, *], by omega⟩
      | false =>
        refine ⟨_, _, ?_, by simp only [go_sem, Nat.reduceEqDiff, Int.natCast_zero, Int.lt_irrefl, part_mid, Int.reduceLT, Int.reduceLE, Int.reduceBEq, Int.reduceBNe, Int.reduceToNat, Int.reduceNeg, Int.reduceEq, Nat.reduceMul, Nat.reduceAdd, Nat.reduceLeDiff, Nat.reduceLT, show ((0 : Nat) < 2) = True from by decide, show ((0 : Nat) < 1) = True from by decide, show ((4 : Nat) = 0) = False from by decide, List.drop_succ_cons, List.drop_zero, List.take_succ_cons, List.take_zero, hf, h2] <;> rfl⟩
        exact .inl ⟨by simp [takesF, *], by omega⟩
    · refine ⟨_, _, ?_, by simp only [go_sem, Nat.reduceEqDiff, Int.natCast_zero, Int.lt_irrefl, part_mid, Int.reduceLT, Int.reduceLE, Int.reduceBEq, Int.reduceBNe, Int.reduceToNat, Int.reduceNeg, Int.reduceEq, Nat.reduceMul, Nat.reduceAdd, Nat.reduceLeDiff, Nat.reduceLT, show ((0 : Nat) < 2) = True from by decide, show ((0 : Nat) < 1) = True from by decide, show ((4 : Nat) = 0) = False from by decide, List.drop_succ_cons, List.drop_zero, List.take_succ_cons, List.take_zero, List.map_nil] <;> rfl⟩
      exact .inl ⟨by simp [takesF, *], by omega⟩
  · have e1 : (n != 0) = true := by simpa using hn
    refine ⟨_, _, ?_, by simp only [go_sem, Nat.reduceEqDiff, Int.natCast_zero, Int.lt_irrefl, part_mid, Int.reduceLT, Int.reduceLE, Int.reduceBEq, Int.reduceBNe, Int.reduceToNat, Int.reduceNeg, Int.reduceEq, Nat.reduceMul, Nat.reduceAdd, Nat.reduceLeDiff, Nat.reduceLT, show ((0 : Nat) < 2) = True from by decide, show ((0 : Nat) < 1) = True from by decide, show ((4 : Nat) = 0) = False from by decide, List.drop_succ_cons, List.drop_zero, List.take_succ_cons, List.take_zero, e1] <;> rfl⟩
    exact .inl ⟨by simp [takesF, *], by omega⟩
end Ev
