/- Blocks that may be. -/
import Derived.Test.YtecflllnnbiheaaT33
set_option maxHeartbeats 4000000
set_option linter.unusedVariables false
set_option linter.unusedSimpArgs false
namespace Ev
open Go Go.Proofs
set_option maxRecDepth 10000
theorem takes_pos {o : OpT} {b m k : Int} (h : takesF o b m = some k) : 0 ≤ k := by
  unfold takesF at h
  repeat' split at h
  all_goals first | cases h | skip
  all_goals omega
theorem refs_opX {Q : Bool → Nat → Bool} (o : OpT) : (opA o).refs Q = true := refs_op o
theorem op_out (k n : Int) (s : List UInt8) (l : List Int) (b m : Int) (hk : k < 1 ∨ 6 < k) : ∃ (x : Int) (ok : Bool) (G' : Hp), OpRes (takesF ⟨k, n, s, l⟩ b m) x ok ∧ ev Try.prog ann 82 [.agg [.int .i64 k, .int .i64 n, .str s, .sl (l.map (.int .i64)) .no], .int .i64 b, .int .i64 m] [] = some (.val (.tup [.int .i64 x, .bool ok]), G') := by
  have ht : takesF ⟨k, n, s, l⟩ b m = none := by
    unfold takesF
    simp only
    repeat rw [if_neg (by omega)]
  rw [fun_some Try.func82 rfl rfl]
  by_cases h1 : k < 1
  · refine ⟨_, _, _, ?_, by simp only [go_sem, Nat.reduceEqDiff, h1, Nat.reduceAdd, Nat.reduceLeDiff, show ((4 : Nat) = 0) = False from by decide] <;> rfl⟩
    simp [OpRes, ht]
  · have h6 : 6 < k := by omega
    refine ⟨_, _, _, ?_, by simp only [go_sem, Nat.reduceEqDiff, h1, h6, Nat.reduceAdd, Nat.reduceLeDiff, show ((4 : Nat) = 0) = False from by decide] <;> rfl⟩
    simp [OpRes, ht]
theorem takes_out (k n : Int) (s : List UInt8) (l : List Int) (b m : Int) (hk : k < 1 ∨ 6 < k) : ∃ (x : Int) (G' : Hp), (takesF ⟨k, n, s, l⟩ b m = none ∧ x < 0) ∧ ev Try.prog ann 66 [.agg [.int .i64 k, .int .i64 n, .str s, .sl (l.map (.int .i64)) .no], .int .i64 b, .int .i64 m] [] = some (.val (.int .i64 x), G') := by
  have ht : takesF ⟨k, n, s, l⟩ b m = none := by
    unfold takesF
    simp only
    repeat rw [if_neg (by omega)]
  rw [fun_some Try.func66 rfl rfl]
  have n1 : (k != 1) = true := by simp; omega
  have n4 : (k != 4) = true := by simp; omega
  have n5 : (k != 5) = true := by simp; omega
  have n6 : (k != 6) = true := by simp; omega
  have m1 : (k == 1) = false := by simp; omega
  have m2 : (k == 2) = false := by simp; omega
  have m3 : (k == 3) = false := by simp; omega
  have m4 : (k == 4) = false := by simp; omega
  have m5 : (k == 5) = false := by simp; omega
  have m6 : (k == 6) = false := by simp; omega
  cases e2 : (s != []) with
  | true => exact ⟨-1, _, ⟨ht, by omega⟩, by simp only [go_sem, Nat.reduceEqDiff, n1, n4, n5, n6, e2, Nat.reduceAdd, Nat.reduceLeDiff, show ((4 : Nat) = 0) = False from by decide] <;> rfl⟩
  | false =>
  cases e1 : (n != 0) with
  | true => exact ⟨-1, _, ⟨ht, by omega⟩, by simp only [go_sem, Nat.reduceEqDiff, n1, n4, n5, n6, e2, e1, Nat.reduceAdd, Nat.reduceLeDiff, show ((4 : Nat) = 0) = False from by decide] <;> rfl⟩
  | false =>
  by_cases hp : (0 : Int) < (l.length : Int)
  · exact ⟨-1, _, ⟨ht, by omega⟩, by simp only [go_sem, Nat.reduceEqDiff, n1, n4, n5, n6, e2, e1, hp, Nat.reduceAdd, Nat.reduceLeDiff, show ((4 : Nat) = 0) = False from by decide] <;> rfl⟩
  · exact ⟨-1, _, ⟨ht, by omega⟩, by simp only [go_sem, Nat.reduceEqDiff, n1, n4, n5, n6, m1, m2, m3, m4, m5, m6, e2, e1, hp, Nat.reduceAdd, Nat.reduceLeDiff, show ((4 : Nat) = 0) = False from by decide] <;> rfl⟩
theorem opS_call (o : OpT) (b m : Int) (hl : o.blocks.length < 2 ^ 40) : ∃ (x : Int) (ok : Bool), OpRes (takesF o b m) x ok ∧ ∀ L G, callA (cfg Try.prog ann) 82 [opA o, .int .i64 b, .int .i64 m] L G = some (.val (.tup [.int .i64 x, .bool ok]), L, G) := by
  obtain ⟨k, n, s, l⟩ := o
  have : ∃ (x : Int) (ok : Bool) (G' : Hp), OpRes (takesF ⟨k, n, s, l⟩ b m) x ok ∧ ev Try.prog ann 82 [.agg [.int .i64 k, .int .i64 n, .str s, .sl (l.map (.int .i64)) .no], .int .i64 b, .int .i64 m] [] = some (.val (.tup [.int .i64 x, .bool ok]), G') := by
    by_cases hk : k < 1 ∨ 6 < k
    · exact op_out k n s l b m hk
    · have : k = 1 ∨ k = 2 ∨ k = 3 ∨ k = 4 ∨ k = 5 ∨ k = 6 := by omega
      rcases this with rfl | rfl | rfl | rfl | rfl | rfl
      · exact op_1 n s l b m hl
      · exact op_2 n s l b m hl
      · exact op_3 n s l b m hl
      · exact op_4 n s l b m hl
      · exact op_5 n s l b m hl
      · exact op_6 n s l b m hl
  obtain ⟨x, ok, G', h1, h2⟩ := this
  refine ⟨x, ok, h1, fun L G => call_pure rfl rfl ?_ rfl (G' := G') h2⟩
  simp only [opA, intsA, handAs, handA, pfs, refss, AV.refs, Tok.drop, Tok.refs, refs_ints, if_true, Bool.and_self]
theorem takes_call (o : OpT) (b m : Int) (hl : o.blocks.length < 2 ^ 40) : ∃ x : Int, ((takesF o b m = none ∧ x < 0) ∨ (takesF o b m = some x ∧ 0 ≤ x)) ∧ ∀ L G, callA (cfg Try.prog ann) 66 [opA o, .int .i64 b, .int .i64 m] L G = some (.val (.int .i64 x), L, G) := by
  obtain ⟨k, n, s, l⟩ := o
  have : ∃ (x : Int) (G' : Hp), ((takesF ⟨k, n, s, l⟩ b m = none ∧ x < 0) ∨ (takesF ⟨k, n, s, l⟩ b m = some x ∧ 0 ≤ x)) ∧ ev Try.prog ann 66 [.agg [.int .i64 k, .int .i64 n, .str s, .sl (l.map (.int .i64)) .no], .int .i64 b, .int .i64 m] [] = some (.val (.int .i64 x), G') := by
    by_cases hk : k < 1 ∨ 6 < k
    · obtain ⟨x, G', h1, h2⟩ := takes_out k n s l b m hk
      exact ⟨x, G', .inl h1, h2⟩
    · have : k = 1 ∨ k = 2 ∨ k = 3 ∨ k = 4 ∨ k = 5 ∨ k = 6 := by omega
      rcases this with rfl | rfl | rfl | rfl | rfl | rfl
      · exact takes_1 n s l b m hl
      · exact takes_2 n s l b m hl
      · exact takes_3 n s l b m hl
      · exact takes_4 n s l b m hl
      · exact takes_5 n s l b m hl
      · exact takes_6 n s l b m hl
  obtain ⟨x, G', h1, h2⟩ := this
  refine ⟨x, h1, fun L G => call_pure rfl rfl ?_ rfl (G' := G') h2⟩
  simp only [opA, intsA, handAs, handA, pfs, refss, AV.refs, Tok.drop, Tok.refs, refs_ints, if_true, Bool.and_self]
/-- the most that is on a block's pile, if it may be -/
def pileF : List OpT → Int → Int → Int → Int → Option Int
  | [], _, _, n, most => if n = 1 then some most else none
  | o :: l, b, m, n, most => match takesF o b m with
    | none => none
    | some k => if n < k then none else pileF l b m (n - k + 1) (max most (n - k + 1))
theorem drop_op {l : List OpT} {i : Nat} {x : OpT} (h : l[i]? = some x) : l.drop i = x :: l.drop (i + 1) := by
  obtain ⟨h1, rfl⟩ := List.getElem?_eq_some_iff.1 h
  rw [List.drop_eq_getElem_cons h1]
theorem run_call (l : List OpT) (b m : Int) (hl : OkOps l) : ∃ (x : Int) (ok : Bool), OpRes (pileF l b m 0 0) x ok ∧ ∀ t L G, callA (cfg Try.prog ann) 65 [.sl (l.map opA) t, .int .i64 b, .int .i64 m] L G = some (.val (.tup [.int .i64 x, .bool ok]), L, G) := by
  suffices hh : ∃ (x : Int) (ok : Bool) (G' : Hp), OpRes (pileF l b m 0 0) x ok ∧ ev Try.prog ann 65 [.sl (l.map opA) .no, .int .i64 b, .int .i64 m] [] = some (.val (.tup [.int .i64 x, .bool ok]), G') by
    obtain ⟨x, ok, G', h1, h2⟩ := hh
    refine ⟨x, ok, h1, fun t L G => call_pure rfl rfl ?_ rfl (G' := G') h2⟩
    simp only [handAs, handA, pfs, refss, AV.refs, Tok.drop, Tok.refs, refs_ops, if_true, Bool.and_self]
  rw [fun_some Try.func65 rfl rfl]
  simp only [go_sem, Nat.reduceEqDiff]
  have hlen := hl.1
  generalize hw : loopW _ _ _ _ _ _ = w
  obtain ⟨ou, rfl, hq⟩ : ∃ ou, w = some ou ∧ ((∃ (n most : Int), ou = (.exit 0, [(8, .int .i64 most), (9, .int .i64 n)], [], []) ∧ pileF l b m 0 0 = pileF [] b m n most) ∨ (∃ L', ou = (.ret, [(6, .int .i64 0), (7, .bool false)], L', []) ∧ pileF l b m 0 0 = none)) := by
    rw [← hw]
    clear hw
    refine loop_ex (σ := Nat × Int × Int) (fun q => [(1, .int .i64 b), (2, .int .i64 m), (8, .int .i64 q.2.2), (9, .int .i64 q.2.1), (14, .sl (l.map opA) .no), (15, .int .i64 l.length), (16, .int .i64 q.1)]) (fun _ => []) (fun _ => [])
      (fun q => q.1 ≤ l.length ∧ 0 ≤ q.2.1 ∧ q.2.1 ≤ q.1 ∧ 0 ≤ q.2.2 ∧ q.2.2 ≤ q.1 ∧ pileF l b m 0 0 = pileF (l.drop q.1) b m q.2.1 q.2.2) (fun q => l.length - q.1) _ ?_ (0, 0, 0) ⟨Nat.zero_le _, by simp, by simp, by simp, by simp, by simp⟩
    rintro ⟨i, n, most⟩ ⟨q1, q2, q3, q4, q5, q6⟩
    simp only at q1 q2 q3 q4 q5 q6
    have hw : IntKind.i64.wrap ((i : Int) + 1) = ((i + 1 : Nat) : Int) := by rw [wrap_in] <;> omega
    by_cases hi : i < l.length
    · obtain ⟨x, hx⟩ : ∃ x, l[i]? = some x := ⟨_, List.getElem?_eq_getElem hi⟩
      have hx' : (l.map opA)[i]? = some (opA x) := by rw [List.getElem?_map, hx]; rfl
      obtain ⟨y, ok, hy, hc⟩ := opS_call x b m (hl.2 x (List.mem_of_getElem? hx)).2
      rw [drop_op hx, pileF] at q6
      have ht : ∀ (p q r : Int) (L : Hp), trim 0 [(1, .int .i64 b), (2, .int .i64 m), (8, .int .i64 p), (9, .int .i64 q), (14, .sl (l.map opA) .no), (15, .int .i64 l.length), (16, .int .i64 r)] L = [] := fun p q r L => trim_drop (by simp only [bels, valsE, List.map_cons, List.map_nil, refss, AV.refs, Tok.refs, refs_ops, Bool.and_self])
      simp only [opA, intsA] at hx' hc
      cases htk : takesF x b m with
      | none =>
        rw [htk] at hy q6
        simp only [OpRes] at hy
        subst hy
        exact ⟨_, by simp only [go_sem, Nat.reduceEqDiff, hi, hx', hc, Nat.reduceAdd, Nat.reduceLeDiff, show ((4 : Nat) = 0) = False from by decide] <;> rfl, .inr ⟨_, rfl, .inr ⟨_, rfl, q6⟩⟩⟩
      | some k =>
        have hk := takes_pos htk
        rw [htk] at hy q6
        simp only [OpRes] at hy
        obtain ⟨rfl, rfl⟩ := hy
        simp only at q6
        by_cases hnk : n < y
        · rw [if_pos hnk] at q6
          exact ⟨_, by simp only [go_sem, Nat.reduceEqDiff, hi, hx', hc, hnk, Nat.reduceAdd, Nat.reduceLeDiff, show ((4 : Nat) = 0) = False from by decide] <;> rfl, .inr ⟨_, rfl, .inr ⟨_, rfl, q6⟩⟩⟩
        · rw [if_neg hnk] at q6
          have w1 : IntKind.i64.wrap (1 - y) = 1 - y := by rw [wrap_in] <;> omega
          have w2 : IntKind.i64.wrap (n + (1 - y)) = n - y + 1 := by rw [wrap_in] <;> omega
          by_cases hmx : n - y + 1 > most
          · rw [show max most (n - y + 1) = n - y + 1 by omega] at q6
            refine ⟨_, by simp only [go_sem, Nat.reduceEqDiff, hi, hx', hc, hnk, hw, w1, w2, hmx, ht, Nat.reduceAdd, Nat.reduceLeDiff, show ((4 : Nat) = 0) = False from by decide] <;> rfl, ?_⟩
            exact .inl ⟨(i + 1, n - y + 1, n - y + 1), ⟨by simp only; omega, by simp only; omega, by simp only; omega, by simp only; omega, by simp only; omega, q6⟩, by simp only; omega, rfl⟩
          · rw [show max most (n - y + 1) = most by omega] at q6
            refine ⟨_, by simp only [go_sem, Nat.reduceEqDiff, hi, hx', hc, hnk, hw, w1, w2, hmx, ht, Nat.reduceAdd, Nat.reduceLeDiff, show ((4 : Nat) = 0) = False from by decide] <;> rfl, ?_⟩
            exact .inl ⟨(i + 1, n - y + 1, most), ⟨by simp only; omega, by simp only; omega, by simp only; omega, by simp only; omega, by simp only; omega, q6⟩, by simp only; omega, rfl⟩
    · have e : l.drop i = [] := List.drop_eq_nil_of_le (by omega)
      rw [e] at q6
      exact ⟨_, by simp only [go_sem, Nat.reduceEqDiff, hi] <;> rfl, .inr ⟨_, rfl, .inl ⟨n, most, rfl, q6⟩⟩⟩
  rcases hq with ⟨n, most, rfl, hp⟩ | ⟨L', rfl, hp⟩
  · rw [pileF] at hp
    by_cases h1 : n = 1
    · subst h1
      rw [if_pos rfl] at hp
      refine ⟨most, true, _, ?_, by simp only [go_sem, Nat.reduceEqDiff, Int.reduceBEq] <;> rfl⟩
      rw [hp]; exact ⟨rfl, rfl⟩
    · rw [if_neg h1] at hp
      have e1 : (n == 1) = false := by simpa using h1
      refine ⟨most, false, _, ?_, by simp only [go_sem, Nat.reduceEqDiff, e1] <;> rfl⟩
      rw [hp]; rfl
  · refine ⟨0, false, _, ?_, by simp only [go_sem, Nat.reduceEqDiff] <;> rfl⟩
    rw [hp]; rfl
end Ev
