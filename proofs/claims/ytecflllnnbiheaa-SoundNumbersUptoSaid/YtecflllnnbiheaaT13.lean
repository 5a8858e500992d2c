/- Codes: alike or not; how many instructions. -/
import Derived.Test.YtecflllnnbiheaaT12
import Derived.Test.YtecflllnnbiheaaR12
import Derived.Test.YtecflllnnbiheaaEv16
set_option maxHeartbeats 4000000
set_option linter.unusedVariables false
set_option linter.unusedSimpArgs false
namespace Ev
open Go Go.Proofs
set_option maxRecDepth 10000
theorem refs_op {Q : Bool → Nat → Bool} (o : OpT) : (opA o).refs Q = true := by simp only [opA, intsA, AV.refs, refss, Tok.refs, refs_ints, Bool.and_self]
theorem refs_ops {Q : Bool → Nat → Bool} : ∀ (l : List OpT), refss Q (l.map opA) = true
  | [] => rfl
  | o :: l => by simp only [List.map_cons, refss, refs_op, refs_ops l, Bool.and_self]
theorem refs_block {Q : Bool → Nat → Bool} (l : List OpT) : (blockA' l).refs Q = true := by simp only [blockA', AV.refs, Tok.refs, refs_ops, Bool.and_self]
theorem refs_blocks {Q : Bool → Nat → Bool} : ∀ (c : CodeT), refss Q (c.map blockA') = true
  | [] => rfl
  | l :: c => by simp only [List.map_cons, refss, refs_block, refs_blocks c, Bool.and_self]
theorem trim_drop {e : Env} {L : Hp} (h : bels 0 (valsE e) = true) : trim 0 e L = [] := by
  unfold trim
  split
  · exact List.length_eq_zero_iff.1 (by omega)
  · rw [h]; simp
theorem drop_eq {α : Type} [DecidableEq α] {a b : List α} {i : Nat} {x y : α} (hx : a[i]? = some x) (hy : b[i]? = some y) : decide (a.drop i = b.drop i) = (decide (x = y) && decide (a.drop (i + 1) = b.drop (i + 1))) := by
  obtain ⟨h1, rfl⟩ := List.getElem?_eq_some_iff.1 hx
  obtain ⟨h2, rfl⟩ := List.getElem?_eq_some_iff.1 hy
  rw [List.drop_eq_getElem_cons h1, List.drop_eq_getElem_cons h2]
  have e : (a[i] :: a.drop (i + 1) = b[i] :: b.drop (i + 1)) ↔ (a[i] = b[i] ∧ a.drop (i + 1) = b.drop (i + 1)) := by rw [List.cons.injEq]
  rw [decide_eq_decide.2 e, Bool.decide_and]
theorem drop_end {α : Type} [DecidableEq α] {a b : List α} {i : Nat} (h : a.length = b.length) (hi : ¬ i < a.length) : decide (a.drop i = b.drop i) = true := by
  rw [List.drop_eq_nil_of_le (by omega), List.drop_eq_nil_of_le (by omega)]; simp
theorem ne_len {α : Type} [DecidableEq α] {a b : List α} (h : ¬ a.length = b.length) : decide (a = b) = false := by
  simp only [decide_eq_false_iff_not]; intro e; exact h (by rw [e])
theorem equal_call (a b : List Int) (ha : a.length < 2 ^ 40) (t u : Tok) (L G : Hp) : callA (cfg Try.prog ann) 62 [.sl (a.map (.int .i64)) t, .sl (b.map (.int .i64)) u] L G = some (.val (.bool (decide (a = b))), L, G) := by
  refine call_pure rfl rfl ?_ rfl (G' := []) ?_
  · simp only [handAs, handA, pfs, refss, AV.refs, Tok.drop, Tok.refs, refs_ints, if_true, Bool.and_self]
  show ev Try.prog ann _ [.sl (a.map (.int .i64)) .no, .sl (b.map (.int .i64)) .no] [] = _
  rw [fun_some Try.func62 rfl rfl]
  by_cases hlen : a.length = b.length
  · have h0 : ((a.length : Int) != (b.length : Int)) = false := by simp [hlen]
    simp only [go_sem, ↓reduceIte, Nat.reduceEqDiff, h0]
    erw [loop_res (σ := Nat) (fun i => [(0, .sl (a.map (.int .i64)) .no), (1, .sl (b.map (.int .i64)) .no), (12, .int .i64 a.length), (13, .int .i64 i)]) (fun _ => []) (fun _ => []) (fun i => i ≤ a.length) (fun i => a.length - i)
      (fun i => if decide (a.drop i = b.drop i) = true then some (.exit 0, [], [], []) else some (.ret, [(4, .bool false)], [], [])) ?_ 0 (Nat.zero_le _)]
    · simp only [List.drop_zero]
      cases decide (a = b) <;> simp only [go_sem, ↓reduceIte, Nat.reduceEqDiff]
    · intro i hi
      by_cases h : i < a.length
      · obtain ⟨x, hx⟩ : ∃ x, a[i]? = some x := ⟨_, List.getElem?_eq_getElem h⟩
        obtain ⟨y, hy⟩ : ∃ y, b[i]? = some y := ⟨_, List.getElem?_eq_getElem (by omega)⟩
        have hx' : (a.map (AV.int .i64))[i]? = some (.int .i64 x) := by rw [List.getElem?_map, hx]; rfl
        have hy' : (b.map (AV.int .i64))[i]? = some (.int .i64 y) := by rw [List.getElem?_map, hy]; rfl
        have hw : IntKind.i64.wrap ((i : Int) + 1) = ((i + 1 : Nat) : Int) := by rw [wrap_in] <;> omega
        rw [drop_eq hx hy]
        by_cases hxy : x = y
        · subst hxy
          have e0 : (x != x) = false := by simp
          refine ⟨_, by simp only [go_sem, Nat.reduceEqDiff, Nat.reduceAdd, Nat.reduceLeDiff, h, hx', hy', hw, e0] <;> rfl, .inl ⟨i + 1, by omega, by omega, by simp, rfl⟩⟩
        · have e0 : (x != y) = true := by simpa using hxy
          refine ⟨_, by simp only [go_sem, Nat.reduceEqDiff, Nat.reduceAdd, Nat.reduceLeDiff, h, hx', hy', hw, e0] <;> rfl, .inr (by simp [hxy])⟩
      · rw [drop_end hlen h]
        refine ⟨_, by simp only [go_sem, Nat.reduceEqDiff, h] <;> rfl, .inr (by simp)⟩
  · have h0 : ((a.length : Int) != (b.length : Int)) = true := by simp; omega
    simp only [go_sem, ↓reduceIte, Nat.reduceEqDiff, h0, ne_len hlen]
def opEq (a b : OpT) : Bool := decide (a = b)
theorem same_call (a b : OpT) (ha : a.blocks.length < 2 ^ 40) (L G : Hp) : callA (cfg Try.prog ann) 37 [opA a, opA b] L G = some (.val (.bool (decide (a = b))), L, G) := by
  refine call_pure rfl rfl ?_ rfl (G' := []) ?_
  · simp only [opA, intsA, handAs, handA, pfs, refss, AV.refs, Tok.drop, Tok.refs, refs_ints, if_true, Bool.and_self]
  obtain ⟨k, n, s, l⟩ := a
  obtain ⟨k', n', s', l'⟩ := b
  show ev Try.prog ann _ [.agg [.int .i64 k, .int .i64 n, .str s, .sl (l.map (.int .i64)) .no], .agg [.int .i64 k', .int .i64 n', .str s', .sl (l'.map (.int .i64)) .no]] [] = _
  rw [fun_some Try.func37 rfl rfl]
  have hq := fun L G => equal_call l l' ha .no .no L G
  by_cases h1 : k = k'
  · subst h1
    by_cases h2 : n = n'
    · subst h2
      by_cases h3 : s = s'
      · subst h3
        simp only [go_sem, ↓reduceIte, Nat.reduceEqDiff, hq, Nat.reduceAdd, Nat.reduceLeDiff, OpT.mk.injEq, true_and]
      · have e3 : (s == s') = false := by simpa using h3
        simp only [go_sem, ↓reduceIte, Nat.reduceEqDiff, hq, e3, Nat.reduceAdd, Nat.reduceLeDiff, OpT.mk.injEq, true_and, h3]
    · have e3 : (n == n') = false := by simpa using h2
      simp only [go_sem, ↓reduceIte, Nat.reduceEqDiff, hq, e3, Nat.reduceAdd, Nat.reduceLeDiff, OpT.mk.injEq, true_and, h2]
  · have e3 : (k == k') = false := by simpa using h1
    simp only [go_sem, ↓reduceIte, Nat.reduceEqDiff, hq, e3, Nat.reduceAdd, Nat.reduceLeDiff, OpT.mk.injEq, true_and, h1]
def OkOps (l : List OpT) : Prop := l.length < 2 ^ 40 ∧ ∀ o ∈ l, o.s.length < 2 ^ 40 ∧ o.blocks.length < 2 ^ 40
def OkCode (c : CodeT) : Prop := c.length < 2 ^ 40 ∧ ∀ l ∈ c, OkOps l
theorem eqf_call (a b : List OpT) (ha : OkOps a) (t u : Tok) (L G : Hp) : callA (cfg Try.prog ann) 36 [.sl (a.map opA) t, .sl (b.map opA) u, .fn 37 []] L G = some (.val (.bool (decide (a = b))), L, G) := by
  suffices h : ∃ G', ev Try.prog ann 36 [.sl (a.map opA) .no, .sl (b.map opA) .no, .fn 37 []] [] = some (.val (.bool (decide (a = b))), G') by
    obtain ⟨G', h⟩ := h
    refine call_pure rfl rfl ?_ rfl h
    simp only [handAs, handA, pfs, refss, AV.refs, Tok.drop, Tok.refs, refs_ops, if_true, Bool.and_self]
  rw [fun_some Try.func36 rfl rfl]
  have hl := ha.1
  by_cases hlen : a.length = b.length
  · have h0 : ((a.length : Int) != (b.length : Int)) = false := by simp [hlen]
    simp only [go_sem, ↓reduceIte, Nat.reduceEqDiff, h0]
    generalize hw : loopW _ _ _ _ _ _ = w
    obtain ⟨o, rfl, hq⟩ : ∃ o, w = some o ∧ ∃ L', (decide (a = b) = true ∧ o = (.exit 0, [], L', [])) ∨ (decide (a = b) = false ∧ o = (.ret, [(6, .bool false)], L', [])) := by
      rw [← hw]
      refine loop_ex (σ := Nat) (fun i => [(1, .sl (b.map opA) .no), (2, .fn 37 []), (15, .sl (a.map opA) .no), (16, .int .i64 a.length), (17, .int .i64 i)]) (fun _ => []) (fun _ => []) (fun i => i ≤ a.length ∧ decide (a = b) = decide (a.drop i = b.drop i)) (fun i => a.length - i) _ ?_ 0 ⟨Nat.zero_le _, by simp⟩
      clear hw
      rintro i ⟨hi, hd⟩
      by_cases h : i < a.length
      · obtain ⟨x, hx⟩ : ∃ x, a[i]? = some x := ⟨_, List.getElem?_eq_getElem h⟩
        obtain ⟨y, hy⟩ : ∃ y, b[i]? = some y := ⟨_, List.getElem?_eq_getElem (by omega)⟩
        have hx' : (a.map opA)[i]? = some (opA x) := by rw [List.getElem?_map, hx]; rfl
        have hy' : (b.map opA)[i]? = some (opA y) := by rw [List.getElem?_map, hy]; rfl
        have hc := fun L G => same_call x y (ha.2 x (List.mem_of_getElem? hx)).2 L G
        have hw : IntKind.i64.wrap ((i : Int) + 1) = ((i + 1 : Nat) : Int) := by rw [wrap_in] <;> omega
        rw [drop_eq hx hy] at hd
        have ht : ∀ L, trim 0 [(1, .sl (b.map opA) .no), (2, .fn 37 []), (15, .sl (a.map opA) .no), (16, .int .i64 a.length), (17, .int .i64 ((i + 1 : Nat) : Int))] L = [] := fun L => trim_drop (by simp only [bels, valsE, List.map_cons, List.map_nil, refss, AV.refs, Tok.refs, refs_ops, Bool.and_self])
        simp only [opA, intsA] at hx' hy' hc
        by_cases hxy : x = y
        · subst hxy
          refine ⟨_, by simp only [go_sem, Nat.reduceEqDiff, Nat.reduceAdd, Nat.reduceLeDiff, h, hx', hy', hw, hc, ht] <;> rfl, .inl ⟨i + 1, ⟨by omega, by simpa using hd⟩, by omega, rfl⟩⟩
        · refine ⟨_, by simp only [go_sem, Nat.reduceEqDiff, Nat.reduceAdd, Nat.reduceLeDiff, h, hx', hy', hw, hc, hxy] <;> rfl, .inr ⟨_, rfl, _, .inr ⟨by simpa [hxy] using hd, rfl⟩⟩⟩
      · rw [drop_end hlen h] at hd
        refine ⟨_, by simp only [go_sem, Nat.reduceEqDiff, h] <;> rfl, .inr ⟨_, rfl, _, .inl ⟨hd, rfl⟩⟩⟩
    rcases hq with ⟨L', ⟨hd, rfl⟩ | ⟨hd, rfl⟩⟩
    · exact ⟨_, by simp only [go_sem, Nat.reduceEqDiff, hd] <;> rfl⟩
    · exact ⟨_, by simp only [go_sem, Nat.reduceEqDiff, hd] <;> rfl⟩
  · have h0 : ((a.length : Int) != (b.length : Int)) = true := by simp; omega
    exact ⟨_, by simp only [go_sem, ↓reduceIte, Nat.reduceEqDiff, h0, ne_len hlen] <;> rfl⟩
end Ev

/- Codes: alike or not, and how many instructions they have. -/
namespace Ev
open Go Go.Proofs
set_option maxRecDepth 10000
theorem same1_call (a b : List OpT) (ha : OkOps a) (L G : Hp) : callA (cfg Try.prog ann) 35 [blockA' a, blockA' b] L G = some (.val (.bool (decide (a = b))), L, G) := by
  refine call_pure rfl rfl ?_ rfl (G' := []) ?_
  · simp only [blockA', handAs, handA, pfs, refss, AV.refs, Tok.drop, Tok.refs, refs_ops, if_true, Bool.and_self]
  show ev Try.prog ann _ [.sl (a.map opA) .no, .sl (b.map opA) .no] [] = _
  rw [fun_some Try.func35 rfl rfl]
  have hc := fun L G => eqf_call a b ha .no .no L G
  simp only [go_sem, Nat.reduceEqDiff, hc]
theorem eqff_call (a b : CodeT) (ha : OkCode a) (t u : Tok) (L G : Hp) : callA (cfg Try.prog ann) 34 [.sl (a.map blockA') t, .sl (b.map blockA') u, .fn 35 []] L G = some (.val (.bool (decide (a = b))), L, G) := by
  suffices h : ∃ G', ev Try.prog ann 34 [.sl (a.map blockA') .no, .sl (b.map blockA') .no, .fn 35 []] [] = some (.val (.bool (decide (a = b))), G') by
    obtain ⟨G', h⟩ := h
    refine call_pure rfl rfl ?_ rfl h
    simp only [handAs, handA, pfs, refss, AV.refs, Tok.drop, Tok.refs, refs_blocks, if_true, Bool.and_self]
  rw [fun_some Try.func34 rfl rfl]
  have hl := ha.1
  by_cases hlen : a.length = b.length
  · have h0 : ((a.length : Int) != (b.length : Int)) = false := by simp [hlen]
    simp only [go_sem, ↓reduceIte, Nat.reduceEqDiff, h0]
    generalize hw : loopW _ _ _ _ _ _ = w
    obtain ⟨o, rfl, hq⟩ : ∃ o, w = some o ∧ ∃ L', (decide (a = b) = true ∧ o = (.exit 0, [], L', [])) ∨ (decide (a = b) = false ∧ o = (.ret, [(6, .bool false)], L', [])) := by
      rw [← hw]
      refine loop_ex (σ := Nat) (fun i => [(1, .sl (b.map blockA') .no), (2, .fn 35 []), (15, .sl (a.map blockA') .no), (16, .int .i64 a.length), (17, .int .i64 i)]) (fun _ => []) (fun _ => []) (fun i => i ≤ a.length ∧ decide (a = b) = decide (a.drop i = b.drop i)) (fun i => a.length - i) _ ?_ 0 ⟨Nat.zero_le _, by simp⟩
      clear hw
      rintro i ⟨hi, hd⟩
      by_cases h : i < a.length
      · obtain ⟨x, hx⟩ : ∃ x, a[i]? = some x := ⟨_, List.getElem?_eq_getElem h⟩
        obtain ⟨y, hy⟩ : ∃ y, b[i]? = some y := ⟨_, List.getElem?_eq_getElem (by omega)⟩
        have hx' : (a.map blockA')[i]? = some (blockA' x) := by rw [List.getElem?_map, hx]; rfl
        have hy' : (b.map blockA')[i]? = some (blockA' y) := by rw [List.getElem?_map, hy]; rfl
        have hc := fun L G => same1_call x y (ha.2 x (List.mem_of_getElem? hx)) L G
        have hw : IntKind.i64.wrap ((i : Int) + 1) = ((i + 1 : Nat) : Int) := by rw [wrap_in] <;> omega
        rw [drop_eq hx hy] at hd
        have ht : ∀ L, trim 0 [(1, .sl (b.map blockA') .no), (2, .fn 35 []), (15, .sl (a.map blockA') .no), (16, .int .i64 a.length), (17, .int .i64 ((i + 1 : Nat) : Int))] L = [] := fun L => trim_drop (by simp only [bels, valsE, List.map_cons, List.map_nil, refss, AV.refs, Tok.refs, refs_blocks, Bool.and_self])
        simp only [blockA'] at hx' hy' hc
        by_cases hxy : x = y
        · subst hxy
          refine ⟨_, by simp only [go_sem, Nat.reduceEqDiff, Nat.reduceAdd, Nat.reduceLeDiff, h, hx', hy', hw, hc, ht] <;> rfl, .inl ⟨i + 1, ⟨by omega, by simpa using hd⟩, by omega, rfl⟩⟩
        · refine ⟨_, by simp only [go_sem, Nat.reduceEqDiff, Nat.reduceAdd, Nat.reduceLeDiff, h, hx', hy', hw, hc, hxy] <;> rfl, .inr ⟨_, rfl, _, .inr ⟨by simpa [hxy] using hd, rfl⟩⟩⟩
      · rw [drop_end hlen h] at hd
        refine ⟨_, by simp only [go_sem, Nat.reduceEqDiff, h] <;> rfl, .inr ⟨_, rfl, _, .inl ⟨hd, rfl⟩⟩⟩
    rcases hq with ⟨L', ⟨hd, rfl⟩ | ⟨hd, rfl⟩⟩
    · exact ⟨_, by simp only [go_sem, Nat.reduceEqDiff, hd] <;> rfl⟩
    · exact ⟨_, by simp only [go_sem, Nat.reduceEqDiff, hd] <;> rfl⟩
  · have h0 : ((a.length : Int) != (b.length : Int)) = true := by simp; omega
    exact ⟨_, by simp only [go_sem, ↓reduceIte, Nat.reduceEqDiff, h0, ne_len hlen] <;> rfl⟩
theorem codeSame_call (a b : CodeT) (ha : OkCode a) (L G : Hp) : callA (cfg Try.prog ann) 11 [codeA a, codeA b] L G = some (.val (.bool (decide (a = b))), L, G) := by
  suffices h : ∃ G', ev Try.prog ann 11 [codeA a, codeA b] [] = some (.val (.bool (decide (a = b))), G') by
    obtain ⟨G', h⟩ := h
    refine call_pure rfl rfl ?_ rfl h
    simp only [codeA, handAs, handA, pfs, refss, AV.refs, Tok.drop, Tok.refs, refs_blocks, if_true, Bool.and_self]
  simp only [codeA]
  rw [fun_some Try.func11 rfl rfl]
  have hc := fun L G => eqff_call a b ha .no .no L G
  exact ⟨_, by simp only [go_sem, Nat.reduceEqDiff, hc, Nat.reduceAdd, Nat.reduceLeDiff] <;> rfl⟩
theorem sameOp_call (a b : OpT) (ha : a.blocks.length < 2 ^ 40) (L G : Hp) : callA (cfg Try.prog ann) 38 [opA a, opA b] L G = some (.val (.bool (decide (a = b))), L, G) := by
  suffices h : ∃ G', ev Try.prog ann 38 [opA a, opA b] [] = some (.val (.bool (decide (a = b))), G') by
    obtain ⟨G', h⟩ := h
    refine call_pure rfl rfl ?_ rfl h
    simp only [opA, intsA, handAs, handA, pfs, refss, AV.refs, Tok.drop, Tok.refs, refs_ints, if_true, Bool.and_self]
  obtain ⟨k, n, s, l⟩ := a
  obtain ⟨k', n', s', l'⟩ := b
  simp only [opA, intsA] at ha ⊢
  rw [fun_some Try.func38 rfl rfl]
  by_cases h1 : k = k'
  · subst h1
    have e1 : (k != k) = false := by simp
    by_cases h2 : n = n'
    · subst h2
      have e2 : (n != n) = false := by simp
      by_cases h3 : s = s'
      · subst h3
        have e3 : (s != s) = false := by simp
        by_cases hlen : l.length = l'.length
        · have e4 : ((l.length : Int) != (l'.length : Int)) = false := by simp [hlen]
          simp only [go_sem, ↓reduceIte, Nat.reduceEqDiff, e1, e2, e3, e4, Nat.reduceAdd, Nat.reduceLeDiff, OpT.mk.injEq, true_and]
          generalize hw : loopW _ _ _ _ _ _ = w
          obtain ⟨o, rfl, hq⟩ : ∃ o, w = some o ∧ ∃ L', (decide (l = l') = true ∧ o = (.exit 0, [], L', [])) ∨ (decide (l = l') = false ∧ o = (.ret, [(4, .bool false)], L', [])) := by
            rw [← hw]
            refine loop_ex (σ := Nat) (fun i => [(2, .ptr true 0 0 0 0), (3, .ptr true 1 0 0 0), (5, .int .i64 i)]) (fun _ => [.row 0 [.agg [.int .i64 k, .int .i64 n, .str s, .sl (l.map (.int .i64)) .no]], .row 0 [.agg [.int .i64 k, .int .i64 n, .str s, .sl (l'.map (.int .i64)) .no]]]) (fun _ => []) (fun i => i ≤ l.length ∧ decide (l = l') = decide (l.drop i = l'.drop i)) (fun i => l.length - i) _ ?_ 0 ⟨Nat.zero_le _, by simp⟩
            clear hw
            rintro i ⟨hi, hd⟩
            have ht : ∀ (j : Int) (L : Hp), trim 2 [(2, .ptr true 0 0 0 0), (3, .ptr true 1 0 0 0), (5, .int .i64 j)] [.row 0 [.agg [.int .i64 k, .int .i64 n, .str s, .sl (l.map (.int .i64)) .no]], .row 0 [.agg [.int .i64 k, .int .i64 n, .str s, .sl (l'.map (.int .i64)) .no]]] = [.row 0 [.agg [.int .i64 k, .int .i64 n, .str s, .sl (l.map (.int .i64)) .no]], .row 0 [.agg [.int .i64 k, .int .i64 n, .str s, .sl (l'.map (.int .i64)) .no]]] := fun j L => rfl
            by_cases h : i < l.length
            · obtain ⟨x, hx⟩ : ∃ x, l[i]? = some x := ⟨_, List.getElem?_eq_getElem h⟩
              obtain ⟨y, hy⟩ : ∃ y, l'[i]? = some y := ⟨_, List.getElem?_eq_getElem (by omega)⟩
              have hx' : (l.map (AV.int .i64))[i]? = some (.int .i64 x) := by rw [List.getElem?_map, hx]; rfl
              have hy' : (l'.map (AV.int .i64))[i]? = some (.int .i64 y) := by rw [List.getElem?_map, hy]; rfl
              have hw : IntKind.i64.wrap ((i : Int) + 1) = ((i + 1 : Nat) : Int) := by rw [wrap_in] <;> omega
              rw [drop_eq hx hy] at hd
              by_cases hxy : x = y
              · subst hxy
                have e0 : (x != x) = false := by simp
                refine ⟨_, by simp only [go_sem, Nat.reduceEqDiff, h, hx', hy', hw, e0, Nat.reduceAdd, Nat.reduceLeDiff, Nat.reduceLT, show ((0 : Nat) < 2) = True from by decide, show ((1 : Nat) < 2) = True from by decide, ht] <;> rfl, .inl ⟨i + 1, ⟨by omega, by simpa using hd⟩, by omega, rfl⟩⟩
              · have e0 : (x != y) = true := by simpa using hxy
                refine ⟨_, by simp only [go_sem, Nat.reduceEqDiff, h, hx', hy', hw, e0, Nat.reduceAdd, Nat.reduceLeDiff, Nat.reduceLT, show ((0 : Nat) < 2) = True from by decide, show ((1 : Nat) < 2) = True from by decide] <;> rfl, .inr ⟨_, rfl, _, .inr ⟨by simpa [hxy] using hd, rfl⟩⟩⟩
            · rw [drop_end hlen h] at hd
              refine ⟨_, by simp only [go_sem, Nat.reduceEqDiff, h] <;> rfl, .inr ⟨_, rfl, _, .inl ⟨hd, rfl⟩⟩⟩
          rcases hq with ⟨L', ⟨hd, rfl⟩ | ⟨hd, rfl⟩⟩
          · exact ⟨_, by simp only [go_sem, Nat.reduceEqDiff, hd] <;> rfl⟩
          · exact ⟨_, by simp only [go_sem, Nat.reduceEqDiff, hd] <;> rfl⟩
        · have e4 : ((l.length : Int) != (l'.length : Int)) = true := by simp; omega
          have e5 : (l = l') = False := by simp; intro e; exact hlen (by rw [e])
          exact ⟨_, by simp only [go_sem, ↓reduceIte, Nat.reduceEqDiff, e1, e2, e3, e4, e5, Nat.reduceAdd, Nat.reduceLeDiff, OpT.mk.injEq, true_and] <;> rfl⟩
      · have e3 : (s != s') = true := by simpa using h3
        exact ⟨_, by simp only [go_sem, ↓reduceIte, Nat.reduceEqDiff, e1, e2, e3, Nat.reduceAdd, Nat.reduceLeDiff, OpT.mk.injEq, true_and, h3] <;> rfl⟩
    · have e3 : (n != n') = true := by simpa using h2
      exact ⟨_, by simp only [go_sem, ↓reduceIte, Nat.reduceEqDiff, e1, e3, Nat.reduceAdd, Nat.reduceLeDiff, OpT.mk.injEq, true_and, h2] <;> rfl⟩
  · have e3 : (k != k') = true := by simpa using h1
    exact ⟨_, by simp only [go_sem, ↓reduceIte, Nat.reduceEqDiff, e3, Nat.reduceAdd, Nat.reduceLeDiff, OpT.mk.injEq, true_and, h1] <;> rfl⟩
end Ev
