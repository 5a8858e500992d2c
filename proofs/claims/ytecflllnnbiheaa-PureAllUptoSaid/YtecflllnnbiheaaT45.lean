/- Lists searched; the same texts. -/
import Derived.Test.YtecflllnnbiheaaT44
set_option maxHeartbeats 4000000
set_option linter.unusedVariables false
set_option linter.unusedSimpArgs false
namespace Ev
open Go Go.Proofs
set_option maxRecDepth 10000
theorem pfs_node (n : NodeT) : pfs (handAs true [nodeA n]) = true := by
  cases n
  simp only [nodeA, handAs, handA, pfs, refss, AV.refs, Tok.refs, Tok.drop, if_true, refs_nodes, Bool.and_self]
theorem indexS_call (l : List (List UInt8)) (s : List UInt8) (hl : l.length < 2 ^ 40) : ∃ r : Int, (0 ≤ r ↔ s ∈ l) ∧ ∀ L G, callA (cfg Try.prog ann) 70 [strsA l, .str s] L G = some (.val (.int .i64 r), L, G) := by
  suffices hh : ∃ r : Int, (0 ≤ r ↔ s ∈ l) ∧ ∃ G', ev Try.prog ann 70 [strsA l, .str s] [] = some (.val (.int .i64 r), G') by
    obtain ⟨r, h1, G', h⟩ := hh
    refine ⟨r, h1, fun L G => call_pure rfl rfl ?_ rfl (G' := G') ?_⟩
    · simp only [strsA, handAs, handA, pfs, refss, AV.refs, Tok.refs, Tok.drop, if_true, refs_strs', Bool.and_self]
    · simp only [strsA, handAs, handA, Tok.drop, if_true] at h ⊢
      exact h
  rw [fun_some Try.func70 rfl rfl]
  simp only [strsA, go_sem, Nat.reduceEqDiff, Nat.reduceAdd, Nat.reduceLeDiff, show ((3 : Nat) = 0) = False from by decide]
  generalize hw : loopW _ _ _ _ _ _ = w
  obtain ⟨ou, rfl, hq⟩ : ∃ ou, w = some ou ∧ ((s ∉ l ∧ ou = (.exit 0, [], [], [])) ∨ (s ∈ l ∧ ∃ r : Nat, ou = (.ret, [(4, .int .i64 r)], [], []))) := by
    rw [← hw]
    clear hw
    refine loop_ex (σ := Nat) (fun i => [(0, .sl (l.map .str) .no), (1, .str s), (7, .int .i64 (l.length : Int)), (8, .int .i64 i)]) (fun _ => []) (fun _ => []) (fun i => i ≤ l.length ∧ s ∉ l.take i) (fun i => l.length - i) _ ?_ 0 ⟨Nat.zero_le _, by simp⟩
    rintro i ⟨q1, q2⟩
    have hw : IntKind.i64.wrap ((i : Int) + 1) = ((i + 1 : Nat) : Int) := by rw [wrap_in] <;> omega
    by_cases hi : i < l.length
    · obtain ⟨x, hx⟩ : ∃ x, l[i]? = some x := ⟨_, List.getElem?_eq_getElem hi⟩
      have hx' : (l.map AV.str)[i]? = some (.str x) := by rw [List.getElem?_map, hx]; rfl
      have ht : l.take (i + 1) = l.take i ++ [x] := by rw [List.take_succ_eq_append_getElem hi]; congr 1; rw [List.getElem?_eq_getElem hi] at hx; simpa using hx
      by_cases hs : s = x
      · have h1 : (s == x) = true := by simpa using hs
        exact ⟨_, by simp only [go_sem, Nat.reduceEqDiff, hi, hx', hw, h1, decide_true, Nat.reduceAdd, Nat.reduceLeDiff] <;> rfl, .inr ⟨_, rfl, .inr ⟨by rw [hs]; exact List.mem_of_getElem? hx, i, rfl⟩⟩⟩
      · have h1 : (s == x) = false := by simpa using hs
        refine ⟨_, by simp only [go_sem, Nat.reduceEqDiff, hi, hx', hw, h1, decide_true, Nat.reduceAdd, Nat.reduceLeDiff] <;> rfl, .inl ⟨i + 1, ⟨by omega, ?_⟩, by omega, rfl⟩⟩
        rw [ht, List.mem_append, List.mem_singleton, not_or]
        exact ⟨q2, hs⟩
    · have e : l.take i = l := List.take_of_length_le (by omega)
      rw [e] at q2
      exact ⟨_, by simp only [go_sem, Nat.reduceEqDiff, hi, decide_false] <;> rfl, .inr ⟨_, rfl, .inl ⟨q2, rfl⟩⟩⟩
  rcases hq with ⟨h1, rfl⟩ | ⟨h1, r, rfl⟩
  · exact ⟨-1, by simp [h1], _, by simp only [go_sem, Nat.reduceEqDiff] <;> rfl⟩
  · exact ⟨r, by simp [h1], _, by simp only [go_sem, Nat.reduceEqDiff] <;> rfl⟩
theorem containsS_call (l : List (List UInt8)) (s : List UInt8) (t : Tok) (hl : l.length < 2 ^ 40) (L G : Hp) : callA (cfg Try.prog ann) 52 [.sl (l.map .str) t, .str s] L G = some (.val (.bool (decide (s ∈ l))), L, G) := by
  suffices hh : ∃ G', ev Try.prog ann 52 [strsA l, .str s] [] = some (.val (.bool (decide (s ∈ l))), G') by
    obtain ⟨G', h⟩ := hh
    refine call_pure rfl rfl ?_ rfl (G' := G') ?_
    · simp only [handAs, handA, pfs, refss, AV.refs, Tok.refs, Tok.drop, if_true, handAs_strs, refs_strs', Bool.and_self]
    · simp only [strsA, handAs, handA, Tok.drop, if_true] at h ⊢
      exact h
  obtain ⟨r, h1, h2⟩ := indexS_call l s hl
  rw [fun_some Try.func52 rfl rfl]
  have e : decide (0 ≤ r) = decide (s ∈ l) := by simp [h1]
  simp only [strsA] at h2 ⊢
  exact ⟨_, by simp only [go_sem, Nat.reduceEqDiff, Nat.reduceAdd, Nat.reduceLeDiff, h2, e] <;> rfl⟩
theorem sameS_call (a b : List (List UInt8)) (ha : a.length < 2 ^ 40) (hb : b.length < 2 ^ 40) (L G : Hp) : callA (cfg Try.prog ann) 26 [strsA a, strsA b] L G = some (.val (.bool (a == b)), L, G) := by
  suffices hh : ∃ G', ev Try.prog ann 26 [strsA a, strsA b] [] = some (.val (.bool (a == b)), G') by
    obtain ⟨G', h⟩ := hh
    refine call_pure rfl rfl ?_ rfl (G' := G') ?_
    · simp only [strsA, handAs, handA, pfs, refss, AV.refs, Tok.refs, Tok.drop, if_true, refs_strs', Bool.and_self]
    · simp only [strsA, handAs, handA, Tok.drop, if_true] at h ⊢
      exact h
  rw [fun_some Try.func26 rfl rfl]
  by_cases hlen : a.length = b.length
  · have h1 : ((a.length : Int) != (b.length : Int)) = false := by simp [hlen]
    simp only [strsA, go_sem, Nat.reduceEqDiff, Nat.reduceAdd, Nat.reduceLeDiff, h1, show ((3 : Nat) = 0) = False from by decide]
    generalize hw : loopW _ _ _ _ _ _ = w
    obtain ⟨ou, rfl, hq⟩ : ∃ ou, w = some ou ∧ ((a = b ∧ ou = (.exit 0, [], [], [])) ∨ (a ≠ b ∧ ou = (.ret, [(4, .bool false)], [], []))) := by
      rw [← hw]
      clear hw
      refine loop_ex (σ := Nat) (fun i => [(0, .sl (a.map .str) .no), (1, .sl (b.map .str) .no), (5, .int .i64 i)]) (fun _ => []) (fun _ => []) (fun i => i ≤ a.length ∧ a.take i = b.take i) (fun i => a.length - i) _ ?_ 0 ⟨Nat.zero_le _, by simp⟩
      rintro i ⟨q1, q2⟩
      have hw : IntKind.i64.wrap ((i : Int) + 1) = ((i + 1 : Nat) : Int) := by rw [wrap_in] <;> omega
      by_cases hi : i < a.length
      · obtain ⟨x, hx⟩ : ∃ x, a[i]? = some x := ⟨_, List.getElem?_eq_getElem hi⟩
        obtain ⟨y, hy⟩ : ∃ y, b[i]? = some y := ⟨_, List.getElem?_eq_getElem (by omega)⟩
        have hx' : (a.map AV.str)[i]? = some (.str x) := by rw [List.getElem?_map, hx]; rfl
        have hy' : (b.map AV.str)[i]? = some (.str y) := by rw [List.getElem?_map, hy]; rfl
        have ht : ∀ {l : List (List UInt8)} {z}, l[i]? = some z → l.take (i + 1) = l.take i ++ [z] := fun {l z} h => by
          obtain ⟨h1, h2⟩ := List.getElem?_eq_some_iff.1 h
          rw [List.take_succ_eq_append_getElem h1, h2]
        by_cases hs : x = y
        · have h1 : (x != y) = false := by simpa using hs
          refine ⟨_, by simp only [go_sem, Nat.reduceEqDiff, hi, hx', hy', hw, h1, decide_true, Nat.reduceAdd, Nat.reduceLeDiff] <;> rfl, .inl ⟨i + 1, ⟨by omega, ?_⟩, by omega, rfl⟩⟩
          rw [ht hx, ht hy, q2, hs]
        · have h1 : (x != y) = true := by simpa using hs
          refine ⟨_, by simp only [go_sem, Nat.reduceEqDiff, hi, hx', hy', hw, h1, decide_true, Nat.reduceAdd, Nat.reduceLeDiff] <;> rfl, .inr ⟨_, rfl, .inr ⟨?_, rfl⟩⟩⟩
          rintro rfl
          rw [hx] at hy
          exact hs (by simpa using hy)
      · rw [List.take_of_length_le (by omega), List.take_of_length_le (by omega)] at q2
        exact ⟨_, by simp only [go_sem, Nat.reduceEqDiff, hi, decide_false, Nat.reduceAdd, Nat.reduceLeDiff] <;> rfl, .inr ⟨_, rfl, .inl ⟨q2, rfl⟩⟩⟩
    rcases hq with ⟨h1, rfl⟩ | ⟨h1, rfl⟩
    · have h2 : (a == b) = true := by simpa using h1
      rw [h2]
      exact ⟨_, by simp only [go_sem, Nat.reduceEqDiff] <;> rfl⟩
    · have h2 : (a == b) = false := by simpa using h1
      rw [h2]
      exact ⟨_, by simp only [go_sem, Nat.reduceEqDiff] <;> rfl⟩
  · have h1 : ((a.length : Int) != (b.length : Int)) = true := by simp; omega
    have h2 : (a == b) = false := by simp only [beq_eq_false_iff_ne, ne_eq]; intro e; rw [e] at hlen; exact hlen rfl
    rw [h2]
    exact ⟨_, by simp only [strsA, go_sem, Nat.reduceEqDiff, Nat.reduceAdd, Nat.reduceLeDiff, h1, show ((3 : Nat) = 0) = False from by decide] <;> rfl⟩
end Ev
