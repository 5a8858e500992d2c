/- FewNode: some answer. -/
import Derived.Test.YtecflllnnbiheaaR16
set_option maxHeartbeats 4000000
set_option linter.unusedVariables false
set_option linter.unusedSimpArgs false
namespace Ev
open Go Go.Proofs
set_option maxRecDepth 10000
def FewOk (n : NodeT) : Prop := ∀ d : Int, ∃ r : Int, ∀ L G, callA (cfg Try.prog ann) 46 [nodeA n, .int .i64 d] L G = some (.val (.int .i64 r), L, G)
theorem few_step (k : Int) (s : List UInt8) (l : List NodeT) (hl : l.length < 2 ^ 40) (ih : ∀ x ∈ l, FewOk x) : FewOk (.mk k s l) := by
  intro d
  suffices hh : ∃ r G', ev Try.prog ann 46 [nodeA (.mk k s l), .int .i64 d] [] = some (.val (.int .i64 r), G') by
    obtain ⟨r, G', h⟩ := hh
    refine ⟨r, fun L G => call_pure rfl rfl ?_ rfl (G' := G') ?_⟩
    · simp only [nodeA, handAs, handA, pfs, refss, AV.refs, Tok.refs, Tok.drop, if_true, refs_nodes, Bool.and_self]
    · simp only [nodeA, handAs, handA, Tok.drop, if_true] at h ⊢
      exact h
  have hL := nodesA_len l
  rw [fun_some Try.func46 rfl rfl]
  simp only [nodeA]
  have h20 : ((20 : Int) = 0) = False := by decide
  generalize hk0 : IntKind.i64.wrap (1 + IntKind.i64.wrap ((s.length : Int).tdiv 20)) = k0
  by_cases hd : d = 0
  · subst hd
    exact ⟨_, _, by simp only [go_sem, Nat.reduceEqDiff, Nat.reduceAdd, Nat.reduceLeDiff, h20, show ((3 : Nat) = 0) = False from by decide] <;> rfl⟩
  have hd' : (d == 0) = false := by simpa using hd
  simp only [go_sem, Nat.reduceEqDiff, Nat.reduceAdd, Nat.reduceLeDiff, h20, hd', hk0, show ((3 : Nat) = 0) = False from by decide]
  generalize hw : loopW _ _ _ _ _ _ = w
  obtain ⟨ou, rfl, r, rfl⟩ : ∃ ou, w = some ou ∧ ∃ r : Int, ou = (.exit 0, [(5, .int .i64 r)], [.row 0 [.agg [.int .i64 k, .str s, .sl (nodesA l) .no]]], []) := by
    rw [← hw]
    clear hw
    refine loop_ex (σ := Nat × Int) (fun q => [(1, .int .i64 d), (2, .ptr true 0 0 0 0), (5, .int .i64 q.2), (6, .int .i64 q.1)]) (fun _ => [.row 0 [.agg [.int .i64 k, .str s, .sl (nodesA l) .no]]]) (fun _ => []) (fun q => q.1 ≤ l.length) (fun q => l.length - q.1) _ ?_ (0, k0) (Nat.zero_le _)
    rintro ⟨i, m⟩ q1
    simp only at q1
    have hw : IntKind.i64.wrap ((i : Int) + 1) = ((i + 1 : Nat) : Int) := by rw [wrap_in] <;> omega
    by_cases hi : i < l.length
    · by_cases hm : m < 300
      · obtain ⟨x, hx⟩ : ∃ x, l[i]? = some x := ⟨_, List.getElem?_eq_getElem hi⟩
        have hx' : (nodesA l)[i]? = some (nodeA x) := by rw [nodesA_get, hx]; rfl
        obtain ⟨r, c1⟩ := ih x (List.mem_of_getElem? hx) (IntKind.i64.wrap (d - 1))
        obtain ⟨kx, sx, lx⟩ := x
        simp only [nodeA] at hx' c1
        refine ⟨_, by simp only [go_sem, Nat.reduceEqDiff, hi, hm, hL, hx', hw, c1, trim_whole, Nat.reduceAdd, Nat.reduceLeDiff, decide_true, show ((3 : Nat) = 0) = False from by decide] <;> rfl, ?_⟩
        exact .inl ⟨(i + 1, IntKind.i64.wrap (m + r)), by simp only; omega, by simp only; omega, rfl⟩
      · refine ⟨_, by simp only [go_sem, Nat.reduceEqDiff, hi, hm, hL, decide_true, decide_false] <;> rfl, .inr ⟨_, rfl, _, rfl⟩⟩
    · refine ⟨_, by simp only [go_sem, Nat.reduceEqDiff, hi, hL, decide_false] <;> rfl, .inr ⟨_, rfl, _, rfl⟩⟩
  exact ⟨_, _, by simp only [go_sem, Nat.reduceEqDiff] <;> rfl⟩
theorem few_all : ∀ (N : Nat) (n : NodeT), tsz n ≤ N → N < 2 ^ 40 → FewOk n
  | 0, n, h, _ => by have := tsz_pos n; omega
  | N + 1, .mk k s l, h, hN => by
    rw [tsz] at h
    refine few_step k s l (by have := len_tszs l; omega) fun x hx => few_all N x ?_ (by omega)
    obtain ⟨i, hi⟩ := List.getElem?_of_mem hx
    have := tszs_get hi
    omega
theorem fewNode_call (n : NodeT) (hb : tsz n < 2 ^ 40) : ∃ b : Bool, ∀ L G, callA (cfg Try.prog ann) 24 [nodeA n] L G = some (.val (.bool b), L, G) := by
  obtain ⟨r, hr⟩ := few_all _ n (Nat.le_refl _) hb 12
  refine ⟨decide (r < 300), fun L G => ?_⟩
  suffices hh : ∃ G', ev Try.prog ann 24 [nodeA n] [] = some (.val (.bool (decide (r < 300))), G') by
    obtain ⟨G', h⟩ := hh
    obtain ⟨k, s, l⟩ := n
    refine call_pure rfl rfl ?_ rfl (G' := G') ?_
    · simp only [nodeA, handAs, handA, pfs, refss, AV.refs, Tok.refs, Tok.drop, if_true, refs_nodes, Bool.and_self]
    · simp only [nodeA, handAs, handA, Tok.drop, if_true] at h ⊢
      exact h
  obtain ⟨k, s, l⟩ := n
  rw [fun_some Try.func24 rfl rfl]
  simp only [nodeA] at hr ⊢
  exact ⟨_, by simp only [go_sem, Nat.reduceEqDiff, hr, Nat.reduceAdd, Nat.reduceLeDiff, show ((3 : Nat) = 0) = False from by decide] <;> rfl⟩
end Ev
