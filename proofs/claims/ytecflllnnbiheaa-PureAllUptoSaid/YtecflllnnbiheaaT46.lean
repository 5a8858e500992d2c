/- What is closed, both ways. -/
import Derived.Test.YtecflllnnbiheaaT45
set_option maxHeartbeats 4000000
set_option linter.unusedVariables false
set_option linter.unusedSimpArgs false
set_option maxHeartbeats 4000000
namespace Ev
open Go Go.Proofs
set_option maxRecDepth 10000
/-- calls that are closed if their arguments are -/
def four : List (List UInt8) := [[105, 102], [111, 114], [97, 110, 100], [105, 110, 116, 99, 109, 112]]
def callC (s : List UInt8) : Bool := (tabF s).2 && ((tabF s).1.2.2.2 || decide (s ∈ four))
def headC (k : Int) (s : List UInt8) (l : List NodeT) : Bool :=
  if k = 2 ∨ k = 3 then (match l with | .mk k' _ _ :: _ => k' == 1 | [] => false) else if k = 4 then callC s else true
mutual
def closedF : NodeT → Bool
  | .mk k s l => headC k s l && closedFs l
def closedFs : List NodeT → Bool
  | [] => true
  | n :: l => closedF n && closedFs l
end
theorem closedFs_iff : ∀ {l : List NodeT}, closedFs l = true ↔ ∀ x ∈ l, closedF x = true
  | [] => by simp [closedFs]
  | n :: l => by rw [closedFs, Bool.and_eq_true, closedFs_iff]; simp
theorem closedFs_any (l : List NodeT) : closedFs l = !l.any fun x => !closedF x := by
  induction l with
  | nil => rfl
  | cons n l ih => rw [closedFs, ih, List.any_cons]; cases closedF n <;> simp
/-- the first of some nodes that a function says yes to -/
theorem indexN_call (l : List NodeT) (q : NodeT → Bool) (f : Nat) (hl : l.length < 2 ^ 40) (hq : ∀ x ∈ l, ∀ L G, callA (cfg Try.prog ann) f [nodeA x] L G = some (.val (.bool (q x)), L, G)) :
    ∃ r : Int, decide (0 ≤ r) = l.any q ∧ ∀ L G, callA (cfg Try.prog ann) 71 [.sl (nodesA l) .no, .fn f []] L G = some (.val (.int .i64 r), L, G) := by
  suffices hh : ∃ r : Int, decide (0 ≤ r) = l.any q ∧ ∃ G', ev Try.prog ann 71 [.sl (nodesA l) .no, .fn f []] [] = some (.val (.int .i64 r), G') by
    obtain ⟨r, h1, G', h⟩ := hh
    refine ⟨r, h1, fun L G => call_pure rfl rfl ?_ rfl (G' := G') ?_⟩
    · simp only [handAs, handA, pfs, refss, AV.refs, Tok.refs, Tok.drop, if_true, refs_nodes, Bool.and_self]
    · simp only [handAs, handA, Tok.drop, if_true] at h ⊢
      exact h
  have hL := nodesA_len l
  rw [fun_some Try.func71 rfl rfl]
  simp only [go_sem, Nat.reduceEqDiff, Nat.reduceAdd, Nat.reduceLeDiff, hL, show ((3 : Nat) = 0) = False from by decide]
  generalize hw : loopW _ _ _ _ _ _ = w
  obtain ⟨ou, rfl, hqq⟩ : ∃ ou, w = some ou ∧ ((l.any q = false ∧ ou = (.exit 0, [], [], [])) ∨ (l.any q = true ∧ ∃ r : Nat, ou = (.ret, [(4, .int .i64 r)], [], []))) := by
    rw [← hw]
    clear hw
    refine loop_ex (σ := Nat) (fun i => [(0, .sl (nodesA l) .no), (1, .fn f []), (7, .int .i64 (l.length : Int)), (8, .int .i64 i)]) (fun _ => []) (fun _ => []) (fun i => i ≤ l.length ∧ (l.take i).any q = false) (fun i => l.length - i) _ ?_ 0 ⟨Nat.zero_le _, by simp⟩
    rintro i ⟨q1, q2⟩
    have hw : IntKind.i64.wrap ((i : Int) + 1) = ((i + 1 : Nat) : Int) := by rw [wrap_in] <;> omega
    by_cases hi : i < l.length
    · obtain ⟨x, hx⟩ : ∃ x, l[i]? = some x := ⟨_, List.getElem?_eq_getElem hi⟩
      have hx' : (nodesA l)[i]? = some (nodeA x) := by rw [nodesA_get, hx]; rfl
      have ht : l.take (i + 1) = l.take i ++ [x] := by rw [List.take_succ_eq_append_getElem hi]; congr 1; rw [List.getElem?_eq_getElem hi] at hx; simpa using hx
      have hmem := List.mem_of_getElem? hx
      have c1 := hq x hmem
      cases hb : q x with
      | true =>
        rw [hb] at c1
        have hany : l.any q = true := List.any_eq_true.2 ⟨x, hmem, hb⟩
        clear hb hmem ht
        obtain ⟨kx, sx, lx⟩ := x
        simp only [nodeA] at hx' c1
        exact ⟨_, by simp only [go_sem, Nat.reduceEqDiff, hi, hL, hx', hw, c1, decide_true, Nat.reduceAdd, Nat.reduceLeDiff, show ((3 : Nat) = 0) = False from by decide] <;> rfl, .inr ⟨_, rfl, .inr ⟨hany, i, rfl⟩⟩⟩
      | false =>
        rw [hb] at c1
        have hany : (l.take (i + 1)).any q = false := by rw [ht, List.any_append, q2]; simp [hb]
        clear hb hmem ht
        obtain ⟨kx, sx, lx⟩ := x
        simp only [nodeA] at hx' c1
        exact ⟨_, by simp only [go_sem, Nat.reduceEqDiff, hi, hL, hx', hw, c1, decide_true, Nat.reduceAdd, Nat.reduceLeDiff, show ((3 : Nat) = 0) = False from by decide] <;> rfl, .inl ⟨i + 1, ⟨by omega, hany⟩, by omega, rfl⟩⟩
    · have e : l.take i = l := List.take_of_length_le (by omega)
      rw [e] at q2
      exact ⟨_, by simp only [go_sem, Nat.reduceEqDiff, hi, decide_false, Nat.reduceAdd, Nat.reduceLeDiff] <;> rfl, .inr ⟨_, rfl, .inl ⟨q2, rfl⟩⟩⟩
  rcases hqq with ⟨h1, rfl⟩ | ⟨h1, r, rfl⟩
  · exact ⟨-1, by simp [h1], _, by simp only [go_sem, Nat.reduceEqDiff] <;> rfl⟩
  · exact ⟨r, by simp [h1], _, by simp only [go_sem, Nat.reduceEqDiff] <;> rfl⟩
theorem containsN_call (l : List NodeT) (q : NodeT → Bool) (f : Nat) (hl : l.length < 2 ^ 40) (hq : ∀ x ∈ l, ∀ L G, callA (cfg Try.prog ann) f [nodeA x] L G = some (.val (.bool (q x)), L, G)) (L G : Hp) :
    callA (cfg Try.prog ann) 53 [.sl (nodesA l) .no, .fn f []] L G = some (.val (.bool (l.any q)), L, G) := by
  suffices hh : ∃ G', ev Try.prog ann 53 [.sl (nodesA l) .no, .fn f []] [] = some (.val (.bool (l.any q)), G') by
    obtain ⟨G', h⟩ := hh
    refine call_pure rfl rfl ?_ rfl (G' := G') ?_
    · simp only [handAs, handA, pfs, refss, AV.refs, Tok.refs, Tok.drop, if_true, refs_nodes, Bool.and_self]
    · simp only [handAs, handA, Tok.drop, if_true] at h ⊢
      exact h
  obtain ⟨r, h1, h2⟩ := indexN_call l q f hl hq
  rw [fun_some Try.func53 rfl rfl]
  exact ⟨_, by simp only [go_sem, Nat.reduceEqDiff, Nat.reduceAdd, Nat.reduceLeDiff, h2, h1] <;> rfl⟩
/-! ### the program's way -/
def ClosedOk (n : NodeT) : Prop := tsz n ≤ 2 ^ 30 → ∀ L G, callA (cfg Try.prog ann) 29 [nodeA n] L G = some (.val (.bool (closedF n)), L, G)
theorem closed1_call {n : NodeT} (h : ClosedOk n) (hb : tsz n ≤ 2 ^ 30) (L G : Hp) : callA (cfg Try.prog ann) 54 [nodeA n] L G = some (.val (.bool (!closedF n)), L, G) := by
  suffices hh : ∃ G', ev Try.prog ann 54 [nodeA n] [] = some (.val (.bool (!closedF n)), G') by
    obtain ⟨G', h'⟩ := hh
    refine call_pure rfl rfl (pfs_node n) rfl (G' := G') ?_
    rw [handAs, handAs, hand_node]
    exact h'
  have c1 := h hb
  rw [fun_some Try.func54 rfl rfl]
  obtain ⟨k, s, l⟩ := n
  simp only [nodeA] at c1 ⊢
  exact ⟨_, by simp only [go_sem, Nat.reduceEqDiff, Nat.reduceAdd, Nat.reduceLeDiff, c1, show ((3 : Nat) = 0) = False from by decide] <;> rfl⟩
theorem closed_step (k : Int) (s : List UInt8) (l : List NodeT) (ih : ∀ x ∈ l, ClosedOk x) : ClosedOk (.mk k s l) := by
  intro hb L G
  rw [tsz] at hb
  have hL := nodesA_len l
  have hlim := len_tszs l
  suffices hh : ∃ G', ev Try.prog ann 29 [nodeA (.mk k s l)] [] = some (.val (.bool (closedF (.mk k s l))), G') by
    obtain ⟨G', h⟩ := hh
    refine call_pure rfl rfl (pfs_node _) rfl (G' := G') ?_
    rw [handAs, handAs, hand_node]
    exact h
  have cC := fun L G => containsN_call l (fun x => !closedF x) 54 (by omega) (fun x hx L G => closed1_call (ih x hx) (by obtain ⟨i, hi⟩ := List.getElem?_of_mem hx; have := tszs_get hi; omega) L G) L G
  have hcl := closedFs_any l
  have p2 : Int.toNat 0 = 0 := rfl
  have p1 : ((0 : Int) < 0) = False := by simp
  rw [fun_some Try.func29 rfl rfl]
  simp only [nodeA, closedF]
  by_cases h23 : k = 2 ∨ k = 3
  · have hb23 : ∃ b : Bool, (k == 2) = b ∧ (k == 3) = !b := by rcases h23 with rfl | rfl; exact ⟨true, rfl, rfl⟩; exact ⟨false, rfl, rfl⟩
    obtain ⟨b, h2, h3⟩ := hb23
    cases b
    all_goals
      simp only [Bool.not_true, Bool.not_false] at h3
      match l, ih, hL, hlim, cC, hcl, hb with
      | [], _, _, _, _, _, _ =>
        have hh : headC k s [] = false := by unfold headC; rw [if_pos h23]
        rw [hh]
        exact ⟨_, by simp only [go_sem, Nat.reduceEqDiff, Nat.reduceAdd, Nat.reduceLeDiff, h2, h3, nodesA, List.length_nil, Int.natCast_zero, Int.reduceBEq, show ((3 : Nat) = 0) = False from by decide] <;> rfl⟩
      | .mk k' s' l0 :: l', ih, hL, hlim, cC, hcl, hb =>
        have hh : headC k s (.mk k' s' l0 :: l') = (k' == 1) := by unfold headC; rw [if_pos h23]
        rw [hh, hcl]
        have hl0 : (((l'.length + 1 : Nat) : Int) == 0) = false := by simp; omega
        have hL' := nodesA_len l'
        generalize (NodeT.mk k' s' l0 :: l').any (fun x => !closedF x) = an at cC
        cases h1 : k' == 1
        all_goals
          have h1' : (k' != 1) = !(k' == 1) := rfl
          rw [h1] at h1'
          simp only [Bool.not_true, Bool.not_false] at h1'
          simp only [nodesA, nodeA] at cC
          exact ⟨_, by simp only [go_sem, Nat.reduceEqDiff, Nat.reduceAdd, Nat.reduceLeDiff, h2, h3, nodesA, nodeA, List.length_cons, hL', hl0, p1, p2, h1', cC, Bool.true_and, Bool.false_and, show ((3 : Nat) = 0) = False from by decide] <;> rfl⟩
  · have h2 : (k == 2) = false := by simpa using fun h => h23 (.inl h)
    have h3 : (k == 3) = false := by simpa using fun h => h23 (.inr h)
    rw [hcl]
    generalize l.any (fun x => !closedF x) = an at cC
    by_cases h4 : k = 4
    · subst h4
      have hh : headC 4 s l = callC s := by unfold headC; rw [if_neg h23, if_pos rfl]
      rw [hh]
      unfold callC
      have c1 := fun L G => tabFind_call s L G
      have c2 := fun t L G => containsS_call four s t (by decide) L G
      have p3 : ((4 : Nat) ≤ 2 ^ 20) = True := by decide
      generalize decide (s ∈ four) = a6 at c2 ⊢
      simp only [infA] at c1
      simp only [four, List.map_cons, List.map_nil] at c2
      generalize (tabF s).1.1 = a1 at c1
      generalize (tabF s).1.2.1 = a2 at c1
      generalize (tabF s).1.2.2.1 = a3 at c1
      generalize (tabF s).1.2.2.2 = a4 at c1 ⊢
      generalize (tabF s).2 = a5 at c1 ⊢
      cases a5 <;> cases a4 <;> cases a6
      all_goals exact ⟨_, by simp only [go_sem, Nat.reduceEqDiff, Nat.reduceAdd, Nat.reduceLeDiff, Nat.reduceLT, h2, h3, Int.reduceBEq, c1, c2, cC, p1, p2, p3, Bool.true_and, Bool.false_and, show ((3 : Nat) = 0) = False from by decide] <;> rfl⟩
    · have h4' : (k == 4) = false := by simpa using h4
      have hh : headC k s l = true := by unfold headC; rw [if_neg h23, if_neg h4]
      rw [hh]
      exact ⟨_, by simp only [go_sem, Nat.reduceEqDiff, Nat.reduceAdd, Nat.reduceLeDiff, h2, h3, h4', cC, Bool.true_and, show ((3 : Nat) = 0) = False from by decide] <;> rfl⟩
theorem closed_all : ∀ (N : Nat) (n : NodeT), tsz n ≤ N → ClosedOk n
  | 0, n, h => by have := tsz_pos n; omega
  | N + 1, .mk k s l, h => closed_step k s l fun x hx => closed_all N x (by
      rw [tsz] at h
      obtain ⟨i, hi⟩ := List.getElem?_of_mem hx
      have := tszs_get hi
      omega)
/-! ### the document's way -/
theorem callC_find (s : List UInt8) : callC s = ((findF s).1.2.2.2 || decide (s ∈ four)) := by
  rw [find_tab]
  unfold callC
  cases h : (tabF s).2 with
  | true => rw [Bool.true_and]
  | false =>
    have h1 : (tabF s).1 = (0, 0, false, false) := by
      unfold tabF at h ⊢
      split <;> rename_i hx
      · rw [hx] at h; cases h
      · rfl
    have h2 : s ∉ four := fun hm => by
      have : ∀ s ∈ four, (tabF s).2 = true := by decide +kernel
      rw [this s hm] at h
      cases h
    rw [h1]
    simp [h2]
def RefClosedOk (n : NodeT) : Prop := tsz n ≤ 2 ^ 30 → ∀ L G, callA (cfg Try.prog ann) 30 [nodeA n] L G = some (.val (.bool (closedF n)), L, G)
theorem refClosed_step (k : Int) (s : List UInt8) (l : List NodeT) (ih : ∀ x ∈ l, RefClosedOk x) : RefClosedOk (.mk k s l) := by
  intro hb L G
  rw [tsz] at hb
  have hL := nodesA_len l
  have hlim := len_tszs l
  suffices hh : ∃ G', ev Try.prog ann 30 [nodeA (.mk k s l)] [] = some (.val (.bool (closedF (.mk k s l))), G') by
    obtain ⟨G', h⟩ := hh
    refine call_pure rfl rfl (pfs_node _) rfl (G' := G') ?_
    rw [handAs, handAs, hand_node]
    exact h
  have p2 : Int.toNat 0 = 0 := rfl
  have p1 : ((0 : Int) < 0) = False := by simp
  have hx0 : ∀ x l', l = x :: l' → (nodesA l)[0]? = some (nodeA x) := fun x l' e => by rw [nodesA_get, e]; rfl
  rw [fun_some Try.func30 rfl rfl]
  simp only [nodeA, closedF]
  by_cases h23 : k = 2 ∨ k = 3
  · have hb23 : ∃ b : Bool, (k == 2) = b ∧ (k == 3) = !b := by rcases h23 with rfl | rfl; exact ⟨true, rfl, rfl⟩; exact ⟨false, rfl, rfl⟩
    obtain ⟨b, h2, h3⟩ := hb23
    by_cases hl : l = []
    · have hh : headC k s l = false := by unfold headC; rw [if_pos h23, hl]
      have hl0 : ((l.length : Int) == 0) = true := by rw [hl]; rfl
      rw [hh]
      cases b
      all_goals
        simp only [Bool.not_true, Bool.not_false] at h3
        exact ⟨_, by simp only [go_sem, Nat.reduceEqDiff, Nat.reduceAdd, Nat.reduceLeDiff, Nat.reduceLT, h2, h3, hL, hl0, Bool.true_and, Bool.and_true, Bool.not_true, Bool.not_false, Bool.false_and, show ((3 : Nat) = 0) = False from by decide] <;> rfl⟩
    · obtain ⟨x, hx⟩ : ∃ x, l[0]? = some x := ⟨_, List.getElem?_eq_getElem (List.length_pos_iff.2 hl)⟩
      obtain ⟨k', s', l0⟩ := x
      have hx0' : (nodesA l)[0]? = some (.agg [.int .i64 k', .str s', .sl (nodesA l0) .no]) := by rw [nodesA_get, hx, Option.map_some, nodeA]
      have hl0 : ((l.length : Int) == 0) = false := by have := List.length_pos_iff.2 hl; simp; omega
      have hh : headC k s l = (k' == 1) := by
        unfold headC
        rw [if_pos h23]
        cases l with
        | nil => exact absurd rfl hl
        | cons y l => simp only [List.getElem?_cons_zero, Option.some.injEq] at hx; rw [hx]
      rw [hh]
      cases h1 : k' == 1
      · have h1' : (k' != 1) = true := by have : (k' != 1) = !(k' == 1) := rfl; rw [this, h1]; rfl
        cases b
        all_goals
          simp only [Bool.not_true, Bool.not_false] at h3
          exact ⟨_, by simp only [go_sem, Nat.reduceEqDiff, Nat.reduceAdd, Nat.reduceLeDiff, Nat.reduceLT, h2, h3, hL, hl0, hx0', h1', p1, p2, Bool.true_and, Bool.and_true, Bool.not_true, Bool.not_false, Bool.false_and, show ((3 : Nat) = 0) = False from by decide] <;> rfl⟩
      · have h1' : (k' != 1) = false := by have : (k' != 1) = !(k' == 1) := rfl; rw [this, h1]; rfl
        cases b
        all_goals
          simp only [Bool.not_true, Bool.not_false] at h3
          simp only [go_sem, Nat.reduceEqDiff, Nat.reduceAdd, Nat.reduceLeDiff, Nat.reduceLT, h2, h3, hL, hl0, hx0', h1', p1, p2, Bool.true_and, Bool.and_true, Bool.not_true, Bool.not_false, Bool.false_and, show ((3 : Nat) = 0) = False from by decide]
          generalize hw : loopW _ _ _ _ _ _ = w
          obtain ⟨ou, rfl, hq⟩ : ∃ ou, w = some ou ∧ ((closedFs l = true ∧ ∃ L', ou = (.exit 1, [], L', [])) ∨ (closedFs l = false ∧ ∃ L', ou = (.ret, [(2, .bool false)], L', []))) := by
            rw [← hw]
            clear hw
            refine loop_ex (σ := Nat) (fun i => [(1, .ptr true 0 0 0 0), (5, .int .i64 i)]) (fun _ => _) (fun _ => []) (fun i => i ≤ l.length ∧ closedFs (l.take i) = true) (fun i => l.length - i) _ ?_ 0 ⟨Nat.zero_le _, rfl⟩
            rintro i ⟨q1, q2⟩
            have hw : IntKind.i64.wrap ((i : Int) + 1) = ((i + 1 : Nat) : Int) := by rw [wrap_in] <;> omega
            by_cases hi : i < l.length
            · obtain ⟨x, hx⟩ : ∃ x, l[i]? = some x := ⟨_, List.getElem?_eq_getElem hi⟩
              have hx' : (nodesA l)[i]? = some (nodeA x) := by rw [nodesA_get, hx]; rfl
              have htx := tszs_get hx
              have d1 := ih x (List.mem_of_getElem? hx) (by omega)
              have hmem := List.mem_of_getElem? hx
              have ht : l.take (i + 1) = l.take i ++ [x] := by rw [List.take_succ_eq_append_getElem hi]; congr 1; rw [List.getElem?_eq_getElem hi] at hx; simpa using hx
              cases hb : closedF x with
              | true =>
                have hn : closedFs (l.take (i + 1)) = true := by
                  rw [closedFs_iff] at q2 ⊢
                  intro z hz
                  rw [ht, List.mem_append, List.mem_singleton] at hz
                  rcases hz with hz | rfl
                  · exact q2 z hz
                  · exact hb
                rw [hb] at d1
                clear htx hmem ht hb
                obtain ⟨kx, sx, lx⟩ := x
                simp only [nodeA] at hx' d1
                exact ⟨_, by simp only [go_sem, Nat.reduceEqDiff, hi, hL, hx', hw, d1, trim_whole, decide_true, Bool.not_true, Nat.reduceAdd, Nat.reduceLeDiff, show ((3 : Nat) = 0) = False from by decide] <;> rfl, .inl ⟨i + 1, ⟨by omega, hn⟩, by omega, rfl⟩⟩
              | false =>
                have hn : closedFs l = false := by
                  cases hh : closedFs l with
                  | false => rfl
                  | true => rw [closedFs_iff.1 hh x hmem] at hb; cases hb
                rw [hb] at d1
                clear htx hmem ht hb
                obtain ⟨kx, sx, lx⟩ := x
                simp only [nodeA] at hx' d1
                exact ⟨_, by simp only [go_sem, Nat.reduceEqDiff, hi, hL, hx', hw, d1, decide_true, Bool.not_false, Nat.reduceAdd, Nat.reduceLeDiff, show ((3 : Nat) = 0) = False from by decide] <;> rfl, .inr ⟨_, rfl, .inr ⟨hn, _, rfl⟩⟩⟩
            · rw [List.take_of_length_le (by omega)] at q2
              exact ⟨_, by simp only [go_sem, Nat.reduceEqDiff, hi, hL, decide_false, Nat.reduceAdd, Nat.reduceLeDiff] <;> rfl, .inr ⟨_, rfl, .inl ⟨q2, _, rfl⟩⟩⟩
          rcases hq with ⟨h1, L', rfl⟩ | ⟨h1, L', rfl⟩
          · rw [h1]
            exact ⟨_, by simp only [go_sem, Nat.reduceEqDiff] <;> rfl⟩
          · rw [h1]
            exact ⟨_, by simp only [go_sem, Nat.reduceEqDiff] <;> rfl⟩
  · have h2 : (k == 2) = false := by simpa using fun h => h23 (.inl h)
    have h3 : (k == 3) = false := by simpa using fun h => h23 (.inr h)
    by_cases h4 : k = 4
    · subst h4
      have hh : headC 4 s l = callC s := by unfold headC; rw [if_neg h23, if_pos rfl]
      rw [hh, callC_find]
      have c1 := fun L G => refFind_call s L G
      simp only [infA] at c1
      generalize (findF s).1.1 = a1 at c1
      generalize (findF s).1.2.1 = a2 at c1
      generalize (findF s).1.2.2.1 = a3 at c1
      generalize (findF s).1.2.2.2 = a4 at c1 ⊢
      generalize (findF s).2 = a5 at c1
      cases a4
      · rw [Bool.false_or]
        by_cases e1 : s = [105, 102]
        · have n1 : (s != [105, 102]) = false := by simpa using e1
          have hm : decide (s ∈ four) = true := by simp [four, e1]
          rw [hm]
          simp only [go_sem, Nat.reduceEqDiff, Nat.reduceAdd, Nat.reduceLeDiff, Nat.reduceLT, h2, h3, hL, c1, n1, Int.reduceBEq, Bool.true_and, Bool.and_true, Bool.not_true, Bool.not_false, Bool.false_and, show ((3 : Nat) = 0) = False from by decide]
          generalize hw : loopW _ _ _ _ _ _ = w
          obtain ⟨ou, rfl, hq⟩ : ∃ ou, w = some ou ∧ ((closedFs l = true ∧ ∃ L', ou = (.exit 1, [], L', [])) ∨ (closedFs l = false ∧ ∃ L', ou = (.ret, [(2, .bool false)], L', []))) := by
            rw [← hw]
            clear hw
            refine loop_ex (σ := Nat) (fun i => [(1, .ptr true 0 0 0 0), (5, .int .i64 i)]) (fun _ => _) (fun _ => []) (fun i => i ≤ l.length ∧ closedFs (l.take i) = true) (fun i => l.length - i) _ ?_ 0 ⟨Nat.zero_le _, rfl⟩
            rintro i ⟨q1, q2⟩
            have hw : IntKind.i64.wrap ((i : Int) + 1) = ((i + 1 : Nat) : Int) := by rw [wrap_in] <;> omega
            by_cases hi : i < l.length
            · obtain ⟨x, hx⟩ : ∃ x, l[i]? = some x := ⟨_, List.getElem?_eq_getElem hi⟩
              have hx' : (nodesA l)[i]? = some (nodeA x) := by rw [nodesA_get, hx]; rfl
              have htx := tszs_get hx
              have d1 := ih x (List.mem_of_getElem? hx) (by omega)
              have hmem := List.mem_of_getElem? hx
              have ht : l.take (i + 1) = l.take i ++ [x] := by rw [List.take_succ_eq_append_getElem hi]; congr 1; rw [List.getElem?_eq_getElem hi] at hx; simpa using hx
              cases hb : closedF x with
              | true =>
                have hn : closedFs (l.take (i + 1)) = true := by
                  rw [closedFs_iff] at q2 ⊢
                  intro z hz
                  rw [ht, List.mem_append, List.mem_singleton] at hz
                  rcases hz with hz | rfl
                  · exact q2 z hz
                  · exact hb
                rw [hb] at d1
                clear htx hmem ht hb
                obtain ⟨kx, sx, lx⟩ := x
                simp only [nodeA] at hx' d1
                exact ⟨_, by simp only [go_sem, Nat.reduceEqDiff, hi, hL, hx', hw, d1, trim_whole, decide_true, Bool.not_true, Nat.reduceAdd, Nat.reduceLeDiff, show ((3 : Nat) = 0) = False from by decide] <;> rfl, .inl ⟨i + 1, ⟨by omega, hn⟩, by omega, rfl⟩⟩
              | false =>
                have hn : closedFs l = false := by
                  cases hh : closedFs l with
                  | false => rfl
                  | true => rw [closedFs_iff.1 hh x hmem] at hb; cases hb
                rw [hb] at d1
                clear htx hmem ht hb
                obtain ⟨kx, sx, lx⟩ := x
                simp only [nodeA] at hx' d1
                exact ⟨_, by simp only [go_sem, Nat.reduceEqDiff, hi, hL, hx', hw, d1, decide_true, Bool.not_false, Nat.reduceAdd, Nat.reduceLeDiff, show ((3 : Nat) = 0) = False from by decide] <;> rfl, .inr ⟨_, rfl, .inr ⟨hn, _, rfl⟩⟩⟩
            · rw [List.take_of_length_le (by omega)] at q2
              exact ⟨_, by simp only [go_sem, Nat.reduceEqDiff, hi, hL, decide_false, Nat.reduceAdd, Nat.reduceLeDiff] <;> rfl, .inr ⟨_, rfl, .inl ⟨q2, _, rfl⟩⟩⟩
          rcases hq with ⟨h1, L', rfl⟩ | ⟨h1, L', rfl⟩
          · rw [h1]
            exact ⟨_, by simp only [go_sem, Nat.reduceEqDiff] <;> rfl⟩
          · rw [h1]
            exact ⟨_, by simp only [go_sem, Nat.reduceEqDiff] <;> rfl⟩
        have n1 : (s != [105, 102]) = true := by simpa using e1
        by_cases e2 : s = [111, 114]
        · have n2 : (s != [111, 114]) = false := by simpa using e2
          have hm : decide (s ∈ four) = true := by simp [four, e2]
          rw [hm]
          simp only [go_sem, Nat.reduceEqDiff, Nat.reduceAdd, Nat.reduceLeDiff, Nat.reduceLT, h2, h3, hL, c1, n1, n2, Int.reduceBEq, Bool.true_and, Bool.and_true, Bool.not_true, Bool.not_false, Bool.false_and, show ((3 : Nat) = 0) = False from by decide]
          generalize hw : loopW _ _ _ _ _ _ = w
          obtain ⟨ou, rfl, hq⟩ : ∃ ou, w = some ou ∧ ((closedFs l = true ∧ ∃ L', ou = (.exit 1, [], L', [])) ∨ (closedFs l = false ∧ ∃ L', ou = (.ret, [(2, .bool false)], L', []))) := by
            rw [← hw]
            clear hw
            refine loop_ex (σ := Nat) (fun i => [(1, .ptr true 0 0 0 0), (5, .int .i64 i)]) (fun _ => _) (fun _ => []) (fun i => i ≤ l.length ∧ closedFs (l.take i) = true) (fun i => l.length - i) _ ?_ 0 ⟨Nat.zero_le _, rfl⟩
            rintro i ⟨q1, q2⟩
            have hw : IntKind.i64.wrap ((i : Int) + 1) = ((i + 1 : Nat) : Int) := by rw [wrap_in] <;> omega
            by_cases hi : i < l.length
            · obtain ⟨x, hx⟩ : ∃ x, l[i]? = some x := ⟨_, List.getElem?_eq_getElem hi⟩
              have hx' : (nodesA l)[i]? = some (nodeA x) := by rw [nodesA_get, hx]; rfl
              have htx := tszs_get hx
              have d1 := ih x (List.mem_of_getElem? hx) (by omega)
              have hmem := List.mem_of_getElem? hx
              have ht : l.take (i + 1) = l.take i ++ [x] := by rw [List.take_succ_eq_append_getElem hi]; congr 1; rw [List.getElem?_eq_getElem hi] at hx; simpa using hx
              cases hb : closedF x with
              | true =>
                have hn : closedFs (l.take (i + 1)) = true := by
                  rw [closedFs_iff] at q2 ⊢
                  intro z hz
                  rw [ht, List.mem_append, List.mem_singleton] at hz
                  rcases hz with hz | rfl
                  · exact q2 z hz
                  · exact hb
                rw [hb] at d1
                clear htx hmem ht hb
                obtain ⟨kx, sx, lx⟩ := x
                simp only [nodeA] at hx' d1
                exact ⟨_, by simp only [go_sem, Nat.reduceEqDiff, hi, hL, hx', hw, d1, trim_whole, decide_true, Bool.not_true, Nat.reduceAdd, Nat.reduceLeDiff, show ((3 : Nat) = 0) = False from by decide] <;> rfl, .inl ⟨i + 1, ⟨by omega, hn⟩, by omega, rfl⟩⟩
              | false =>
                have hn : closedFs l = false := by
                  cases hh : closedFs l with
                  | false => rfl
                  | true => rw [closedFs_iff.1 hh x hmem] at hb; cases hb
                rw [hb] at d1
                clear htx hmem ht hb
                obtain ⟨kx, sx, lx⟩ := x
                simp only [nodeA] at hx' d1
                exact ⟨_, by simp only [go_sem, Nat.reduceEqDiff, hi, hL, hx', hw, d1, decide_true, Bool.not_false, Nat.reduceAdd, Nat.reduceLeDiff, show ((3 : Nat) = 0) = False from by decide] <;> rfl, .inr ⟨_, rfl, .inr ⟨hn, _, rfl⟩⟩⟩
            · rw [List.take_of_length_le (by omega)] at q2
              exact ⟨_, by simp only [go_sem, Nat.reduceEqDiff, hi, hL, decide_false, Nat.reduceAdd, Nat.reduceLeDiff] <;> rfl, .inr ⟨_, rfl, .inl ⟨q2, _, rfl⟩⟩⟩
          rcases hq with ⟨h1, L', rfl⟩ | ⟨h1, L', rfl⟩
          · rw [h1]
            exact ⟨_, by simp only [go_sem, Nat.reduceEqDiff] <;> rfl⟩
          · rw [h1]
            exact ⟨_, by simp only [go_sem, Nat.reduceEqDiff] <;> rfl⟩
        have n2 : (s != [111, 114]) = true := by simpa using e2
        by_cases e3 : s = [97, 110, 100]
        · have n3 : (s != [97, 110, 100]) = false := by simpa using e3
          have hm : decide (s ∈ four) = true := by simp [four, e3]
          rw [hm]
          simp only [go_sem, Nat.reduceEqDiff, Nat.reduceAdd, Nat.reduceLeDiff, Nat.reduceLT, h2, h3, hL, c1, n1, n2, n3, Int.reduceBEq, Bool.true_and, Bool.and_true, Bool.not_true, Bool.not_false, Bool.false_and, show ((3 : Nat) = 0) = False from by decide]
          generalize hw : loopW _ _ _ _ _ _ = w
          obtain ⟨ou, rfl, hq⟩ : ∃ ou, w = some ou ∧ ((closedFs l = true ∧ ∃ L', ou = (.exit 1, [], L', [])) ∨ (closedFs l = false ∧ ∃ L', ou = (.ret, [(2, .bool false)], L', []))) := by
            rw [← hw]
            clear hw
            refine loop_ex (σ := Nat) (fun i => [(1, .ptr true 0 0 0 0), (5, .int .i64 i)]) (fun _ => _) (fun _ => []) (fun i => i ≤ l.length ∧ closedFs (l.take i) = true) (fun i => l.length - i) _ ?_ 0 ⟨Nat.zero_le _, rfl⟩
            rintro i ⟨q1, q2⟩
            have hw : IntKind.i64.wrap ((i : Int) + 1) = ((i + 1 : Nat) : Int) := by rw [wrap_in] <;> omega
            by_cases hi : i < l.length
            · obtain ⟨x, hx⟩ : ∃ x, l[i]? = some x := ⟨_, List.getElem?_eq_getElem hi⟩
              have hx' : (nodesA l)[i]? = some (nodeA x) := by rw [nodesA_get, hx]; rfl
              have htx := tszs_get hx
              have d1 := ih x (List.mem_of_getElem? hx) (by omega)
              have hmem := List.mem_of_getElem? hx
              have ht : l.take (i + 1) = l.take i ++ [x] := by rw [List.take_succ_eq_append_getElem hi]; congr 1; rw [List.getElem?_eq_getElem hi] at hx; simpa using hx
              cases hb : closedF x with
              | true =>
                have hn : closedFs (l.take (i + 1)) = true := by
                  rw [closedFs_iff] at q2 ⊢
                  intro z hz
                  rw [ht, List.mem_append, List.mem_singleton] at hz
                  rcases hz with hz | rfl
                  · exact q2 z hz
                  · exact hb
                rw [hb] at d1
                clear htx hmem ht hb
                obtain ⟨kx, sx, lx⟩ := x
                simp only [nodeA] at hx' d1
                exact ⟨_, by simp only [go_sem, Nat.reduceEqDiff, hi, hL, hx', hw, d1, trim_whole, decide_true, Bool.not_true, Nat.reduceAdd, Nat.reduceLeDiff, show ((3 : Nat) = 0) = False from by decide] <;> rfl, .inl ⟨i + 1, ⟨by omega, hn⟩, by omega, rfl⟩⟩
              | false =>
                have hn : closedFs l = false := by
                  cases hh : closedFs l with
                  | false => rfl
                  | true => rw [closedFs_iff.1 hh x hmem] at hb; cases hb
                rw [hb] at d1
                clear htx hmem ht hb
                obtain ⟨kx, sx, lx⟩ := x
                simp only [nodeA] at hx' d1
                exact ⟨_, by simp only [go_sem, Nat.reduceEqDiff, hi, hL, hx', hw, d1, decide_true, Bool.not_false, Nat.reduceAdd, Nat.reduceLeDiff, show ((3 : Nat) = 0) = False from by decide] <;> rfl, .inr ⟨_, rfl, .inr ⟨hn, _, rfl⟩⟩⟩
            · rw [List.take_of_length_le (by omega)] at q2
              exact ⟨_, by simp only [go_sem, Nat.reduceEqDiff, hi, hL, decide_false, Nat.reduceAdd, Nat.reduceLeDiff] <;> rfl, .inr ⟨_, rfl, .inl ⟨q2, _, rfl⟩⟩⟩
          rcases hq with ⟨h1, L', rfl⟩ | ⟨h1, L', rfl⟩
          · rw [h1]
            exact ⟨_, by simp only [go_sem, Nat.reduceEqDiff] <;> rfl⟩
          · rw [h1]
            exact ⟨_, by simp only [go_sem, Nat.reduceEqDiff] <;> rfl⟩
        have n3 : (s != [97, 110, 100]) = true := by simpa using e3
        by_cases e4 : s = [105, 110, 116, 99, 109, 112]
        · have n4 : (s != [105, 110, 116, 99, 109, 112]) = false := by simpa using e4
          have hm : decide (s ∈ four) = true := by simp [four, e4]
          rw [hm]
          simp only [go_sem, Nat.reduceEqDiff, Nat.reduceAdd, Nat.reduceLeDiff, Nat.reduceLT, h2, h3, hL, c1, n1, n2, n3, n4, Int.reduceBEq, Bool.true_and, Bool.and_true, Bool.not_true, Bool.not_false, Bool.false_and, show ((3 : Nat) = 0) = False from by decide]
          generalize hw : loopW _ _ _ _ _ _ = w
          obtain ⟨ou, rfl, hq⟩ : ∃ ou, w = some ou ∧ ((closedFs l = true ∧ ∃ L', ou = (.exit 1, [], L', [])) ∨ (closedFs l = false ∧ ∃ L', ou = (.ret, [(2, .bool false)], L', []))) := by
            rw [← hw]
            clear hw
            refine loop_ex (σ := Nat) (fun i => [(1, .ptr true 0 0 0 0), (5, .int .i64 i)]) (fun _ => _) (fun _ => []) (fun i => i ≤ l.length ∧ closedFs (l.take i) = true) (fun i => l.length - i) _ ?_ 0 ⟨Nat.zero_le _, rfl⟩
            rintro i ⟨q1, q2⟩
            have hw : IntKind.i64.wrap ((i : Int) + 1) = ((i + 1 : Nat) : Int) := by rw [wrap_in] <;> omega
            by_cases hi : i < l.length
            · obtain ⟨x, hx⟩ : ∃ x, l[i]? = some x := ⟨_, List.getElem?_eq_getElem hi⟩
              have hx' : (nodesA l)[i]? = some (nodeA x) := by rw [nodesA_get, hx]; rfl
              have htx := tszs_get hx
              have d1 := ih x (List.mem_of_getElem? hx) (by omega)
              have hmem := List.mem_of_getElem? hx
              have ht : l.take (i + 1) = l.take i ++ [x] := by rw [List.take_succ_eq_append_getElem hi]; congr 1; rw [List.getElem?_eq_getElem hi] at hx; simpa using hx
              cases hb : closedF x with
              | true =>
                have hn : closedFs (l.take (i + 1)) = true := by
                  rw [closedFs_iff] at q2 ⊢
                  intro z hz
                  rw [ht, List.mem_append, List.mem_singleton] at hz
                  rcases hz with hz | rfl
                  · exact q2 z hz
                  · exact hb
                rw [hb] at d1
                clear htx hmem ht hb
                obtain ⟨kx, sx, lx⟩ := x
                simp only [nodeA] at hx' d1
                exact ⟨_, by simp only [go_sem, Nat.reduceEqDiff, hi, hL, hx', hw, d1, trim_whole, decide_true, Bool.not_true, Nat.reduceAdd, Nat.reduceLeDiff, show ((3 : Nat) = 0) = False from by decide] <;> rfl, .inl ⟨i + 1, ⟨by omega, hn⟩, by omega, rfl⟩⟩
              | false =>
                have hn : closedFs l = false := by
                  cases hh : closedFs l with
                  | false => rfl
                  | true => rw [closedFs_iff.1 hh x hmem] at hb; cases hb
                rw [hb] at d1
                clear htx hmem ht hb
                obtain ⟨kx, sx, lx⟩ := x
                simp only [nodeA] at hx' d1
                exact ⟨_, by simp only [go_sem, Nat.reduceEqDiff, hi, hL, hx', hw, d1, decide_true, Bool.not_false, Nat.reduceAdd, Nat.reduceLeDiff, show ((3 : Nat) = 0) = False from by decide] <;> rfl, .inr ⟨_, rfl, .inr ⟨hn, _, rfl⟩⟩⟩
            · rw [List.take_of_length_le (by omega)] at q2
              exact ⟨_, by simp only [go_sem, Nat.reduceEqDiff, hi, hL, decide_false, Nat.reduceAdd, Nat.reduceLeDiff] <;> rfl, .inr ⟨_, rfl, .inl ⟨q2, _, rfl⟩⟩⟩
          rcases hq with ⟨h1, L', rfl⟩ | ⟨h1, L', rfl⟩
          · rw [h1]
            exact ⟨_, by simp only [go_sem, Nat.reduceEqDiff] <;> rfl⟩
          · rw [h1]
            exact ⟨_, by simp only [go_sem, Nat.reduceEqDiff] <;> rfl⟩
        have n4 : (s != [105, 110, 116, 99, 109, 112]) = true := by simpa using e4
        have hm : decide (s ∈ four) = false := by simp [four, e1, e2, e3, e4]
        rw [hm]
        exact ⟨_, by simp only [go_sem, Nat.reduceEqDiff, Nat.reduceAdd, Nat.reduceLeDiff, Nat.reduceLT, h2, h3, hL, c1, n1, n2, n3, n4, Int.reduceBEq, Bool.true_and, Bool.and_true, Bool.not_true, Bool.not_false, Bool.false_and, show ((3 : Nat) = 0) = False from by decide] <;> rfl⟩
      · rw [Bool.true_or]
        simp only [go_sem, Nat.reduceEqDiff, Nat.reduceAdd, Nat.reduceLeDiff, Nat.reduceLT, h2, h3, hL, c1, Int.reduceBEq, Bool.true_and, Bool.and_true, Bool.not_true, Bool.not_false, Bool.false_and, show ((3 : Nat) = 0) = False from by decide]
        generalize hw : loopW _ _ _ _ _ _ = w
        obtain ⟨ou, rfl, hq⟩ : ∃ ou, w = some ou ∧ ((closedFs l = true ∧ ∃ L', ou = (.exit 1, [], L', [])) ∨ (closedFs l = false ∧ ∃ L', ou = (.ret, [(2, .bool false)], L', []))) := by
          rw [← hw]
          clear hw
          refine loop_ex (σ := Nat) (fun i => [(1, .ptr true 0 0 0 0), (5, .int .i64 i)]) (fun _ => _) (fun _ => []) (fun i => i ≤ l.length ∧ closedFs (l.take i) = true) (fun i => l.length - i) _ ?_ 0 ⟨Nat.zero_le _, rfl⟩
          rintro i ⟨q1, q2⟩
          have hw : IntKind.i64.wrap ((i : Int) + 1) = ((i + 1 : Nat) : Int) := by rw [wrap_in] <;> omega
          by_cases hi : i < l.length
          · obtain ⟨x, hx⟩ : ∃ x, l[i]? = some x := ⟨_, List.getElem?_eq_getElem hi⟩
            have hx' : (nodesA l)[i]? = some (nodeA x) := by rw [nodesA_get, hx]; rfl
            have htx := tszs_get hx
            have d1 := ih x (List.mem_of_getElem? hx) (by omega)
            have hmem := List.mem_of_getElem? hx
            have ht : l.take (i + 1) = l.take i ++ [x] := by rw [List.take_succ_eq_append_getElem hi]; congr 1; rw [List.getElem?_eq_getElem hi] at hx; simpa using hx
            cases hb : closedF x with
            | true =>
              have hn : closedFs (l.take (i + 1)) = true := by
                rw [closedFs_iff] at q2 ⊢
                intro z hz
                rw [ht, List.mem_append, List.mem_singleton] at hz
                rcases hz with hz | rfl
                · exact q2 z hz
                · exact hb
              rw [hb] at d1
              clear htx hmem ht hb
              obtain ⟨kx, sx, lx⟩ := x
              simp only [nodeA] at hx' d1
              exact ⟨_, by simp only [go_sem, Nat.reduceEqDiff, hi, hL, hx', hw, d1, trim_whole, decide_true, Bool.not_true, Nat.reduceAdd, Nat.reduceLeDiff, show ((3 : Nat) = 0) = False from by decide] <;> rfl, .inl ⟨i + 1, ⟨by omega, hn⟩, by omega, rfl⟩⟩
            | false =>
              have hn : closedFs l = false := by
                cases hh : closedFs l with
                | false => rfl
                | true => rw [closedFs_iff.1 hh x hmem] at hb; cases hb
              rw [hb] at d1
              clear htx hmem ht hb
              obtain ⟨kx, sx, lx⟩ := x
              simp only [nodeA] at hx' d1
              exact ⟨_, by simp only [go_sem, Nat.reduceEqDiff, hi, hL, hx', hw, d1, decide_true, Bool.not_false, Nat.reduceAdd, Nat.reduceLeDiff, show ((3 : Nat) = 0) = False from by decide] <;> rfl, .inr ⟨_, rfl, .inr ⟨hn, _, rfl⟩⟩⟩
          · rw [List.take_of_length_le (by omega)] at q2
            exact ⟨_, by simp only [go_sem, Nat.reduceEqDiff, hi, hL, decide_false, Nat.reduceAdd, Nat.reduceLeDiff] <;> rfl, .inr ⟨_, rfl, .inl ⟨q2, _, rfl⟩⟩⟩
        rcases hq with ⟨h1, L', rfl⟩ | ⟨h1, L', rfl⟩
        · rw [h1]
          exact ⟨_, by simp only [go_sem, Nat.reduceEqDiff] <;> rfl⟩
        · rw [h1]
          exact ⟨_, by simp only [go_sem, Nat.reduceEqDiff] <;> rfl⟩
    · have h4' : (k == 4) = false := by simpa using h4
      have hh : headC k s l = true := by unfold headC; rw [if_neg h23, if_neg h4]
      rw [hh]
      simp only [go_sem, Nat.reduceEqDiff, Nat.reduceAdd, Nat.reduceLeDiff, Nat.reduceLT, h2, h3, hL, h4', Bool.true_and, Bool.and_true, Bool.not_true, Bool.not_false, Bool.false_and, show ((3 : Nat) = 0) = False from by decide]
      generalize hw : loopW _ _ _ _ _ _ = w
      obtain ⟨ou, rfl, hq⟩ : ∃ ou, w = some ou ∧ ((closedFs l = true ∧ ∃ L', ou = (.exit 1, [], L', [])) ∨ (closedFs l = false ∧ ∃ L', ou = (.ret, [(2, .bool false)], L', []))) := by
        rw [← hw]
        clear hw
        refine loop_ex (σ := Nat) (fun i => [(1, .ptr true 0 0 0 0), (5, .int .i64 i)]) (fun _ => _) (fun _ => []) (fun i => i ≤ l.length ∧ closedFs (l.take i) = true) (fun i => l.length - i) _ ?_ 0 ⟨Nat.zero_le _, rfl⟩
        rintro i ⟨q1, q2⟩
        have hw : IntKind.i64.wrap ((i : Int) + 1) = ((i + 1 : Nat) : Int) := by rw [wrap_in] <;> omega
        by_cases hi : i < l.length
        · obtain ⟨x, hx⟩ : ∃ x, l[i]? = some x := ⟨_, List.getElem?_eq_getElem hi⟩
          have hx' : (nodesA l)[i]? = some (nodeA x) := by rw [nodesA_get, hx]; rfl
          have htx := tszs_get hx
          have d1 := ih x (List.mem_of_getElem? hx) (by omega)
          have hmem := List.mem_of_getElem? hx
          have ht : l.take (i + 1) = l.take i ++ [x] := by rw [List.take_succ_eq_append_getElem hi]; congr 1; rw [List.getElem?_eq_getElem hi] at hx; simpa using hx
          cases hb : closedF x with
          | true =>
            have hn : closedFs (l.take (i + 1)) = true := by
              rw [closedFs_iff] at q2 ⊢
              intro z hz
              rw [ht, List.mem_append, List.mem_singleton] at hz
              rcases hz with hz | rfl
              · exact q2 z hz
              · exact hb
            rw [hb] at d1
            clear htx hmem ht hb
            obtain ⟨kx, sx, lx⟩ := x
            simp only [nodeA] at hx' d1
            exact ⟨_, by simp only [go_sem, Nat.reduceEqDiff, hi, hL, hx', hw, d1, trim_whole, decide_true, Bool.not_true, Nat.reduceAdd, Nat.reduceLeDiff, show ((3 : Nat) = 0) = False from by decide] <;> rfl, .inl ⟨i + 1, ⟨by omega, hn⟩, by omega, rfl⟩⟩
          | false =>
            have hn : closedFs l = false := by
              cases hh : closedFs l with
              | false => rfl
              | true => rw [closedFs_iff.1 hh x hmem] at hb; cases hb
            rw [hb] at d1
            clear htx hmem ht hb
            obtain ⟨kx, sx, lx⟩ := x
            simp only [nodeA] at hx' d1
            exact ⟨_, by simp only [go_sem, Nat.reduceEqDiff, hi, hL, hx', hw, d1, decide_true, Bool.not_false, Nat.reduceAdd, Nat.reduceLeDiff, show ((3 : Nat) = 0) = False from by decide] <;> rfl, .inr ⟨_, rfl, .inr ⟨hn, _, rfl⟩⟩⟩
        · rw [List.take_of_length_le (by omega)] at q2
          exact ⟨_, by simp only [go_sem, Nat.reduceEqDiff, hi, hL, decide_false, Nat.reduceAdd, Nat.reduceLeDiff] <;> rfl, .inr ⟨_, rfl, .inl ⟨q2, _, rfl⟩⟩⟩
      rcases hq with ⟨h1, L', rfl⟩ | ⟨h1, L', rfl⟩
      · rw [h1]
        exact ⟨_, by simp only [go_sem, Nat.reduceEqDiff] <;> rfl⟩
      · rw [h1]
        exact ⟨_, by simp only [go_sem, Nat.reduceEqDiff] <;> rfl⟩
theorem refClosed_all : ∀ (N : Nat) (n : NodeT), tsz n ≤ N → RefClosedOk n
  | 0, n, h => by have := tsz_pos n; omega
  | N + 1, .mk k s l, h => refClosed_step k s l fun x hx => refClosed_all N x (by
      rw [tsz] at h
      obtain ⟨i, hi⟩ := List.getElem?_of_mem hx
      have := tszs_get hi
      omega)
end Ev
