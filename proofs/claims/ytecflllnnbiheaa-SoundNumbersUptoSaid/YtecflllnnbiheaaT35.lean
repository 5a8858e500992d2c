/- Codes that may be. -/
import Derived.Test.YtecflllnnbiheaaT34
import Derived.Test.YtecflllnnbiheaaT29
set_option maxHeartbeats 4000000
set_option linter.unusedVariables false
set_option linter.unusedSimpArgs false
namespace Ev
open Go Go.Proofs
set_option maxRecDepth 10000
theorem block_call (c : CodeT) (hc : OkCode c) (bi : Nat) (l : List OpT) (hl : c[bi]? = some l) : ∃ x : Int, ((pileF l bi c.length 0 0 = none ∧ x = -1) ∨ (pileF l bi c.length 0 0 = some x ∧ 0 ≤ x)) ∧ ∀ L G, callA (cfg Try.prog ann) 45 [codeA c, .int .i64 bi] L G = some (.val (.int .i64 x), L, G) := by
  suffices hh : ∃ (x : Int) (G' : Hp), ((pileF l bi c.length 0 0 = none ∧ x = -1) ∨ (pileF l bi c.length 0 0 = some x ∧ 0 ≤ x)) ∧ ev Try.prog ann 45 [codeA c, .int .i64 bi] [] = some (.val (.int .i64 x), G') by
    obtain ⟨x, G', h1, h2⟩ := hh
    refine ⟨x, h1, fun L G => call_pure rfl rfl ?_ rfl (G' := G') h2⟩
    simp only [codeA, handAs, handA, pfs, refss, AV.refs, Tok.drop, Tok.refs, refs_blocks, if_true, Bool.and_self]
  simp only [codeA]
  rw [fun_some Try.func45 rfl rfl]
  have hbi : bi < c.length := (List.getElem?_eq_some_iff.1 hl).1
  have hol := hc.2 l (List.mem_of_getElem? hl)
  have hlen := hol.1
  have hcl := hc.1
  have hl' : (c.map blockA')[bi]? = some (.sl (l.map opA) .no) := by rw [List.getElem?_map, hl]; rfl
  have s2 : ((0 : Nat) < 1) = True := by decide
  simp only [go_sem, Nat.reduceEqDiff, Nat.reduceAdd, Nat.reduceLeDiff, Nat.one_ne_zero]
  generalize hw : loopW _ _ _ _ _ _ = w
  obtain ⟨ou, rfl, hq⟩ : ∃ ou, w = some ou ∧ ((∃ (n most : Int), ou = (.exit 0, [(5, .int .i64 n), (6, .int .i64 most)], [rowC c], []) ∧ 0 ≤ most ∧ pileF l bi c.length 0 0 = pileF [] bi c.length n most) ∨ (ou = (.ret, [(4, .int .i64 (-1))], [rowC c], []) ∧ pileF l bi c.length 0 0 = none)) := by
    rw [← hw]
    clear hw
    refine loop_ex (σ := Nat × Int × Int) (fun q => [(1, .int .i64 bi), (2, .ptr true 0 0 0 0), (5, .int .i64 q.2.1), (6, .int .i64 q.2.2), (7, .int .i64 q.1)]) (fun _ => [rowC c]) (fun _ => [])
      (fun q => q.1 ≤ l.length ∧ 0 ≤ q.2.1 ∧ q.2.1 ≤ q.1 ∧ 0 ≤ q.2.2 ∧ q.2.2 ≤ q.1 ∧ pileF l bi c.length 0 0 = pileF (l.drop q.1) bi c.length q.2.1 q.2.2) (fun q => l.length - q.1) _ ?_ (0, 0, 0) ⟨Nat.zero_le _, by simp, by simp, by simp, by simp, by simp⟩
    rintro ⟨i, n, most⟩ ⟨q1, q2, q3, q4, q5, q6⟩
    simp only at q1 q2 q3 q4 q5 q6
    simp only [rowC]
    have hw : IntKind.i64.wrap ((i : Int) + 1) = ((i + 1 : Nat) : Int) := by rw [wrap_in] <;> omega
    by_cases hi : i < l.length
    · obtain ⟨x, hx⟩ : ∃ x, l[i]? = some x := ⟨_, List.getElem?_eq_getElem hi⟩
      have hx' : (l.map opA)[i]? = some (opA x) := by rw [List.getElem?_map, hx]; rfl
      obtain ⟨y, hy, hcall⟩ := takes_call x bi c.length (hol.2 x (List.mem_of_getElem? hx)).2
      rw [drop_op hx, pileF] at q6
      have ht : ∀ (p q r : Int), trim 1 [(1, .int .i64 bi), (2, .ptr true 0 0 0 0), (5, .int .i64 p), (6, .int .i64 q), (7, .int .i64 r)] [Blk.row 0 [.agg [.sl (c.map blockA') .no]]] = [Blk.row 0 [.agg [.sl (c.map blockA') .no]]] := fun p q r => trim_self (L := [Blk.row 0 [.agg [.sl (c.map blockA') .no]]])
      simp only [opA, intsA] at hx' hcall
      rcases hy with ⟨htk, hneg⟩ | ⟨htk, hpos⟩
      · rw [htk] at q6
        have e1 : (y < 0) = True := eq_true hneg
        exact ⟨_, by simp only [go_sem, Nat.reduceEqDiff, hbi, hi, hl', hx', hcall, e1, refs_ints, s2, Nat.reduceAdd, Nat.reduceLeDiff] <;> rfl, .inr ⟨_, rfl, .inr ⟨rfl, q6⟩⟩⟩
      · rw [htk] at q6
        simp only at q6
        have e1 : (y < 0) = False := eq_false (by omega)
        by_cases hnk : n < y
        · rw [if_pos hnk] at q6
          exact ⟨_, by simp only [go_sem, Nat.reduceEqDiff, hbi, hi, hl', hx', hcall, e1, hnk, refs_ints, s2, Nat.reduceAdd, Nat.reduceLeDiff] <;> rfl, .inr ⟨_, rfl, .inr ⟨rfl, q6⟩⟩⟩
        · rw [if_neg hnk] at q6
          have w1 : IntKind.i64.wrap (n - y) = n - y := by rw [wrap_in] <;> omega
          have w2 : IntKind.i64.wrap (n - y + 1) = n - y + 1 := by rw [wrap_in] <;> omega
          by_cases hmx : n - y + 1 > most
          · rw [show max most (n - y + 1) = n - y + 1 by omega] at q6
            refine ⟨_, by simp only [go_sem, Nat.reduceEqDiff, hbi, hi, hl', hx', hcall, e1, hnk, hw, w1, w2, hmx, ht, refs_ints, s2, Nat.reduceAdd, Nat.reduceLeDiff] <;> rfl, ?_⟩
            exact .inl ⟨(i + 1, n - y + 1, n - y + 1), ⟨by simp only; omega, by simp only; omega, by simp only; omega, by simp only; omega, by simp only; omega, q6⟩, by simp only; omega, rfl⟩
          · rw [show max most (n - y + 1) = most by omega] at q6
            refine ⟨_, by simp only [go_sem, Nat.reduceEqDiff, hbi, hi, hl', hx', hcall, e1, hnk, hw, w1, w2, hmx, ht, refs_ints, s2, Nat.reduceAdd, Nat.reduceLeDiff] <;> rfl, ?_⟩
            exact .inl ⟨(i + 1, n - y + 1, most), ⟨by simp only; omega, by simp only; omega, by simp only; omega, by simp only; omega, by simp only; omega, q6⟩, by simp only; omega, rfl⟩
    · have e : l.drop i = [] := List.drop_eq_nil_of_le (by omega)
      rw [e] at q6
      exact ⟨_, by simp only [go_sem, Nat.reduceEqDiff, hbi, hi, hl'] <;> rfl, .inr ⟨_, rfl, .inl ⟨n, most, rfl, q4, q6⟩⟩⟩
  rcases hq with ⟨n, most, rfl, hmo, hp⟩ | ⟨rfl, hp⟩
  · rw [pileF] at hp
    by_cases h1 : n = 1
    · subst h1
      rw [if_pos rfl] at hp
      exact ⟨most, _, .inr ⟨hp, hmo⟩, by simp only [rowC, go_sem, Nat.reduceEqDiff, show ((1 : Int) != 1) = false from rfl] <;> rfl⟩
    · rw [if_neg h1] at hp
      have e1 : (n != 1) = true := by simpa using h1
      exact ⟨-1, _, .inl ⟨hp, rfl⟩, by simp only [rowC, go_sem, Nat.reduceEqDiff, e1] <;> rfl⟩
  · exact ⟨-1, _, .inl ⟨hp, rfl⟩, by simp only [rowC, go_sem, Nat.reduceEqDiff] <;> rfl⟩
theorem pile_le : ∀ (l : List OpT) (b m n most d : Int), pileF l b m n most = some d → most ≤ d ∧ (n ≤ most → 1 ≤ d)
  | [], b, m, n, most, d, h => by
    rw [pileF] at h
    split at h
    · next h1 => cases h; subst h1; exact ⟨Int.le_refl _, fun h => h⟩
    · cases h
  | o :: l, b, m, n, most, d, h => by
    rw [pileF] at h
    split at h
    · cases h
    · split at h
      · cases h
      · have := pile_le l b m _ _ d h
        omega
theorem pile_pos {l : List OpT} {b m d : Int} (h : pileF l b m 0 0 = some d) : 1 ≤ d := (pile_le l b m 0 0 d h).2 (Int.le_refl _)
/-- the most on any block's pile, from a block on -/
def depthL (m : Int) : List (List OpT) → Nat → Int → Option Int
  | [], _, most => some most
  | l :: r, i, most => match pileF l i m 0 0 with
    | none => none
    | some d => depthL m r (i + 1) (max most d)
def depthF (c : CodeT) : Option Int := if c = [] ∨ 16384 < opsF c 0 then none else depthL c.length c 0 0
theorem depthL_le : ∀ (m : Int) (r : List (List OpT)) (i : Nat) (most d : Int), depthL m r i most = some d → most ≤ d ∧ (r ≠ [] → 1 ≤ d)
  | m, [], i, most, d, h => by rw [depthL] at h; cases h; exact ⟨Int.le_refl _, fun h => absurd rfl h⟩
  | m, l :: r, i, most, d, h => by
    rw [depthL] at h
    split at h
    · cases h
    · next d' hd =>
      have h1 := depthL_le m r (i + 1) (max most d') d h
      have h2 := pile_pos hd
      exact ⟨by omega, fun _ => by omega⟩
theorem depth_pos {c : CodeT} {d : Int} (h : depthF c = some d) : 1 ≤ d := by
  unfold depthF at h
  split at h
  · cases h
  · next hc => exact (depthL_le _ _ _ _ _ h).2 fun e => hc (.inl e)
theorem drop_blk {c : CodeT} {i : Nat} {x : List OpT} (h : c[i]? = some x) : c.drop i = x :: c.drop (i + 1) := by
  obtain ⟨h1, rfl⟩ := List.getElem?_eq_some_iff.1 h
  rw [List.drop_eq_getElem_cons h1]
theorem pile_len {l : List OpT} {b m : Int} : ∀ {n most d : Int}, pileF l b m n most = some d → 0 ≤ n → d ≤ max most (n + l.length) := by
  induction l with
  | nil =>
    intro n most d h hn
    rw [pileF] at h
    split at h
    · cases h; omega
    · cases h
  | cons o l ih =>
    intro n most d h hn
    rw [pileF] at h
    split at h
    · cases h
    · next k hk =>
      have := takes_pos hk
      split at h
      · cases h
      · have := ih h (by omega)
        simp only [List.length_cons]
        omega
theorem check_call (c : CodeT) (hc : OkCode c) : ∀ L G, callA (cfg Try.prog ann) 44 [codeA c] L G = some (.val (.tup [.int .i64 ((depthF c).getD 0), .bool (depthF c).isSome]), L, G) := by
  suffices hh : ∃ G', ev Try.prog ann 44 [codeA c] [] = some (.val (.tup [.int .i64 ((depthF c).getD 0), .bool (depthF c).isSome]), G') by
    obtain ⟨G', h2⟩ := hh
    refine fun L G => call_pure rfl rfl ?_ rfl (G' := G') h2
    simp only [codeA, handAs, handA, pfs, refss, AV.refs, Tok.drop, Tok.refs, refs_blocks, if_true, Bool.and_self]
  have hops := fun L G => codeOps_call c hc.1 L G
  have hcl := hc.1
  simp only [codeA] at hops ⊢
  rw [fun_some Try.func44 rfl rfl]
  by_cases h0 : c = []
  · have hd : depthF c = none := by unfold depthF; rw [if_pos (.inl h0)]
    subst h0
    exact ⟨_, by simp only [go_sem, Nat.reduceEqDiff, hops, hd, Int.natCast_zero, Nat.reduceAdd, Nat.reduceLeDiff, Nat.one_ne_zero] <;> rfl⟩
  have e0 : ((c.length : Int) == 0) = false := by have := List.length_pos_iff.2 h0; simp; omega
  by_cases h1 : 16384 < opsF c 0
  · have hd : depthF c = none := by unfold depthF; rw [if_pos (.inr h1)]
    exact ⟨_, by simp only [go_sem, Nat.reduceEqDiff, hops, hd, e0, h1, Nat.reduceAdd, Nat.reduceLeDiff, Nat.one_ne_zero] <;> rfl⟩
  have hd : depthF c = depthL c.length c 0 0 := by unfold depthF; rw [if_neg (by simp [h0, h1])]
  rw [hd]
  simp only [go_sem, Nat.reduceEqDiff, hops, e0, h1, Nat.reduceAdd, Nat.reduceLeDiff, Nat.one_ne_zero]
  generalize hw : loopW _ _ _ _ _ _ = w
  obtain ⟨ou, rfl, hq⟩ : ∃ ou, w = some ou ∧ ((∃ (most : Int), ou = (.exit 0, [(4, .int .i64 most)], [rowC c], []) ∧ depthL c.length c 0 0 = some most) ∨ (ou = (.ret, [(2, .int .i64 0), (3, .bool false)], [rowC c], []) ∧ depthL c.length c 0 0 = none)) := by
    rw [← hw]
    clear hw
    refine loop_ex (σ := Nat × Int) (fun q => [(1, .ptr true 0 0 0 0), (4, .int .i64 q.2), (19, .sl (c.map blockA') .no), (20, .int .i64 c.length), (21, .int .i64 q.1)]) (fun _ => [rowC c]) (fun _ => [])
      (fun q => q.1 ≤ c.length ∧ depthL c.length c 0 0 = depthL c.length (c.drop q.1) q.1 q.2) (fun q => c.length - q.1) _ ?_ (0, 0) ⟨Nat.zero_le _, by simp⟩
    rintro ⟨i, most⟩ ⟨q1, q2⟩
    simp only at q1 q2
    simp only [rowC]
    have hw : IntKind.i64.wrap ((i : Int) + 1) = ((i + 1 : Nat) : Int) := by rw [wrap_in] <;> omega
    by_cases hi : i < c.length
    · obtain ⟨x, hx⟩ : ∃ x, c[i]? = some x := ⟨_, List.getElem?_eq_getElem hi⟩
      have hx' : (c.map blockA')[i]? = some (.sl (x.map opA) .no) := by rw [List.getElem?_map, hx]; rfl
      obtain ⟨y, ok, hy, hcall⟩ := run_call x i c.length (hc.2 x (List.mem_of_getElem? hx))
      rw [drop_blk hx, depthL] at q2
      have ht : ∀ (p r : Int), trim 1 [(1, .ptr true 0 0 0 0), (4, .int .i64 p), (19, .sl (c.map blockA') .no), (20, .int .i64 c.length), (21, .int .i64 r)] [Blk.row 0 [.agg [.sl (c.map blockA') .no]]] = [Blk.row 0 [.agg [.sl (c.map blockA') .no]]] := fun p r => trim_self (L := [Blk.row 0 [.agg [.sl (c.map blockA') .no]]])
      cases hpf : pileF x i c.length 0 0 with
      | none =>
        rw [hpf] at hy q2
        simp only [OpRes] at hy
        subst hy
        exact ⟨_, by simp only [go_sem, Nat.reduceEqDiff, hi, hx', hcall, refs_ops, Nat.reduceAdd, Nat.reduceLeDiff] <;> rfl, .inr ⟨_, rfl, .inr ⟨rfl, q2⟩⟩⟩
      | some k =>
        rw [hpf] at hy q2
        simp only [OpRes] at hy
        obtain ⟨rfl, rfl⟩ := hy
        simp only at q2
        by_cases hmx : y > most
        · rw [show max most y = y by omega] at q2
          refine ⟨_, by simp only [go_sem, Nat.reduceEqDiff, hi, hx', hcall, hmx, hw, ht, refs_ops, Nat.reduceAdd, Nat.reduceLeDiff] <;> rfl, ?_⟩
          exact .inl ⟨(i + 1, y), ⟨by simp only; omega, q2⟩, by simp only; omega, rfl⟩
        · rw [show max most y = most by omega] at q2
          refine ⟨_, by simp only [go_sem, Nat.reduceEqDiff, hi, hx', hcall, hmx, hw, ht, refs_ops, Nat.reduceAdd, Nat.reduceLeDiff] <;> rfl, ?_⟩
          exact .inl ⟨(i + 1, most), ⟨by simp only; omega, q2⟩, by simp only; omega, rfl⟩
    · have e : c.drop i = [] := List.drop_eq_nil_of_le (by omega)
      rw [e, depthL] at q2
      exact ⟨_, by simp only [go_sem, Nat.reduceEqDiff, hi] <;> rfl, .inr ⟨_, rfl, .inl ⟨most, rfl, q2⟩⟩⟩
  rcases hq with ⟨most, rfl, hp⟩ | ⟨rfl, hp⟩
  · exact ⟨_, by simp only [rowC, go_sem, Nat.reduceEqDiff, hp, Option.getD_some, Option.isSome_some] <;> rfl⟩
  · exact ⟨_, by simp only [rowC, go_sem, Nat.reduceEqDiff, hp, Option.getD_none, Option.isSome_none] <;> rfl⟩
end Ev
