/- Codes: the document's way. -/
import Derived.Test.YtecflllnnbiheaaT13
set_option maxHeartbeats 4000000
set_option linter.unusedVariables false
set_option linter.unusedSimpArgs false
namespace Ev
open Go Go.Proofs
set_option maxRecDepth 10000
def rowC (a : CodeT) : Blk := .row 0 [.agg [.sl (a.map blockA') .no]]
theorem refSame_call (a b : CodeT) (ha : OkCode a) (L G : Hp) : callA (cfg Try.prog ann) 12 [codeA a, codeA b] L G = some (.val (.bool (decide (a = b))), L, G) := by
  suffices h : ∃ G', ev Try.prog ann 12 [codeA a, codeA b] [] = some (.val (.bool (decide (a = b))), G') by
    obtain ⟨G', h⟩ := h
    refine call_pure rfl rfl ?_ rfl h
    simp only [codeA, handAs, handA, pfs, refss, AV.refs, Tok.drop, Tok.refs, refs_blocks, if_true, Bool.and_self]
  simp only [codeA]
  rw [fun_some Try.func12 rfl rfl]
  have hl := ha.1
  have s2 : ((0 : Nat) < 2) = True := by decide
  have s3 : ((1 : Nat) < 2) = True := by decide
  by_cases hlen : a.length = b.length
  · have e4 : ((a.length : Int) != (b.length : Int)) = false := by simp [hlen]
    simp only [go_sem, ↓reduceIte, Nat.reduceEqDiff, e4, Nat.reduceAdd, Nat.reduceLeDiff]
    generalize hw : loopW _ _ _ _ _ _ = w
    obtain ⟨o, rfl, hq⟩ : ∃ o, w = some o ∧ ∃ L', (decide (a = b) = true ∧ o = (.exit 0, [], L', [])) ∨ (decide (a = b) = false ∧ o = (.ret, [(4, .bool false)], L', [])) := by
      rw [← hw]
      refine loop_ex (σ := Nat) (fun i => [(2, .ptr true 0 0 0 0), (3, .ptr true 1 0 0 0), (5, .int .i64 i)]) (fun _ => [rowC a, rowC b]) (fun _ => []) (fun i => i ≤ a.length ∧ decide (a = b) = decide (a.drop i = b.drop i)) (fun i => a.length - i) _ ?_ 0 ⟨Nat.zero_le _, by simp⟩
      clear hw
      rintro i ⟨hi, hd⟩
      simp only [rowC]
      have ht : ∀ (j : Int), trim 2 [(2, .ptr true 0 0 0 0), (3, .ptr true 1 0 0 0), (5, .int .i64 j)] [.row 0 [.agg [.sl (a.map blockA') .no]], .row 0 [.agg [.sl (b.map blockA') .no]]] = [.row 0 [.agg [.sl (a.map blockA') .no]], .row 0 [.agg [.sl (b.map blockA') .no]]] := fun j => rfl
      by_cases h : i < a.length
      · obtain ⟨x, hx⟩ : ∃ x, a[i]? = some x := ⟨_, List.getElem?_eq_getElem h⟩
        obtain ⟨y, hy⟩ : ∃ y, b[i]? = some y := ⟨_, List.getElem?_eq_getElem (by omega)⟩
        have hx' : (a.map blockA')[i]? = some (.sl (x.map opA) .no) := by rw [List.getElem?_map, hx]; rfl
        have hy' : (b.map blockA')[i]? = some (.sl (y.map opA) .no) := by rw [List.getElem?_map, hy]; rfl
        have hw : IntKind.i64.wrap ((i : Int) + 1) = ((i + 1 : Nat) : Int) := by rw [wrap_in] <;> omega
        have hox := ha.2 x (List.mem_of_getElem? hx)
        have hxl := hox.1
        rw [drop_eq hx hy] at hd
        by_cases hlx : x.length = y.length
        · have e0 : ((x.length : Int) != (y.length : Int)) = false := by simp [hlx]
          refine ⟨_, by simp only [go_sem, Nat.reduceEqDiff, h, hx', hy', hw, e0, s2, s3, Nat.reduceAdd, Nat.reduceLeDiff] <;> rfl, ?_⟩
          generalize hw2 : loopW _ _ _ [(2, AV.ptr true 0 0 0 0), (3, AV.ptr true 1 0 0 0), (5, AV.int IntKind.i64 (i : Int)), (6, _)] _ _ = w
          obtain ⟨o, rfl, hq⟩ : ∃ o, w = some o ∧ ((decide (x = y) = true ∧ o = (.exit 2, [(2, .ptr true 0 0 0 0), (3, .ptr true 1 0 0 0), (5, .int .i64 i)], [rowC a, rowC b], [])) ∨ (decide (x = y) = false ∧ o = (.ret, [(4, .bool false)], [rowC a, rowC b], []))) := by
            rw [← hw2]
            refine loop_ex (σ := Nat) (fun k => [(2, .ptr true 0 0 0 0), (3, .ptr true 1 0 0 0), (5, .int .i64 i), (6, .int .i64 k)]) (fun _ => [rowC a, rowC b]) (fun _ => []) (fun k => k ≤ x.length ∧ decide (x = y) = decide (x.drop k = y.drop k)) (fun k => x.length - k) _ ?_ 0 ⟨Nat.zero_le _, by simp⟩
            clear hw2
            rintro k ⟨hk, hdk⟩
            simp only [rowC]
            have ht : ∀ (m j : Int), trim 2 [(2, .ptr true 0 0 0 0), (3, .ptr true 1 0 0 0), (5, .int .i64 m), (6, .int .i64 j)] [.row 0 [.agg [.sl (a.map blockA') .no]], .row 0 [.agg [.sl (b.map blockA') .no]]] = [.row 0 [.agg [.sl (a.map blockA') .no]], .row 0 [.agg [.sl (b.map blockA') .no]]] := fun m j => rfl
            by_cases hkx : k < x.length
            · obtain ⟨p, hp⟩ : ∃ p, x[k]? = some p := ⟨_, List.getElem?_eq_getElem hkx⟩
              obtain ⟨q, hq⟩ : ∃ q, y[k]? = some q := ⟨_, List.getElem?_eq_getElem (by omega)⟩
              have hp' : (x.map opA)[k]? = some (opA p) := by rw [List.getElem?_map, hp]; rfl
              have hq' : (y.map opA)[k]? = some (opA q) := by rw [List.getElem?_map, hq]; rfl
              have hc := fun L G => sameOp_call p q (hox.2 p (List.mem_of_getElem? hp)).2 L G
              have hw : IntKind.i64.wrap ((k : Int) + 1) = ((k + 1 : Nat) : Int) := by rw [wrap_in] <;> omega
              rw [drop_eq hp hq] at hdk
              simp only [opA, intsA] at hp' hq' hc
              by_cases hpq : p = q
              · subst hpq
                refine ⟨_, by simp only [go_sem, Nat.reduceEqDiff, h, hkx, hx', hy', hp', hq', hc, hw, s2, s3, ht, refs_ints, Nat.reduceAdd, Nat.reduceLeDiff] <;> rfl, .inl ⟨k + 1, ⟨by omega, by simpa using hdk⟩, by omega, rfl⟩⟩
              · refine ⟨_, by simp only [go_sem, Nat.reduceEqDiff, h, hkx, hx', hy', hp', hq', hc, hw, s2, s3, hpq, refs_ints, Nat.reduceAdd, Nat.reduceLeDiff] <;> rfl, .inr ⟨_, rfl, .inr ⟨by simpa [hpq] using hdk, rfl⟩⟩⟩
            · rw [drop_end hlx hkx] at hdk
              refine ⟨_, by simp only [go_sem, Nat.reduceEqDiff, h, hkx, hx', hy', s2, s3, Nat.reduceAdd, Nat.reduceLeDiff] <;> rfl, .inr ⟨_, rfl, .inl ⟨hdk, rfl⟩⟩⟩
          rcases hq with ⟨hxy, rfl⟩ | ⟨hxy, rfl⟩
          · have hxy' : x = y := by simpa using hxy
            subst hxy'
            left
            refine ⟨i + 1, ⟨by omega, by simpa using hd⟩, by omega, ?_⟩
            simp only [go_sem, Nat.reduceEqDiff, hw, ht, rowC] <;> rfl
          · right
            exact ⟨(.ret, [(4, .bool false)], [rowC a, rowC b], []), by simp only [go_sem, Nat.reduceEqDiff], _, .inr ⟨by rw [hxy] at hd; simpa using hd, rfl⟩⟩
        · have e0 : ((x.length : Int) != (y.length : Int)) = true := by simp; omega
          have e1 := ne_len hlx
          rw [e1] at hd
          refine ⟨_, by simp only [go_sem, Nat.reduceEqDiff, h, hx', hy', hw, e0, s2, s3, Nat.reduceAdd, Nat.reduceLeDiff] <;> rfl, .inr ⟨_, rfl, _, .inr ⟨by simpa using hd, rfl⟩⟩⟩
      · rw [drop_end hlen h] at hd
        refine ⟨_, by simp only [go_sem, Nat.reduceEqDiff, h] <;> rfl, .inr ⟨_, rfl, _, .inl ⟨hd, rfl⟩⟩⟩
    rcases hq with ⟨L', ⟨hd, rfl⟩ | ⟨hd, rfl⟩⟩
    · exact ⟨_, by simp only [go_sem, Nat.reduceEqDiff, hd] <;> rfl⟩
    · exact ⟨_, by simp only [go_sem, Nat.reduceEqDiff, hd] <;> rfl⟩
  · have e4 : ((a.length : Int) != (b.length : Int)) = true := by simp; omega
    exact ⟨_, by simp only [go_sem, ↓reduceIte, Nat.reduceEqDiff, e4, ne_len hlen, Nat.reduceAdd, Nat.reduceLeDiff] <;> rfl⟩
/-- how many instructions -/
def opsF : CodeT → Int → Int
  | [], n => n
  | b :: c, n => opsF c (IntKind.i64.wrap (n + (b.length : Int)))
theorem codeOps_call (a : CodeT) (ha : a.length < 2 ^ 40) (L G : Hp) : callA (cfg Try.prog ann) 13 [codeA a] L G = some (.val (.int .i64 (opsF a 0)), L, G) := by
  suffices h : ev Try.prog ann 13 [codeA a] [] = some (.val (.int .i64 (opsF a 0)), []) by
    refine call_pure rfl rfl ?_ rfl h
    simp only [codeA, handAs, handA, pfs, refss, AV.refs, Tok.drop, Tok.refs, refs_blocks, if_true, Bool.and_self]
  simp only [codeA]
  rw [fun_some Try.func13 rfl rfl]
  simp only [go_sem, ↓reduceIte, Nat.reduceEqDiff, Nat.reduceAdd, Nat.reduceLeDiff, Nat.one_ne_zero]
  erw [loop_res (σ := Nat × Int) (fun q => [(3, .int .i64 q.2), (7, .sl (a.map blockA') .no), (8, .int .i64 a.length), (9, .int .i64 q.1)]) (fun _ => [rowC a]) (fun _ => []) (fun q => q.1 ≤ a.length) (fun q => a.length - q.1)
    (fun q => some (.exit 0, [(3, .int .i64 (opsF (a.drop q.1) q.2))], [rowC a], [])) ?_ (0, 0) (Nat.zero_le _)]
  · simp only [go_sem, ↓reduceIte, Nat.reduceEqDiff, List.drop_zero]
  · rintro ⟨i, n⟩ hi
    simp only at hi
    by_cases h : i < a.length
    · obtain ⟨x, hx⟩ : ∃ x, a[i]? = some x := ⟨_, List.getElem?_eq_getElem h⟩
      have hx' : (a.map blockA')[i]? = some (.sl (x.map opA) .no) := by rw [List.getElem?_map, hx]; rfl
      have hw : IntKind.i64.wrap ((i : Int) + 1) = ((i + 1 : Nat) : Int) := by rw [wrap_in] <;> omega
      have hdr : a.drop i = x :: a.drop (i + 1) := by
        obtain ⟨h1, rfl⟩ := List.getElem?_eq_some_iff.1 hx
        rw [List.drop_eq_getElem_cons h1]
      have ht : ∀ (e : Env), bels 1 (valsE e) = true → trim 1 e [Blk.row 0 [.agg [.sl (a.map blockA') .no]]] = [Blk.row 0 [.agg [.sl (a.map blockA') .no]]] := fun e _ => rfl
      simp only [rowC]
      refine ⟨_, by simp only [go_sem, Nat.reduceEqDiff, h, hx', hw, Nat.reduceAdd, Nat.reduceLeDiff] <;> rfl, .inl ⟨(i + 1, IntKind.i64.wrap (n + (x.length : Int))), by simp only; omega, by simp only; omega, by simp only [hdr, opsF], rfl⟩⟩
    · simp only [rowC]
      have hdr : a.drop i = [] := List.drop_eq_nil_of_le (by omega)
      refine ⟨_, by simp only [go_sem, Nat.reduceEqDiff, h] <;> rfl, .inr (by simp only [hdr, opsF])⟩
theorem refOps_call (a : CodeT) (ha : a.length < 2 ^ 40) (L G : Hp) : callA (cfg Try.prog ann) 14 [codeA a] L G = some (.val (.int .i64 (opsF a 0)), L, G) := by
  suffices h : ev Try.prog ann 14 [codeA a] [] = some (.val (.int .i64 (opsF a 0)), []) by
    refine call_pure rfl rfl ?_ rfl h
    simp only [codeA, handAs, handA, pfs, refss, AV.refs, Tok.drop, Tok.refs, refs_blocks, if_true, Bool.and_self]
  simp only [codeA]
  rw [fun_some Try.func14 rfl rfl]
  simp only [go_sem, ↓reduceIte, Nat.reduceEqDiff, Nat.reduceAdd, Nat.reduceLeDiff, Nat.one_ne_zero]
  erw [loop_res (σ := Nat × Int) (fun q => [(1, .ptr true 0 0 0 0), (3, .int .i64 q.2), (4, .int .i64 q.1)]) (fun _ => [rowC a]) (fun _ => []) (fun q => q.1 ≤ a.length) (fun q => a.length - q.1)
    (fun q => some (.exit 0, [(3, .int .i64 (opsF (a.drop q.1) q.2))], [rowC a], [])) ?_ (0, 0) (Nat.zero_le _)]
  · simp only [go_sem, ↓reduceIte, Nat.reduceEqDiff, List.drop_zero]
  · rintro ⟨i, n⟩ hi
    simp only at hi
    by_cases h : i < a.length
    · obtain ⟨x, hx⟩ : ∃ x, a[i]? = some x := ⟨_, List.getElem?_eq_getElem h⟩
      have hx' : (a.map blockA')[i]? = some (.sl (x.map opA) .no) := by rw [List.getElem?_map, hx]; rfl
      have hw : IntKind.i64.wrap ((i : Int) + 1) = ((i + 1 : Nat) : Int) := by rw [wrap_in] <;> omega
      have hdr : a.drop i = x :: a.drop (i + 1) := by
        obtain ⟨h1, rfl⟩ := List.getElem?_eq_some_iff.1 hx
        rw [List.drop_eq_getElem_cons h1]
      have ht : ∀ (e : Env), bels 1 (valsE e) = true → trim 1 e [Blk.row 0 [.agg [.sl (a.map blockA') .no]]] = [Blk.row 0 [.agg [.sl (a.map blockA') .no]]] := fun e _ => rfl
      simp only [rowC]
      refine ⟨_, by simp only [go_sem, Nat.reduceEqDiff, h, hx', hw, Nat.reduceAdd, Nat.reduceLeDiff] <;> rfl, .inl ⟨(i + 1, IntKind.i64.wrap (n + (x.length : Int))), by simp only; omega, by simp only; omega, by simp only [hdr, opsF], rfl⟩⟩
    · simp only [rowC]
      have hdr : a.drop i = [] := List.drop_eq_nil_of_le (by omega)
      refine ⟨_, by simp only [go_sem, Nat.reduceEqDiff, h] <;> rfl, .inr (by simp only [hdr, opsF])⟩
/-- some truth -/
theorem few_call (a : CodeT) (ha : OkCode a) : ∃ t : Bool, ∀ L G, callA (cfg Try.prog ann) 6 [codeA a] L G = some (.val (.bool t), L, G) := by
  suffices h : ∃ t G', ev Try.prog ann 6 [codeA a] [] = some (.val (.bool t), G') by
    obtain ⟨t, G', h⟩ := h
    refine ⟨t, fun L G => call_pure rfl rfl ?_ rfl h⟩
    simp only [codeA, handAs, handA, pfs, refss, AV.refs, Tok.drop, Tok.refs, refs_blocks, if_true, Bool.and_self]
  simp only [codeA]
  rw [fun_some Try.func6 rfl rfl]
  simp only [go_sem, ↓reduceIte, Nat.reduceEqDiff, Nat.reduceAdd, Nat.reduceLeDiff, Nat.one_ne_zero]
  generalize hw : loopW _ _ _ _ _ _ = w
  obtain ⟨o, rfl, hq⟩ : ∃ o, w = some o ∧ ((∃ n, o = (.exit 0, [(1, .ptr true 0 0 0 0), (3, .int .i64 n)], [rowC a], [])) ∨ ∃ t, o = (.ret, [(2, .bool t)], [rowC a], [])) := by
    rw [← hw]
    clear hw
    refine loop_ex (σ := Nat × Int) (fun q => [(1, .ptr true 0 0 0 0), (3, .int .i64 q.2), (4, .int .i64 q.1)]) (fun _ => [rowC a]) (fun _ => []) (fun q => q.1 ≤ a.length) (fun q => a.length - q.1) _ ?_ (0, 0) (Nat.zero_le _)
    rintro ⟨i, n⟩ hi
    simp only at hi
    have hl := ha.1
    by_cases h : i < a.length
    · by_cases h30 : (i : Int) < 30
      · obtain ⟨x, hx⟩ : ∃ x, a[i]? = some x := ⟨_, List.getElem?_eq_getElem h⟩
        have hox := (ha.2 x (List.mem_of_getElem? hx))
        have hxl := hox.1
        have hx' : (a.map blockA')[i]? = some (.sl (x.map opA) .no) := by rw [List.getElem?_map, hx]; rfl
        have hw : IntKind.i64.wrap ((i : Int) + 1) = ((i + 1 : Nat) : Int) := by rw [wrap_in] <;> omega
        refine ⟨_, by simp only [rowC, go_sem, Nat.reduceEqDiff, h, h30, hx', hw, Nat.reduceAdd, Nat.reduceLeDiff] <;> rfl, ?_⟩
        generalize hw2 : loopW _ _ _ [(1, AV.ptr true 0 0 0 0), (3, _), (4, AV.int IntKind.i64 (i : Int)), (5, _)] _ _ = w
        obtain ⟨o, rfl, hq⟩ : ∃ o, w = some o ∧ ((∃ n, o = (.exit 2, [(1, .ptr true 0 0 0 0), (3, .int .i64 n), (4, .int .i64 i)], [rowC a], [])) ∨ ∃ t, o = (.ret, [(2, .bool t)], [rowC a], [])) := by
          rw [← hw2]
          clear hw2
          refine loop_ex (σ := Nat) (fun k => [(1, .ptr true 0 0 0 0), (3, .int .i64 (IntKind.i64.wrap (n + (x.length : Int)))), (4, .int .i64 i), (5, .int .i64 k)]) (fun _ => [rowC a]) (fun _ => []) (fun k => k ≤ x.length) (fun k => x.length - k) _ ?_ 0 (Nat.zero_le _)
          intro k hk
          by_cases hkx : k < x.length
          · by_cases h60 : (k : Int) < 60
            · obtain ⟨p, hp⟩ : ∃ p, x[k]? = some p := ⟨_, List.getElem?_eq_getElem hkx⟩
              have hp' : (x.map opA)[k]? = some (opA p) := by rw [List.getElem?_map, hp]; rfl
              have hw3 : IntKind.i64.wrap ((k : Int) + 1) = ((k + 1 : Nat) : Int) := by rw [wrap_in] <;> omega
              simp only [opA, intsA] at hp'
              by_cases c1 : 8 < (p.blocks.length : Int)
              · refine ⟨_, by simp only [rowC, go_sem, Nat.reduceEqDiff, h, hkx, h60, hx', hp', c1, hw3, Nat.reduceAdd, Nat.reduceLeDiff] <;> rfl, .inr ⟨_, rfl, .inr ⟨_, rfl⟩⟩⟩
              · by_cases c2 : 300 < (p.s.length : Int)
                · refine ⟨_, by simp only [rowC, go_sem, Nat.reduceEqDiff, h, hkx, h60, hx', hp', c1, c2, hw3, Nat.reduceAdd, Nat.reduceLeDiff] <;> rfl, .inr ⟨_, rfl, .inr ⟨_, rfl⟩⟩⟩
                · refine ⟨_, by simp only [rowC, go_sem, Nat.reduceEqDiff, h, hkx, h60, hx', hp', c1, c2, hw3, Nat.reduceAdd, Nat.reduceLeDiff] <;> rfl, .inl ⟨k + 1, by omega, by omega, rfl⟩⟩
            · refine ⟨_, by simp only [rowC, go_sem, Nat.reduceEqDiff, h, hkx, h60, hx', Nat.reduceAdd, Nat.reduceLeDiff] <;> rfl, .inr ⟨_, rfl, .inl ⟨_, rfl⟩⟩⟩
          · refine ⟨_, by simp only [rowC, go_sem, Nat.reduceEqDiff, h, hkx, hx', Nat.reduceAdd, Nat.reduceLeDiff] <;> rfl, .inr ⟨_, rfl, .inl ⟨_, rfl⟩⟩⟩
        rcases hq with ⟨m, rfl⟩ | ⟨t, rfl⟩
        · left
          refine ⟨(i + 1, m), by simp only; omega, by simp only; omega, ?_⟩
          simp only [go_sem, Nat.reduceEqDiff, hw, rowC] <;> rfl
        · right
          exact ⟨(.ret, [(2, .bool t)], [rowC a], []), by simp only [go_sem, Nat.reduceEqDiff], .inr ⟨t, rfl⟩⟩
      · refine ⟨_, by simp only [rowC, go_sem, Nat.reduceEqDiff, h, h30] <;> rfl, .inr ⟨_, rfl, .inl ⟨_, rfl⟩⟩⟩
    · refine ⟨_, by simp only [rowC, go_sem, Nat.reduceEqDiff, h] <;> rfl, .inr ⟨_, rfl, .inl ⟨_, rfl⟩⟩⟩
  rcases hq with ⟨n, rfl⟩ | ⟨t, rfl⟩
  · by_cases c1 : (a.length : Int) ≤ 30
    · exact ⟨_, _, by simp only [rowC, go_sem, Nat.reduceEqDiff, c1, Nat.reduceAdd, Nat.reduceLeDiff] <;> rfl⟩
    · exact ⟨_, _, by simp only [rowC, go_sem, Nat.reduceEqDiff, c1, Nat.reduceAdd, Nat.reduceLeDiff] <;> rfl⟩
  · exact ⟨_, _, by simp only [rowC, go_sem, Nat.reduceEqDiff] <;> rfl⟩
end Ev
