/- Compile, the program's way. -/
import Derived.Test.YtecflllnnbiheaaT26
set_option maxHeartbeats 4000000
set_option linter.unusedVariables false
set_option linter.unusedSimpArgs false
namespace Ev
open Go Go.Proofs
set_option maxRecDepth 10000
theorem tab_lazy (s : List UInt8) : ((tabF s).2 = false ∧ lazyB s = false) ∨ ((tabF s).2 = true ∧ (tabF s).1.2.2.1 = lazyB s) := by
  unfold lazyB
  rw [find_tab]
  unfold tabF
  cases lookT tableT s with
  | none => exact .inl ⟨rfl, rfl⟩
  | some x => exact .inr ⟨rfl, rfl⟩
theorem write_of {n : NodeT} (h : ∀ (G : Hp) (B : CodeT), StC G B → B.length + tsz n ≤ 2 ^ 30 → ∃ (t : Tok) (G' : Hp), (t = .no ∨ t = .full) ∧ StC G' (comp n B).2 ∧
    ev Try.prog ann 41 [nodeA n, .ptr false 3 0 0 0, .ptr false 4 0 0 0] G = some (.val (.sl ((comp n B).1.map opA) t), G')) : WriteOk n := by
  intro G B hG hb
  obtain ⟨t, G', h1, h2, h3⟩ := h G B hG hb
  refine ⟨t, G', h1, fun L => call_sees rfl rfl ?_ ?_ ?_, h2⟩
  · cases n
    simp only [nodeA, handAs, handA, noLs, refss, AV.refs, Tok.refs, Tok.drop, Bool.false_eq_true, if_false, refs_nodes, Bool.and_self, Bool.not_false]
  · rcases h1 with rfl | rfl <;> simp only [AV.noL, AV.refs, Tok.refs, refs_ops, Bool.and_self]
  · cases n
    simp only [nodeA, handAs, handA, Tok.drop, Bool.false_eq_true, if_false]
    simp only [nodeA] at h3
    exact h3
theorem write_text (s : List UInt8) (l : List NodeT) : WriteOk (.mk 1 s l) := by
  refine write_of fun G B hG hb => ⟨.full, G, .inr rfl, ?_, ?_⟩
  · rw [comp, if_pos rfl]; exact hG
  rw [comp, if_pos rfl, fun_some Try.func41 rfl rfl]
  simp only [nodeA, List.map_cons, List.map_nil, opA, intsA]
  simp only [go_sem, Nat.reduceEqDiff, Int.reduceBEq, Nat.reduceAdd, Nat.reduceLeDiff, Nat.reduceMul, Nat.reducePow, show ((0 : Nat) < 1) = True from by decide]
theorem write_more {k : Int} {s : List UInt8} {l : List NodeT} (ih : ∀ x ∈ l, WriteOk x) (h1 : k ≠ 1) : WriteOk (.mk k s l) := by
  refine write_of fun G B hG hb => ?_
  have hb0 := hb
  rw [tsz] at hb
  have hL := nodesA_len l
  have e1 : (k == 1) = false := by simpa using h1
  by_cases hlz : k = 4 ∧ lazyB s = true
  · obtain ⟨rfl, hz⟩ := hlz
    obtain ⟨G', c1, c2⟩ := lazy_ok 4 s l ih G B hG hb0
    have hc : comp (.mk 4 s l) B = ([⟨6, 0, s, numsL B.length l.length⟩], compL l B.length (B ++ List.replicate l.length [])) := by rw [comp, if_neg (by decide), if_pos ⟨rfl, hz⟩]; rfl
    rw [hc]
    refine ⟨.full, G', .inr rfl, c2, ?_⟩
    rw [fun_some Try.func41 rfl rfl]
    have hf := fun L G => tabFind_call s L G
    obtain ⟨t1, t2⟩ : (tabF s).2 = true ∧ (tabF s).1.2.2.1 = true := by
      rcases tab_lazy s with ⟨_, h⟩ | ⟨h, h'⟩
      · rw [hz] at h; cases h
      · exact ⟨h, h'.trans hz⟩
    obtain ⟨g, rows, ag, rfl, hR, hne⟩ := hG
    simp only [stC, infA, t1, t2] at hf c1
    simp only [nodeA, opA, intsA] at c1 ⊢
    simp only [stC, List.map_cons, List.map_nil]
    simp only [opA, intsA, go_sem, Nat.reduceEqDiff, e1, Int.reduceBEq, hf, c1, Nat.reduceAdd, Nat.reduceLeDiff, Nat.reduceMul, Nat.reducePow, show ((0 : Nat) < 1) = True from by decide, show ((3 : Nat) = 0) = False from by decide, show ((4 : Nat) = 0) = False from by decide]
  · have hc : comp (.mk k s l) B = ((comps l B).1 ++ [lastOp k s l.length], (comps l B).2) := by rw [comp, if_neg h1, if_neg hlz]
    rw [hc]
    have key : ∀ k' n' s', lastOp k s l.length = ⟨k', n', s', []⟩ → ∃ G', (∀ L, callA (cfg Try.prog ann) 39 [.sl (nodesA l) .no, .agg [.int .i64 k', .int .i64 n', .str s', .sl [] .full], .ptr false 2 0 0 0] L G = some (.val (.sl (((comps l B).1 ++ [lastOp k s l.length]).map opA) .no), L, G')) ∧ StC G' (comps l B).2 := fun k' n' s' h => by
      rw [h]; exact all_ok l ih k' n' s' G B hG (by omega)
    by_cases k2 : k = 2
    · subst k2
      obtain ⟨G', c1, c2⟩ := key 2 0 [] rfl
      refine ⟨.no, G', .inl rfl, c2, ?_⟩
      rw [fun_some Try.func41 rfl rfl]
      obtain ⟨g, rows, ag, rfl, hR, hne⟩ := hG
      simp only [stC] at c1
      simp only [nodeA, stC]
      simp only [go_sem, Nat.reduceEqDiff, e1, Int.reduceBEq, c1, hL, Nat.reduceAdd, Nat.reduceLeDiff, Nat.reduceMul, Nat.reducePow]
    by_cases k3 : k = 3
    · subst k3
      obtain ⟨G', c1, c2⟩ := key 3 0 [] rfl
      refine ⟨.no, G', .inl rfl, c2, ?_⟩
      rw [fun_some Try.func41 rfl rfl]
      obtain ⟨g, rows, ag, rfl, hR, hne⟩ := hG
      simp only [stC] at c1
      simp only [nodeA, stC]
      simp only [go_sem, Nat.reduceEqDiff, e1, Int.reduceBEq, c1, hL, Nat.reduceAdd, Nat.reduceLeDiff, Nat.reduceMul, Nat.reducePow]
    by_cases k4 : k = 4
    · subst k4
      obtain ⟨G', c1, c2⟩ := key 5 l.length s rfl
      refine ⟨.no, G', .inl rfl, c2, ?_⟩
      rw [fun_some Try.func41 rfl rfl]
      have hf := fun L G => tabFind_call s L G
      have hz : lazyB s = false := by
        cases h : lazyB s with
        | true => exact absurd ⟨rfl, h⟩ hlz
        | false => rfl
      obtain ⟨g, rows, ag, rfl, hR, hne⟩ := hG
      simp only [stC] at c1
      simp only [nodeA, stC]
      rcases tab_lazy s with ⟨t1, _⟩ | ⟨t1, t2⟩
      · simp only [infA, t1] at hf
        simp only [go_sem, Nat.reduceEqDiff, e1, Int.reduceBEq, hf, c1, hL, Nat.reduceAdd, Nat.reduceLeDiff, Nat.reduceMul, Nat.reducePow, show ((4 : Nat) = 0) = False from by decide]
      · rw [hz] at t2
        simp only [infA, t1, t2] at hf
        simp only [go_sem, Nat.reduceEqDiff, e1, Int.reduceBEq, hf, c1, hL, Nat.reduceAdd, Nat.reduceLeDiff, Nat.reduceMul, Nat.reducePow, show ((4 : Nat) = 0) = False from by decide]
    · obtain ⟨G', c1, c2⟩ := key 4 l.length [] (by simp [lastOp, k2, k3, k4])
      refine ⟨.no, G', .inl rfl, c2, ?_⟩
      rw [fun_some Try.func41 rfl rfl]
      have e2 : (k == 2) = false := by simpa using k2
      have e3 : (k == 3) = false := by simpa using k3
      have e4 : (k == 4) = false := by simpa using k4
      obtain ⟨g, rows, ag, rfl, hR, hne⟩ := hG
      simp only [stC] at c1
      simp only [nodeA, stC]
      simp only [go_sem, Nat.reduceEqDiff, e1, e2, e3, e4, c1, hL, Nat.reduceAdd, Nat.reduceLeDiff, Nat.reduceMul, Nat.reducePow]
theorem write_all : ∀ (N : Nat) (n : NodeT), tsz n ≤ N → WriteOk n
  | 0, n, h => by have := tsz_pos n; omega
  | N + 1, .mk k s l, h => by
    by_cases h1 : k = 1
    · subst h1; exact write_text s l
    · rw [tsz] at h
      exact write_more (fun x hx => write_all N x (by
        obtain ⟨i, hi⟩ := List.getElem?_of_mem hx
        have := tszs_get hi
        omega)) h1
/-- a node's code -/
def compile (n : NodeT) : CodeT := (comp n [[]]).2.set 0 (comp n [[]]).1
theorem hand_rows {rows : List AV} {B : CodeT} (h : RowsR rows B) : handAs true rows = B.map blockA' := List.ext_getElem? fun i => by
  have hl : ∀ (l : List AV) (i : Nat), (handAs true l)[i]? = (l[i]?).map (handA true) := fun l => by
    induction l with
    | nil => intro i; simp [handAs]
    | cons x l ih => intro i; cases i with
      | zero => simp [handAs]
      | succ i => simp [handAs, ih]
  rw [hl, List.getElem?_map]
  cases hb : B[i]? with
  | none =>
    rw [List.getElem?_eq_none_iff] at hb
    rw [List.getElem?_eq_none (by rw [h.1]; exact hb)]
    rfl
  | some b =>
    obtain ⟨t, _, ht⟩ := h.2 i b hb
    rw [ht]
    simp [handA, Tok.drop, blockA']
theorem rows_noHs {rows : List AV} {B : CodeT} (h : RowsR rows B) : ∀ v ∈ rows, hasHs v = false := fun v hv => by
  obtain ⟨i, hi⟩ := List.getElem?_of_mem hv
  obtain ⟨b, hb⟩ : ∃ b : List OpT, B[i]? = some b := ⟨_, List.getElem?_eq_getElem (by rw [← h.1]; exact (List.getElem?_eq_some_iff.1 hi).1)⟩
  obtain ⟨t, _, ht⟩ := h.2 i b hb
  rw [hi] at ht
  cases ht
  rfl
theorem codeCompile_call (n : NodeT) (hb : tsz n ≤ 2 ^ 29) (L G : Hp) : callA (cfg Try.prog ann) 15 [nodeA n] L G = some (.val (codeA (compile n)), L, G) := by
  suffices hh : ∃ G', ev Try.prog ann 15 [nodeA n] [] = some (.val (codeA (compile n)), G') by
    obtain ⟨G', h⟩ := hh
    refine call_pure rfl rfl ?_ ?_ (G' := G') ?_
    · cases n; simp only [nodeA, handAs, handA, pfs, refss, AV.refs, Tok.refs, Tok.drop, if_true, refs_nodes, Bool.and_self]
    · simp only [codeA, AV.pf, AV.refs, refss, Tok.refs, refs_blocks, Bool.and_self]
    · cases n
      simp only [nodeA, handAs, handA, Tok.drop, if_true] at h ⊢
      exact h
  obtain ⟨t, G', ht, c1, g, rows, ag, rfl, hR, hne⟩ := write_all _ n (Nat.le_refl _) (stC 0 [.sl [] .full] true) [[]] ⟨_, _, _, rfl, ⟨rfl, fun i b hb => by
    cases i with
    | zero => simp at hb; subst hb; exact ⟨.full, .inr rfl, rfl⟩
    | succ i => simp at hb⟩, by simp⟩ (by simp; omega)
  have hpos : 0 < rows.length := by rw [hR.1]; exact List.length_pos_iff.2 hne
  obtain ⟨b0, hb0⟩ : ∃ b0 : List OpT, (comp n [[]]).2[0]? = some b0 := ⟨_, List.getElem?_eq_getElem (by rw [← hR.1]; exact hpos)⟩
  obtain ⟨t0, _, hr0⟩ := hR.2 _ _ hb0
  have hset := hand_rows (rowsR_set hR 0 (comp n [[]]).1 ht)
  have hds : ∀ L G, deepS true L G 3 (rows.set 0 (.sl ((comp n [[]]).1.map opA) t)) = handAs true (rows.set 0 (.sl ((comp n [[]]).1.map opA) t)) := fun L G => deepS_no (rows_noHs (rowsR_set hR 0 (comp n [[]]).1 ht))
  have hlen : (rows.set 0 (.sl ((comp n [[]]).1.map opA) t)).length = rows.length := by simp
  have htk : List.take rows.length (rows.set 0 (AV.sl ((comp n [[]]).1.map opA) t)) = rows.set 0 (AV.sl ((comp n [[]]).1.map opA) t) := List.take_of_length_le (by simp)
  rw [fun_some Try.func15 rfl rfl]
  obtain ⟨k, s, l⟩ := n
  simp only [nodeA] at c1 ⊢
  simp only [stC, cellC, List.length_cons, List.length_nil, Nat.zero_add] at c1
  unfold codeA compile
  rw [← hset]
  have hpart : ∀ (x : Bool) (a b c d : Nat), (AV.hs x a b c d).part 0 true 1 = some (.agg [.hs x a b c d]) := fun _ _ _ _ _ => id rfl
  have hms := fun (e : Env) (L G : Hp) (d : Option Tmp) (ty : TypeId) (pos : String) (aft : Array Edge) (g : Option (Nat × Bool)) => op_makeSlice (C := cfg Try.prog ann) (f := 15) (sl := none) (e := e) (L := L) (G := G) (d := d) (ty := ty) (pos := pos) (aft := aft) (g := g) (t := 23) (n := .const (.int .i64 1)) (c := .const (.int .i64 1)) (a := 1) (el := 42) (z := .sl [] .full) rfl rfl (by decide) (by decide)
    te23 t042 (by show Try.prog.bytesOf _ ≤ _; rw [ty42]; decide) (by show zeroSz Try.prog _ = szT Try.prog _; rw [tn42, tz42]) rfl rfl
  cases ag
  all_goals
    simp only [stC, cellC] at c1
    rcases ht with rfl | rfl
    all_goals
      exact ⟨_, by simp only [go_sem, Nat.reduceEqDiff, hms, hpart, hds, c1, hpos, hr0, hlen, htk, refs_ops, Nat.reduceAdd, Nat.reduceLeDiff, Nat.reduceMul, Nat.reducePow, Int.reduceLE, Int.reduceLT, Int.reduceToNat, List.replicate, Nat.le_refl, List.drop_zero, if_true, show ((3 : Nat) = 0) = False from by decide] <;> rfl⟩
end Ev
