/- Names below a node, the document's way; sorted, each once. -/
import Derived.Test.YtecflllnnbiheaaT42
set_option maxHeartbeats 4000000
set_option linter.unusedVariables false
set_option linter.unusedSimpArgs false
namespace Ev
open Go Go.Proofs
set_option maxRecDepth 10000
def RefNamesOk (n : NodeT) : Prop := tsz n ≤ 2 ^ 30 → ∀ L G, callA (cfg Try.prog ann) 51 [nodeA n] L G = some (.val (strsA (namesF n)), L, G)
theorem refNames_step (k : Int) (s : List UInt8) (l : List NodeT) (ih : ∀ x ∈ l, RefNamesOk x) : RefNamesOk (.mk k s l) := by
  intro hb L G
  rw [tsz] at hb
  have hL := nodesA_len l
  have hlim := len_tszs l
  suffices hh : ∃ G', ev Try.prog ann 51 [nodeA (.mk k s l)] [] = some (.val (strsA (namesF (.mk k s l))), G') by
    obtain ⟨G', h⟩ := hh
    refine call_pure rfl rfl ?_ ?_ (G' := G') ?_
    · simp only [nodeA, handAs, handA, pfs, refss, AV.refs, Tok.refs, Tok.drop, if_true, refs_nodes, Bool.and_self]
    · simp only [strsA, AV.pf, AV.refs, Tok.refs, refs_strs', Bool.and_self]
    · simp only [nodeA, handAs, handA, Tok.drop, if_true] at h ⊢
      exact h
  rw [fun_some Try.func51 rfl rfl]
  simp only [nodeA]
  have p1 : ((0 : Int) < 0) = False := by simp
  have p2 : Int.toNat 0 = 0 := rfl
  have p3 : ((1 : Nat) ≤ 2 ^ 20) = True := by decide
  rcases head7 k l with ⟨hh, h2, h3⟩ | ⟨b, hh, hl0, h2, h3⟩ | ⟨b, k', s', l0, hh, hx0, h1, h2, h3⟩ | ⟨b, s', l0, hh, hx0, h2, h3⟩
  · have C2 : Acc 1 (([] : List (List UInt8)).map AV.str) .full [Blk.row 0 [.agg [.int .i64 k, .str s, .sl (nodesA l) .no]]] := acc_nil
    simp only [go_sem, Nat.reduceEqDiff, Nat.reduceAdd, Nat.reduceLeDiff, Nat.reduceLT, h2, h3, p1, Bool.not_true, Bool.not_false, decide_true, decide_false, hL, show ((3 : Nat) = 0) = False from by decide]
    generalize hw : loopW _ _ _ _ _ _ = w
    obtain ⟨ou, rfl, t', L', rfl⟩ : ∃ ou, w = some ou ∧ ∃ t' L', ou = (.exit 0, [(3, .sl ((headT k l ++ namesFs l).map .str) t')], L', []) := by
      rw [← hw]
      clear hw
      refine loop_ex (σ := Nat × List (List UInt8) × Tok × Hp) (fun q => [(1, .ptr true 0 0 0 0), (3, .sl (q.2.1.map .str) q.2.2.1), (4, .int .i64 q.1)]) (fun q => q.2.2.2) (fun _ => [])
        (fun q => q.1 ≤ l.length ∧ Acc 1 (q.2.1.map .str) q.2.2.1 q.2.2.2 ∧ q.2.2.2[0]? = some (.row 0 [.agg [.int .i64 k, .str s, .sl (nodesA l) .no]]) ∧ q.2.1 = headT k l ++ namesFs (l.take q.1)) (fun q => l.length - q.1) _ ?_ (0, [], _, _) ⟨Nat.zero_le _, C2, rfl, by simp [namesFs, hh]⟩
      rintro ⟨i, m, t, L⟩ ⟨q1, q2, q3, q4⟩
      simp only at q1 q2 q3 q4
      have hw : IntKind.i64.wrap ((i : Int) + 1) = ((i + 1 : Nat) : Int) := by rw [wrap_in] <;> omega
      by_cases hi : i < l.length
      · obtain ⟨x, hx⟩ : ∃ x, l[i]? = some x := ⟨_, List.getElem?_eq_getElem hi⟩
        have hx' : (nodesA l)[i]? = some (nodeA x) := by rw [nodesA_get, hx]; rfl
        have htx := tszs_get hx
        have d1 := ih x (List.mem_of_getElem? hx) (by omega)
        have hlen1 := namesF_len x
        have hlen2 : m.length ≤ 1 + tszs (l.take i) := by
          rw [q4, List.length_append]
          have := headT_len k l
          have := namesFs_len (l.take i)
          omega
        obtain ⟨t2, L2, happ, hacc, hkept⟩ := app_lst (P := Try.prog) (A := ann) (f := 51) (d := 49) (xs := (namesF x).map .str) (ys := (namesF x).map .str) (L := L) (l := m.map .str) (t := t) elKstr rfl rfl (by rw [tz9]; exact q2)
          (handX_strs _) rfl (by cases namesF x with | nil => rfl | cons y m => rw [List.map_cons]; simp only [szOk, AV.cells, tz9]; rfl) (by rw [ty9, List.length_map, List.length_map]; simp only [mostBytes]; omega)
        rw [tz9, ← List.map_append] at hacc
        rw [← List.map_append] at happ
        have q4' : m ++ namesF x = headT k l ++ namesFs (l.take (i + 1)) := by rw [q4, List.append_assoc, ← namesFs_take hx]
        clear hlen1 hlen2 htx
        generalize namesF x = nx at d1 happ hacc q4'
        obtain ⟨kx, sx, lx⟩ := x
        simp only [nodeA, strsA] at hx' d1
        refine ⟨_, by simp only [go_sem, Nat.reduceEqDiff, hi, hL, q3, hx', hw, d1, happ, Nat.reduceAdd, Nat.reduceLeDiff, decide_true, show ((3 : Nat) = 0) = False from by decide] <;> rfl, ?_⟩
        exact .inl ⟨(i + 1, m ++ nx, t2, trim 1 [(1, .ptr true 0 0 0 0), (3, .sl ((m ++ nx).map .str) t2), (4, .int .i64 ((i + 1 : Nat) : Int))] L2), ⟨by simp only; omega, acc_trimk (i := 3) hacc (by simp), trim_rowk (by decide) (hkept.2 _ _ _ q3), q4'⟩, by simp only; omega, rfl⟩
      · have e : l.take i = l := List.take_of_length_le (by omega)
        rw [e] at q4
        subst q4
        refine ⟨_, by simp only [go_sem, Nat.reduceEqDiff, hi, hL, q3, decide_false, Nat.reduceAdd, Nat.reduceLeDiff] <;> rfl, .inr ⟨_, rfl, t, L, rfl⟩⟩
    have hdrop : t'.drop true = .no := rfl
    exact ⟨_, by rw [namesF]; simp only [go_sem, Nat.reduceEqDiff, leave, hdrop, strsA] <;> rfl⟩
  · have C2 : Acc 1 (([] : List (List UInt8)).map AV.str) .full [Blk.row 0 [.agg [.int .i64 k, .str s, .sl (nodesA l) .no]]] := acc_nil
    have p0 : ((0 : Int) < ((l.length : Nat) : Int)) = False := by rw [hl0]; simp
    cases b
    all_goals
      simp only [go_sem, Nat.reduceEqDiff, Nat.reduceAdd, Nat.reduceLeDiff, Nat.reduceLT, h2, h3, p0, p1, p2, p3, Bool.not_true, Bool.not_false, decide_true, decide_false, hL, show ((3 : Nat) = 0) = False from by decide]
      generalize hw : loopW _ _ _ _ _ _ = w
      obtain ⟨ou, rfl, t', L', rfl⟩ : ∃ ou, w = some ou ∧ ∃ t' L', ou = (.exit 0, [(3, .sl ((headT k l ++ namesFs l).map .str) t')], L', []) := by
        rw [← hw]
        clear hw
        refine loop_ex (σ := Nat × List (List UInt8) × Tok × Hp) (fun q => [(1, .ptr true 0 0 0 0), (3, .sl (q.2.1.map .str) q.2.2.1), (4, .int .i64 q.1)]) (fun q => q.2.2.2) (fun _ => [])
          (fun q => q.1 ≤ l.length ∧ Acc 1 (q.2.1.map .str) q.2.2.1 q.2.2.2 ∧ q.2.2.2[0]? = some (.row 0 [.agg [.int .i64 k, .str s, .sl (nodesA l) .no]]) ∧ q.2.1 = headT k l ++ namesFs (l.take q.1)) (fun q => l.length - q.1) _ ?_ (0, [], _, _) ⟨Nat.zero_le _, C2, rfl, by simp [namesFs, hh]⟩
        rintro ⟨i, m, t, L⟩ ⟨q1, q2, q3, q4⟩
        simp only at q1 q2 q3 q4
        have hw : IntKind.i64.wrap ((i : Int) + 1) = ((i + 1 : Nat) : Int) := by rw [wrap_in] <;> omega
        by_cases hi : i < l.length
        · obtain ⟨x, hx⟩ : ∃ x, l[i]? = some x := ⟨_, List.getElem?_eq_getElem hi⟩
          have hx' : (nodesA l)[i]? = some (nodeA x) := by rw [nodesA_get, hx]; rfl
          have htx := tszs_get hx
          have d1 := ih x (List.mem_of_getElem? hx) (by omega)
          have hlen1 := namesF_len x
          have hlen2 : m.length ≤ 1 + tszs (l.take i) := by
            rw [q4, List.length_append]
            have := headT_len k l
            have := namesFs_len (l.take i)
            omega
          obtain ⟨t2, L2, happ, hacc, hkept⟩ := app_lst (P := Try.prog) (A := ann) (f := 51) (d := 49) (xs := (namesF x).map .str) (ys := (namesF x).map .str) (L := L) (l := m.map .str) (t := t) elKstr rfl rfl (by rw [tz9]; exact q2)
            (handX_strs _) rfl (by cases namesF x with | nil => rfl | cons y m => rw [List.map_cons]; simp only [szOk, AV.cells, tz9]; rfl) (by rw [ty9, List.length_map, List.length_map]; simp only [mostBytes]; omega)
          rw [tz9, ← List.map_append] at hacc
          rw [← List.map_append] at happ
          have q4' : m ++ namesF x = headT k l ++ namesFs (l.take (i + 1)) := by rw [q4, List.append_assoc, ← namesFs_take hx]
          clear hlen1 hlen2 htx
          generalize namesF x = nx at d1 happ hacc q4'
          obtain ⟨kx, sx, lx⟩ := x
          simp only [nodeA, strsA] at hx' d1
          refine ⟨_, by simp only [go_sem, Nat.reduceEqDiff, hi, hL, q3, hx', hw, d1, happ, Nat.reduceAdd, Nat.reduceLeDiff, decide_true, show ((3 : Nat) = 0) = False from by decide] <;> rfl, ?_⟩
          exact .inl ⟨(i + 1, m ++ nx, t2, trim 1 [(1, .ptr true 0 0 0 0), (3, .sl ((m ++ nx).map .str) t2), (4, .int .i64 ((i + 1 : Nat) : Int))] L2), ⟨by simp only; omega, acc_trimk (i := 3) hacc (by simp), trim_rowk (by decide) (hkept.2 _ _ _ q3), q4'⟩, by simp only; omega, rfl⟩
        · have e : l.take i = l := List.take_of_length_le (by omega)
          rw [e] at q4
          subst q4
          refine ⟨_, by simp only [go_sem, Nat.reduceEqDiff, hi, hL, q3, decide_false, Nat.reduceAdd, Nat.reduceLeDiff] <;> rfl, .inr ⟨_, rfl, t, L, rfl⟩⟩
      have hdrop : t'.drop true = .no := rfl
      exact ⟨_, by rw [namesF]; simp only [go_sem, Nat.reduceEqDiff, leave, hdrop, strsA] <;> rfl⟩
  · have C2 : Acc 1 (([] : List (List UInt8)).map AV.str) .full [Blk.row 0 [.agg [.int .i64 k, .str s, .sl (nodesA l) .no]]] := acc_nil
    have hx0' : (nodesA l)[0]? = some (.agg [.int .i64 k', .str s', .sl (nodesA l0) .no]) := by rw [nodesA_get, hx0, Option.map_some, nodeA]
    have p0 : ((0 : Int) < ((l.length : Nat) : Int)) = True := eq_true (by have := (List.getElem?_eq_some_iff.1 hx0).1; omega)
    cases b
    all_goals
      simp only [go_sem, Nat.reduceEqDiff, Nat.reduceAdd, Nat.reduceLeDiff, Nat.reduceLT, h2, h3, p0, p1, p2, p3, hx0', h1, Bool.not_true, Bool.not_false, decide_true, decide_false, hL, show ((3 : Nat) = 0) = False from by decide]
      generalize hw : loopW _ _ _ _ _ _ = w
      obtain ⟨ou, rfl, t', L', rfl⟩ : ∃ ou, w = some ou ∧ ∃ t' L', ou = (.exit 0, [(3, .sl ((headT k l ++ namesFs l).map .str) t')], L', []) := by
        rw [← hw]
        clear hw
        refine loop_ex (σ := Nat × List (List UInt8) × Tok × Hp) (fun q => [(1, .ptr true 0 0 0 0), (3, .sl (q.2.1.map .str) q.2.2.1), (4, .int .i64 q.1)]) (fun q => q.2.2.2) (fun _ => [])
          (fun q => q.1 ≤ l.length ∧ Acc 1 (q.2.1.map .str) q.2.2.1 q.2.2.2 ∧ q.2.2.2[0]? = some (.row 0 [.agg [.int .i64 k, .str s, .sl (nodesA l) .no]]) ∧ q.2.1 = headT k l ++ namesFs (l.take q.1)) (fun q => l.length - q.1) _ ?_ (0, [], _, _) ⟨Nat.zero_le _, C2, rfl, by simp [namesFs, hh]⟩
        rintro ⟨i, m, t, L⟩ ⟨q1, q2, q3, q4⟩
        simp only at q1 q2 q3 q4
        have hw : IntKind.i64.wrap ((i : Int) + 1) = ((i + 1 : Nat) : Int) := by rw [wrap_in] <;> omega
        by_cases hi : i < l.length
        · obtain ⟨x, hx⟩ : ∃ x, l[i]? = some x := ⟨_, List.getElem?_eq_getElem hi⟩
          have hx' : (nodesA l)[i]? = some (nodeA x) := by rw [nodesA_get, hx]; rfl
          have htx := tszs_get hx
          have d1 := ih x (List.mem_of_getElem? hx) (by omega)
          have hlen1 := namesF_len x
          have hlen2 : m.length ≤ 1 + tszs (l.take i) := by
            rw [q4, List.length_append]
            have := headT_len k l
            have := namesFs_len (l.take i)
            omega
          obtain ⟨t2, L2, happ, hacc, hkept⟩ := app_lst (P := Try.prog) (A := ann) (f := 51) (d := 49) (xs := (namesF x).map .str) (ys := (namesF x).map .str) (L := L) (l := m.map .str) (t := t) elKstr rfl rfl (by rw [tz9]; exact q2)
            (handX_strs _) rfl (by cases namesF x with | nil => rfl | cons y m => rw [List.map_cons]; simp only [szOk, AV.cells, tz9]; rfl) (by rw [ty9, List.length_map, List.length_map]; simp only [mostBytes]; omega)
          rw [tz9, ← List.map_append] at hacc
          rw [← List.map_append] at happ
          have q4' : m ++ namesF x = headT k l ++ namesFs (l.take (i + 1)) := by rw [q4, List.append_assoc, ← namesFs_take hx]
          clear hlen1 hlen2 htx
          generalize namesF x = nx at d1 happ hacc q4'
          obtain ⟨kx, sx, lx⟩ := x
          simp only [nodeA, strsA] at hx' d1
          refine ⟨_, by simp only [go_sem, Nat.reduceEqDiff, hi, hL, q3, hx', hw, d1, happ, Nat.reduceAdd, Nat.reduceLeDiff, decide_true, show ((3 : Nat) = 0) = False from by decide] <;> rfl, ?_⟩
          exact .inl ⟨(i + 1, m ++ nx, t2, trim 1 [(1, .ptr true 0 0 0 0), (3, .sl ((m ++ nx).map .str) t2), (4, .int .i64 ((i + 1 : Nat) : Int))] L2), ⟨by simp only; omega, acc_trimk (i := 3) hacc (by simp), trim_rowk (by decide) (hkept.2 _ _ _ q3), q4'⟩, by simp only; omega, rfl⟩
        · have e : l.take i = l := List.take_of_length_le (by omega)
          rw [e] at q4
          subst q4
          refine ⟨_, by simp only [go_sem, Nat.reduceEqDiff, hi, hL, q3, decide_false, Nat.reduceAdd, Nat.reduceLeDiff] <;> rfl, .inr ⟨_, rfl, t, L, rfl⟩⟩
      have hdrop : t'.drop true = .no := rfl
      exact ⟨_, by rw [namesF]; simp only [go_sem, Nat.reduceEqDiff, leave, hdrop, strsA] <;> rfl⟩
  · have c1 := fun L G => app_ltok0 (P := Try.prog) (A := ann) (f := 51) (d := 34) (xs := [AV.str s']) (ys := [AV.str s']) (L := L) (G := G) elKstr rfl rfl (handX_strs [s']) rfl (by simp only [szOk, AV.cells, tz9]; rfl) (by simp) (by rw [ty9]; simp [mostBytes])
    rw [tz9] at c1
    have C2 : Acc 1 ([s'].map AV.str) (.own true 1) [Blk.row 0 [.agg [.int .i64 k, .str s, .sl (nodesA l) .no]], .tok 1 1] := .inr ⟨1, rfl, rfl⟩
    have hx0' : (nodesA l)[0]? = some (.agg [.int .i64 1, .str s', .sl (nodesA l0) .no]) := by rw [nodesA_get, hx0, Option.map_some, nodeA]
    have p0 : ((0 : Int) < ((l.length : Nat) : Int)) = True := eq_true (by have := (List.getElem?_eq_some_iff.1 hx0).1; omega)
    cases b
    all_goals
      simp only [go_sem, Nat.reduceEqDiff, Nat.reduceAdd, Nat.reduceLeDiff, Nat.reduceLT, h2, h3, p0, p1, p2, p3, hx0', c1, Int.reduceBEq, Bool.not_true, Bool.not_false, decide_true, decide_false, hL, show ((3 : Nat) = 0) = False from by decide]
      generalize hw : loopW _ _ _ _ _ _ = w
      obtain ⟨ou, rfl, t', L', rfl⟩ : ∃ ou, w = some ou ∧ ∃ t' L', ou = (.exit 0, [(3, .sl ((headT k l ++ namesFs l).map .str) t')], L', []) := by
        rw [← hw]
        clear hw
        refine loop_ex (σ := Nat × List (List UInt8) × Tok × Hp) (fun q => [(1, .ptr true 0 0 0 0), (3, .sl (q.2.1.map .str) q.2.2.1), (4, .int .i64 q.1)]) (fun q => q.2.2.2) (fun _ => [])
          (fun q => q.1 ≤ l.length ∧ Acc 1 (q.2.1.map .str) q.2.2.1 q.2.2.2 ∧ q.2.2.2[0]? = some (.row 0 [.agg [.int .i64 k, .str s, .sl (nodesA l) .no]]) ∧ q.2.1 = headT k l ++ namesFs (l.take q.1)) (fun q => l.length - q.1) _ ?_ (0, [s'], _, _) ⟨Nat.zero_le _, C2, rfl, by simp [namesFs, hh]⟩
        rintro ⟨i, m, t, L⟩ ⟨q1, q2, q3, q4⟩
        simp only at q1 q2 q3 q4
        have hw : IntKind.i64.wrap ((i : Int) + 1) = ((i + 1 : Nat) : Int) := by rw [wrap_in] <;> omega
        by_cases hi : i < l.length
        · obtain ⟨x, hx⟩ : ∃ x, l[i]? = some x := ⟨_, List.getElem?_eq_getElem hi⟩
          have hx' : (nodesA l)[i]? = some (nodeA x) := by rw [nodesA_get, hx]; rfl
          have htx := tszs_get hx
          have d1 := ih x (List.mem_of_getElem? hx) (by omega)
          have hlen1 := namesF_len x
          have hlen2 : m.length ≤ 1 + tszs (l.take i) := by
            rw [q4, List.length_append]
            have := headT_len k l
            have := namesFs_len (l.take i)
            omega
          obtain ⟨t2, L2, happ, hacc, hkept⟩ := app_lst (P := Try.prog) (A := ann) (f := 51) (d := 49) (xs := (namesF x).map .str) (ys := (namesF x).map .str) (L := L) (l := m.map .str) (t := t) elKstr rfl rfl (by rw [tz9]; exact q2)
            (handX_strs _) rfl (by cases namesF x with | nil => rfl | cons y m => rw [List.map_cons]; simp only [szOk, AV.cells, tz9]; rfl) (by rw [ty9, List.length_map, List.length_map]; simp only [mostBytes]; omega)
          rw [tz9, ← List.map_append] at hacc
          rw [← List.map_append] at happ
          have q4' : m ++ namesF x = headT k l ++ namesFs (l.take (i + 1)) := by rw [q4, List.append_assoc, ← namesFs_take hx]
          clear hlen1 hlen2 htx
          generalize namesF x = nx at d1 happ hacc q4'
          obtain ⟨kx, sx, lx⟩ := x
          simp only [nodeA, strsA] at hx' d1
          refine ⟨_, by simp only [go_sem, Nat.reduceEqDiff, hi, hL, q3, hx', hw, d1, happ, Nat.reduceAdd, Nat.reduceLeDiff, decide_true, show ((3 : Nat) = 0) = False from by decide] <;> rfl, ?_⟩
          exact .inl ⟨(i + 1, m ++ nx, t2, trim 2 [(1, .ptr true 0 0 0 0), (3, .sl ((m ++ nx).map .str) t2), (4, .int .i64 ((i + 1 : Nat) : Int))] L2), ⟨by simp only; omega, acc_trimk (i := 3) hacc (by simp), trim_rowk (by decide) (hkept.2 _ _ _ q3), q4'⟩, by simp only; omega, rfl⟩
        · have e : l.take i = l := List.take_of_length_le (by omega)
          rw [e] at q4
          subst q4
          refine ⟨_, by simp only [go_sem, Nat.reduceEqDiff, hi, hL, q3, decide_false, Nat.reduceAdd, Nat.reduceLeDiff] <;> rfl, .inr ⟨_, rfl, t, L, rfl⟩⟩
      have hdrop : t'.drop true = .no := rfl
      exact ⟨_, by rw [namesF]; simp only [go_sem, Nat.reduceEqDiff, leave, hdrop, strsA] <;> rfl⟩
theorem refNames_all : ∀ (N : Nat) (n : NodeT), tsz n ≤ N → RefNamesOk n
  | 0, n, h => by have := tsz_pos n; omega
  | N + 1, .mk k s l, h => refNames_step k s l fun x hx => refNames_all N x (by
      rw [tsz] at h
      obtain ⟨i, hi⟩ := List.getElem?_of_mem hx
      have := tszs_get hi
      omega)
end Ev
