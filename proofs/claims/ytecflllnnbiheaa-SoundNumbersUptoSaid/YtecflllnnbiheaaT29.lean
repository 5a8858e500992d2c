/- Compile, the document's way: nodes that are not lazy. -/
import Derived.Test.YtecflllnnbiheaaT28
set_option maxHeartbeats 4000000
set_option linter.unusedVariables false
set_option linter.unusedSimpArgs false
namespace Ev
open Go Go.Proofs
set_option maxRecDepth 10000
def NodeOk (n : NodeT) : Prop := ∀ (G : Hp) (B : CodeT) (b : Nat), St12 G B → b < B.length → B.length + tsz n ≤ 2 ^ 30 → opsum B + tsz n ≤ 2 ^ 30 → ∃ G' : Hp,
  (∀ L, callA (cfg Try.prog ann) 43 [.ptr false 1 0 0 0, .int .i64 b, nodeA n] L G = some (.val (.tup []), L, G')) ∧ St12 G' (appB b (comp n B).1 (comp n B).2)
theorem ne_of_len {B : CodeT} (h : 0 < B.length) : B ≠ [] := List.length_pos_iff.1 h
theorem trim_self {e : Env} {L : Hp} : trim L.length e L = L := by
  unfold trim
  rw [if_pos (Nat.le_refl _)]
theorem node_of {n : NodeT} (h : ∀ (G : Hp) (B : CodeT) (b : Nat), St12 G B → b < B.length → B.length + tsz n ≤ 2 ^ 30 → opsum B + tsz n ≤ 2 ^ 30 → ∃ G' : Hp, St12 G' (appB b (comp n B).1 (comp n B).2) ∧
    ev Try.prog ann 43 [.ptr false 1 0 0 0, .int .i64 b, nodeA n] G = some (.val (.tup []), G')) : NodeOk n := by
  intro G B b hG hb h1 h2
  obtain ⟨G', r1, r2⟩ := h G B b hG hb h1 h2
  refine ⟨G', fun L => call_sees rfl rfl ?_ rfl ?_, r1⟩
  · cases n
    simp only [nodeA, handAs, handA, noLs, refss, AV.refs, Tok.refs, Tok.drop, Bool.false_eq_true, if_false, refs_nodes, Bool.and_self, Bool.not_false]
  · cases n
    simp only [nodeA, handAs, handA, Tok.drop, Bool.false_eq_true, if_false]
    simp only [nodeA] at r2
    exact r2
theorem node_text (s : List UInt8) (l : List NodeT) : NodeOk (.mk 1 s l) := by
  refine node_of fun G B b hG hb hb1 hb2 => ?_
  obtain ⟨g, rows, ag, toks, rfl, hne, hR⟩ := hG
  obtain ⟨es, t, es', a, toks', hr, ht, happ, hR', hno⟩ := app12 (g := g) (ag := ag) hR hb ⟨1, 0, s, []⟩ (by omega)
  have hbl : b < rows.length := by rw [hR.1]; exact hb
  have hlen : (rows.set b (AV.sl es' (.own false a))).length = rows.length := by simp
  have hst : St12 (st12 g (rows.set b (.sl es' (.own false a))) ag toks') (appB b [⟨1, 0, s, []⟩] B) := ⟨_, _, _, _, rfl, by intro e; have hh := congrArg List.length e; rw [appB_len, List.length_nil] at hh; omega, hR'⟩
  rw [comp, if_pos rfl]
  refine ⟨_, hst, ?_⟩
  have happ := fun sl L => happ 43 29 sl L rfl rfl
  simp only [opA, intsA, List.map_nil] at happ
  rw [fun_some Try.func43 rfl rfl]
  simp only [nodeA, st12, hlen]
  cases ag
  all_goals
    simp only [cellC] at happ ⊢
    rcases ht with rfl | ⟨a0, rfl⟩
    all_goals
      simp only [go_sem, Nat.reduceEqDiff, Int.reduceBEq, hr, hbl, happ, hno, Nat.reduceAdd, Nat.reduceLeDiff, Nat.reduceMul, Nat.reducePow, Nat.reduceLT, show ((0 : Nat) < 1) = True from by decide, show ((3 : Nat) = 0) = False from by decide]

theorem node_ref {k : Int} {s : List UInt8} {l : List NodeT} (ih : ∀ x ∈ l, NodeOk x)  : NodeOk (.mk 2 s l) := by
  refine node_of fun G B b hG hb hb1 hb2 => ?_
  rw [tsz] at hb1 hb2
  have hL := nodesA_len l
  have hlim := len_tszs l

  have hc : comp (.mk 2 s l) B = ((comps l B).1 ++ [⟨2, 0, [], []⟩], (comps l B).2) := by rw [comp, if_neg (by first | decide | assumption), if_neg (by first | decide | omega | (simp; assumption) | (simp_all))]; first | rfl | simp [lastOp, *]
  rw [hc]
  dsimp only
  rw [← appB_app]
  suffices hh : ∃ G1 : Hp, St12 G1 (appB b (comps l B).1 (comps l B).2) ∧ ∀ G' : Hp, (∀ g rows ag toks es t es' a toks', G1 = st12 g rows ag toks → rows[b]? = some (AV.sl es t) → ((t = .full) ∨ ∃ a, t = .own false a) → b < rows.length →
      (∀ (sl : Option Nat) (L : Hp), appendA Try.prog ann 43 97 44 sl (.sl es t) [opA ⟨2, 0, [], []⟩] L (.row g rows :: .row 0 [cellC ag (.hs false 0 g 0 rows.length)] :: toks) = some (.sl es' (.own false a), L, .row g rows :: .row 0 [cellC ag (.hs false 0 g 0 rows.length)] :: toks')) →
      refss (fun loc _ => !loc) es' = true → G' = st12 g (rows.set b (.sl es' (.own false a))) ag toks' →
      ev Try.prog ann 43 [.ptr false 1 0 0 0, .int .i64 b, nodeA (.mk 2 s l)] G = some (.val (.tup []), G')) by
    obtain ⟨G1, hst1, hh⟩ := hh
    have hcl := comps_len l B
    have hle := comps_le l B
    have hab := opsum_appB (comps l B).2 b (comps l B).1
    obtain ⟨g, rows, ag, toks, rfl, hne, hR⟩ := hst1
    have hbl0 : b < (appB b (comps l B).1 (comps l B).2).length := by rw [appB_len]; omega
    obtain ⟨es, t, es', a, toks', hr, ht, happ, hR', hno⟩ := app12 (g := g) (ag := ag) hR hbl0 ⟨2, 0, [], []⟩ (by omega)
    exact ⟨_, ⟨_, _, _, _, rfl, ne_of_len (by rw [appB_len, appB_len]; omega), hR'⟩, hh _ g rows ag toks es t es' a toks' rfl hr ht (by rw [hR.1, appB_len]; omega) (fun sl L => happ _ 97 sl L rfl rfl) hno rfl⟩
  simp only [nodeA]
  have hstep := fun G' => fun_some (P := Try.prog) (A := ann) Try.func43 rfl rfl (args := [.ptr false 1 0 0 0, .int .i64 b, .agg [.int .i64 2, .str s, .sl (nodesA l) .no]]) (G := G')
  simp only [hstep]
  simp only [go_sem, Nat.reduceEqDiff, Int.reduceBEq, show (2 : Int) = 2 from rfl, Nat.reduceAdd, Nat.reduceLeDiff, nodesA_len, show ((3 : Nat) = 0) = False from by decide, show ((4 : Nat) = 0) = False from by decide]
  generalize hw : loopW _ _ _ _ _ _ = w
  obtain ⟨ou, rfl, G1, rfl, hst⟩ : ∃ ou, w = some ou ∧ ∃ G1 : Hp, ou = (.exit 1, [(0, .ptr false 1 0 0 0), (1, .int .i64 b), (5, .ptr true 0 0 0 0)], [.row 0 [.agg [.int .i64 2, .str s, .sl (nodesA l) .no]]], G1) ∧ St12 G1 (appB b (comps l B).1 (comps l B).2) := by
    rw [← hw]
    clear hw
    refine loop_ex (σ := Nat × Hp × List OpT × CodeT) (fun q => [(0, .ptr false 1 0 0 0), (1, .int .i64 b), (5, .ptr true 0 0 0 0), (8, .int .i64 q.1)]) (fun _ => [.row 0 [.agg [.int .i64 2, .str s, .sl (nodesA l) .no]]]) (fun q => q.2.1)
      (fun q => q.1 ≤ l.length ∧ St12 q.2.1 (appB b q.2.2.1 q.2.2.2) ∧ b < q.2.2.2.length ∧ q.2.2.2.length + tszs (l.drop q.1) ≤ 2 ^ 30 ∧ opsum q.2.2.2 + q.2.2.1.length + tszs (l.drop q.1) ≤ 2 ^ 30 ∧ comps l B = (q.2.2.1 ++ (comps (l.drop q.1) q.2.2.2).1, (comps (l.drop q.1) q.2.2.2).2)) (fun q => l.length - q.1) _ ?_ (0, G, [], B)
      ⟨Nat.zero_le _, by
        have : appB b [] B = B := List.ext_getElem? fun j => by rw [appB_get]; split <;> simp
        simp only [this]; exact hG, hb, by simp only [List.drop_zero]; omega, by simp only [List.drop_zero, List.length_nil]; omega, by simp⟩
    rintro ⟨i, G1, out, C⟩ ⟨q1, q2, q3, q4, q5, q6⟩
    simp only at q1 q2 q3 q4 q5 q6
    have hw : IntKind.i64.wrap ((i : Int) + 1) = ((i + 1 : Nat) : Int) := by rw [wrap_in] <;> omega
    by_cases hi : i < l.length
    · obtain ⟨x, hx⟩ : ∃ x, l[i]? = some x := ⟨_, List.getElem?_eq_getElem hi⟩
      have hx' : (nodesA l)[i]? = some (nodeA x) := by rw [nodesA_get, hx]; rfl
      have htd := tszs_drop hx
      rw [comps_drop hx] at q6
      have hab := opsum_appB C b out
      obtain ⟨G2, c1, c2⟩ := ih x (List.mem_of_getElem? hx) G1 _ b q2 (by rw [appB_len]; exact q3) (by rw [appB_len]; omega) (by omega)
      rw [comp_mod x C b out q3, appB_app] at c2
      have cb := comp_blk x C
      have cl := comp_len x C
      have ce := comp_le x C
      obtain ⟨kx, sx, lx⟩ := x
      simp only [nodeA] at hx' c1
      refine ⟨_, by simp only [go_sem, Nat.reduceEqDiff, hi, hL, hx', hw, c1, Nat.reduceAdd, Nat.reduceLeDiff] <;> rfl, ?_⟩
      exact .inl ⟨(i + 1, G2, out ++ (comp (.mk kx sx lx) C).1, (comp (.mk kx sx lx) C).2), ⟨by simp only; omega, c2, by simp only; omega, by simp only; omega, by simp only [List.length_append]; omega, by simp only; rw [List.append_assoc]; exact q6⟩, by simp only; omega, rfl⟩
    · have e : l.drop i = [] := List.drop_eq_nil_of_le (by omega)
      rw [e, comps] at q6
      simp only [List.append_nil] at q6
      refine ⟨_, by simp only [go_sem, Nat.reduceEqDiff, hi, hL] <;> rfl, .inr ⟨_, rfl, G1, rfl, by rw [q6]; exact q2⟩⟩
  refine ⟨G1, hst, fun G' g rows ag toks es t es' a toks' hG1 hr ht hbl happ hno hG' => ?_⟩
  subst hG1 hG'
  have hlen : (rows.set b (AV.sl es' (.own false a))).length = rows.length := by simp
  simp only [opA, intsA, List.map_nil] at happ
  simp only [st12, hlen]
  cases ag
  all_goals
    simp only [cellC] at happ ⊢
    rcases ht with rfl | ⟨a0, rfl⟩
    all_goals
      simp only [go_sem, Nat.reduceEqDiff, Int.reduceBEq, show (2 : Int) = 2 from rfl, hL, hr, hbl, happ, hno, Nat.reduceAdd, Nat.reduceLeDiff, Nat.reduceMul, Nat.reducePow, Nat.reduceLT, show ((0 : Nat) < 1) = True from by decide, show ((0 : Nat) < 2) = True from by decide, show ((3 : Nat) = 0) = False from by decide]

theorem node_sub {k : Int} {s : List UInt8} {l : List NodeT} (ih : ∀ x ∈ l, NodeOk x)  : NodeOk (.mk 3 s l) := by
  refine node_of fun G B b hG hb hb1 hb2 => ?_
  rw [tsz] at hb1 hb2
  have hL := nodesA_len l
  have hlim := len_tszs l

  have hc : comp (.mk 3 s l) B = ((comps l B).1 ++ [⟨3, 0, [], []⟩], (comps l B).2) := by rw [comp, if_neg (by first | decide | assumption), if_neg (by first | decide | omega | (simp; assumption) | (simp_all))]; first | rfl | simp [lastOp, *]
  rw [hc]
  dsimp only
  rw [← appB_app]
  suffices hh : ∃ G1 : Hp, St12 G1 (appB b (comps l B).1 (comps l B).2) ∧ ∀ G' : Hp, (∀ g rows ag toks es t es' a toks', G1 = st12 g rows ag toks → rows[b]? = some (AV.sl es t) → ((t = .full) ∨ ∃ a, t = .own false a) → b < rows.length →
      (∀ (sl : Option Nat) (L : Hp), appendA Try.prog ann 43 115 44 sl (.sl es t) [opA ⟨3, 0, [], []⟩] L (.row g rows :: .row 0 [cellC ag (.hs false 0 g 0 rows.length)] :: toks) = some (.sl es' (.own false a), L, .row g rows :: .row 0 [cellC ag (.hs false 0 g 0 rows.length)] :: toks')) →
      refss (fun loc _ => !loc) es' = true → G' = st12 g (rows.set b (.sl es' (.own false a))) ag toks' →
      ev Try.prog ann 43 [.ptr false 1 0 0 0, .int .i64 b, nodeA (.mk 3 s l)] G = some (.val (.tup []), G')) by
    obtain ⟨G1, hst1, hh⟩ := hh
    have hcl := comps_len l B
    have hle := comps_le l B
    have hab := opsum_appB (comps l B).2 b (comps l B).1
    obtain ⟨g, rows, ag, toks, rfl, hne, hR⟩ := hst1
    have hbl0 : b < (appB b (comps l B).1 (comps l B).2).length := by rw [appB_len]; omega
    obtain ⟨es, t, es', a, toks', hr, ht, happ, hR', hno⟩ := app12 (g := g) (ag := ag) hR hbl0 ⟨3, 0, [], []⟩ (by omega)
    exact ⟨_, ⟨_, _, _, _, rfl, ne_of_len (by rw [appB_len, appB_len]; omega), hR'⟩, hh _ g rows ag toks es t es' a toks' rfl hr ht (by rw [hR.1, appB_len]; omega) (fun sl L => happ _ 115 sl L rfl rfl) hno rfl⟩
  simp only [nodeA]
  have hstep := fun G' => fun_some (P := Try.prog) (A := ann) Try.func43 rfl rfl (args := [.ptr false 1 0 0 0, .int .i64 b, .agg [.int .i64 3, .str s, .sl (nodesA l) .no]]) (G := G')
  simp only [hstep]
  simp only [go_sem, Nat.reduceEqDiff, Int.reduceBEq, show (3 : Int) = 3 from rfl, Nat.reduceAdd, Nat.reduceLeDiff, nodesA_len, show ((3 : Nat) = 0) = False from by decide, show ((4 : Nat) = 0) = False from by decide]
  generalize hw : loopW _ _ _ _ _ _ = w
  obtain ⟨ou, rfl, G1, rfl, hst⟩ : ∃ ou, w = some ou ∧ ∃ G1 : Hp, ou = (.exit 1, [(0, .ptr false 1 0 0 0), (1, .int .i64 b), (5, .ptr true 0 0 0 0)], [.row 0 [.agg [.int .i64 3, .str s, .sl (nodesA l) .no]]], G1) ∧ St12 G1 (appB b (comps l B).1 (comps l B).2) := by
    rw [← hw]
    clear hw
    refine loop_ex (σ := Nat × Hp × List OpT × CodeT) (fun q => [(0, .ptr false 1 0 0 0), (1, .int .i64 b), (5, .ptr true 0 0 0 0), (8, .int .i64 q.1)]) (fun _ => [.row 0 [.agg [.int .i64 3, .str s, .sl (nodesA l) .no]]]) (fun q => q.2.1)
      (fun q => q.1 ≤ l.length ∧ St12 q.2.1 (appB b q.2.2.1 q.2.2.2) ∧ b < q.2.2.2.length ∧ q.2.2.2.length + tszs (l.drop q.1) ≤ 2 ^ 30 ∧ opsum q.2.2.2 + q.2.2.1.length + tszs (l.drop q.1) ≤ 2 ^ 30 ∧ comps l B = (q.2.2.1 ++ (comps (l.drop q.1) q.2.2.2).1, (comps (l.drop q.1) q.2.2.2).2)) (fun q => l.length - q.1) _ ?_ (0, G, [], B)
      ⟨Nat.zero_le _, by
        have : appB b [] B = B := List.ext_getElem? fun j => by rw [appB_get]; split <;> simp
        simp only [this]; exact hG, hb, by simp only [List.drop_zero]; omega, by simp only [List.drop_zero, List.length_nil]; omega, by simp⟩
    rintro ⟨i, G1, out, C⟩ ⟨q1, q2, q3, q4, q5, q6⟩
    simp only at q1 q2 q3 q4 q5 q6
    have hw : IntKind.i64.wrap ((i : Int) + 1) = ((i + 1 : Nat) : Int) := by rw [wrap_in] <;> omega
    by_cases hi : i < l.length
    · obtain ⟨x, hx⟩ : ∃ x, l[i]? = some x := ⟨_, List.getElem?_eq_getElem hi⟩
      have hx' : (nodesA l)[i]? = some (nodeA x) := by rw [nodesA_get, hx]; rfl
      have htd := tszs_drop hx
      rw [comps_drop hx] at q6
      have hab := opsum_appB C b out
      obtain ⟨G2, c1, c2⟩ := ih x (List.mem_of_getElem? hx) G1 _ b q2 (by rw [appB_len]; exact q3) (by rw [appB_len]; omega) (by omega)
      rw [comp_mod x C b out q3, appB_app] at c2
      have cb := comp_blk x C
      have cl := comp_len x C
      have ce := comp_le x C
      obtain ⟨kx, sx, lx⟩ := x
      simp only [nodeA] at hx' c1
      refine ⟨_, by simp only [go_sem, Nat.reduceEqDiff, hi, hL, hx', hw, c1, Nat.reduceAdd, Nat.reduceLeDiff] <;> rfl, ?_⟩
      exact .inl ⟨(i + 1, G2, out ++ (comp (.mk kx sx lx) C).1, (comp (.mk kx sx lx) C).2), ⟨by simp only; omega, c2, by simp only; omega, by simp only; omega, by simp only [List.length_append]; omega, by simp only; rw [List.append_assoc]; exact q6⟩, by simp only; omega, rfl⟩
    · have e : l.drop i = [] := List.drop_eq_nil_of_le (by omega)
      rw [e, comps] at q6
      simp only [List.append_nil] at q6
      refine ⟨_, by simp only [go_sem, Nat.reduceEqDiff, hi, hL] <;> rfl, .inr ⟨_, rfl, G1, rfl, by rw [q6]; exact q2⟩⟩
  refine ⟨G1, hst, fun G' g rows ag toks es t es' a toks' hG1 hr ht hbl happ hno hG' => ?_⟩
  subst hG1 hG'
  have hlen : (rows.set b (AV.sl es' (.own false a))).length = rows.length := by simp
  simp only [opA, intsA, List.map_nil] at happ
  simp only [st12, hlen]
  cases ag
  all_goals
    simp only [cellC] at happ ⊢
    rcases ht with rfl | ⟨a0, rfl⟩
    all_goals
      simp only [go_sem, Nat.reduceEqDiff, Int.reduceBEq, show (3 : Int) = 3 from rfl, hL, hr, hbl, happ, hno, Nat.reduceAdd, Nat.reduceLeDiff, Nat.reduceMul, Nat.reducePow, Nat.reduceLT, show ((0 : Nat) < 1) = True from by decide, show ((0 : Nat) < 2) = True from by decide, show ((3 : Nat) = 0) = False from by decide]

theorem node_call {k : Int} {s : List UInt8} {l : List NodeT} (ih : ∀ x ∈ l, NodeOk x) (hz : lazyB s = false) : NodeOk (.mk 4 s l) := by
  refine node_of fun G B b hG hb hb1 hb2 => ?_
  rw [tsz] at hb1 hb2
  have hL := nodesA_len l
  have hlim := len_tszs l
  have hf := fun L G => refFind_call s L G
  have hz' : (findF s).1.2.2.1 = false := hz
  simp only [infA, hz'] at hf
  have hc : comp (.mk 4 s l) B = ((comps l B).1 ++ [⟨5, l.length, s, []⟩], (comps l B).2) := by rw [comp, if_neg (by first | decide | assumption), if_neg (by first | decide | omega | (simp; assumption) | (simp_all))]; first | rfl | simp [lastOp, *]
  rw [hc]
  dsimp only
  rw [← appB_app]
  suffices hh : ∃ G1 : Hp, St12 G1 (appB b (comps l B).1 (comps l B).2) ∧ ∀ G' : Hp, (∀ g rows ag toks es t es' a toks', G1 = st12 g rows ag toks → rows[b]? = some (AV.sl es t) → ((t = .full) ∨ ∃ a, t = .own false a) → b < rows.length →
      (∀ (sl : Option Nat) (L : Hp), appendA Try.prog ann 43 138 44 sl (.sl es t) [opA ⟨5, l.length, s, []⟩] L (.row g rows :: .row 0 [cellC ag (.hs false 0 g 0 rows.length)] :: toks) = some (.sl es' (.own false a), L, .row g rows :: .row 0 [cellC ag (.hs false 0 g 0 rows.length)] :: toks')) →
      refss (fun loc _ => !loc) es' = true → G' = st12 g (rows.set b (.sl es' (.own false a))) ag toks' →
      ev Try.prog ann 43 [.ptr false 1 0 0 0, .int .i64 b, nodeA (.mk 4 s l)] G = some (.val (.tup []), G')) by
    obtain ⟨G1, hst1, hh⟩ := hh
    have hcl := comps_len l B
    have hle := comps_le l B
    have hab := opsum_appB (comps l B).2 b (comps l B).1
    obtain ⟨g, rows, ag, toks, rfl, hne, hR⟩ := hst1
    have hbl0 : b < (appB b (comps l B).1 (comps l B).2).length := by rw [appB_len]; omega
    obtain ⟨es, t, es', a, toks', hr, ht, happ, hR', hno⟩ := app12 (g := g) (ag := ag) hR hbl0 ⟨5, l.length, s, []⟩ (by omega)
    exact ⟨_, ⟨_, _, _, _, rfl, ne_of_len (by rw [appB_len, appB_len]; omega), hR'⟩, hh _ g rows ag toks es t es' a toks' rfl hr ht (by rw [hR.1, appB_len]; omega) (fun sl L => happ _ 138 sl L rfl rfl) hno rfl⟩
  simp only [nodeA]
  have hstep := fun G' => fun_some (P := Try.prog) (A := ann) Try.func43 rfl rfl (args := [.ptr false 1 0 0 0, .int .i64 b, .agg [.int .i64 4, .str s, .sl (nodesA l) .no]]) (G := G')
  simp only [hstep]
  simp only [go_sem, Nat.reduceEqDiff, Int.reduceBEq, hf, Nat.reduceAdd, Nat.reduceLeDiff, nodesA_len, show ((3 : Nat) = 0) = False from by decide, show ((4 : Nat) = 0) = False from by decide]
  generalize hw : loopW _ _ _ _ _ _ = w
  obtain ⟨ou, rfl, G1, rfl, hst⟩ : ∃ ou, w = some ou ∧ ∃ G1 : Hp, ou = (.exit 1, [(0, .ptr false 1 0 0 0), (1, .int .i64 b), (5, .ptr true 0 0 0 0)], [.row 0 [.agg [.int .i64 4, .str s, .sl (nodesA l) .no]], .row 0 [.agg [.int .i64 (findF s).1.1, .int .i64 (findF s).1.2.1, .bool false, .bool (findF s).1.2.2.2]]], G1) ∧ St12 G1 (appB b (comps l B).1 (comps l B).2) := by
    rw [← hw]
    clear hw
    refine loop_ex (σ := Nat × Hp × List OpT × CodeT) (fun q => [(0, .ptr false 1 0 0 0), (1, .int .i64 b), (5, .ptr true 0 0 0 0), (8, .int .i64 q.1)]) (fun _ => [.row 0 [.agg [.int .i64 4, .str s, .sl (nodesA l) .no]], .row 0 [.agg [.int .i64 (findF s).1.1, .int .i64 (findF s).1.2.1, .bool false, .bool (findF s).1.2.2.2]]]) (fun q => q.2.1)
      (fun q => q.1 ≤ l.length ∧ St12 q.2.1 (appB b q.2.2.1 q.2.2.2) ∧ b < q.2.2.2.length ∧ q.2.2.2.length + tszs (l.drop q.1) ≤ 2 ^ 30 ∧ opsum q.2.2.2 + q.2.2.1.length + tszs (l.drop q.1) ≤ 2 ^ 30 ∧ comps l B = (q.2.2.1 ++ (comps (l.drop q.1) q.2.2.2).1, (comps (l.drop q.1) q.2.2.2).2)) (fun q => l.length - q.1) _ ?_ (0, G, [], B)
      ⟨Nat.zero_le _, by
        have : appB b [] B = B := List.ext_getElem? fun j => by rw [appB_get]; split <;> simp
        simp only [this]; exact hG, hb, by simp only [List.drop_zero]; omega, by simp only [List.drop_zero, List.length_nil]; omega, by simp⟩
    rintro ⟨i, G1, out, C⟩ ⟨q1, q2, q3, q4, q5, q6⟩
    simp only at q1 q2 q3 q4 q5 q6
    have hw : IntKind.i64.wrap ((i : Int) + 1) = ((i + 1 : Nat) : Int) := by rw [wrap_in] <;> omega
    by_cases hi : i < l.length
    · obtain ⟨x, hx⟩ : ∃ x, l[i]? = some x := ⟨_, List.getElem?_eq_getElem hi⟩
      have hx' : (nodesA l)[i]? = some (nodeA x) := by rw [nodesA_get, hx]; rfl
      have htd := tszs_drop hx
      rw [comps_drop hx] at q6
      have hab := opsum_appB C b out
      obtain ⟨G2, c1, c2⟩ := ih x (List.mem_of_getElem? hx) G1 _ b q2 (by rw [appB_len]; exact q3) (by rw [appB_len]; omega) (by omega)
      rw [comp_mod x C b out q3, appB_app] at c2
      have cb := comp_blk x C
      have cl := comp_len x C
      have ce := comp_le x C
      obtain ⟨kx, sx, lx⟩ := x
      simp only [nodeA] at hx' c1
      refine ⟨_, by simp only [go_sem, Nat.reduceEqDiff, hi, hL, hx', hw, c1, Nat.reduceAdd, Nat.reduceLeDiff] <;> rfl, ?_⟩
      exact .inl ⟨(i + 1, G2, out ++ (comp (.mk kx sx lx) C).1, (comp (.mk kx sx lx) C).2), ⟨by simp only; omega, c2, by simp only; omega, by simp only; omega, by simp only [List.length_append]; omega, by simp only; rw [List.append_assoc]; exact q6⟩, by simp only; omega, rfl⟩
    · have e : l.drop i = [] := List.drop_eq_nil_of_le (by omega)
      rw [e, comps] at q6
      simp only [List.append_nil] at q6
      refine ⟨_, by simp only [go_sem, Nat.reduceEqDiff, hi, hL] <;> rfl, .inr ⟨_, rfl, G1, rfl, by rw [q6]; exact q2⟩⟩
  refine ⟨G1, hst, fun G' g rows ag toks es t es' a toks' hG1 hr ht hbl happ hno hG' => ?_⟩
  subst hG1 hG'
  have hlen : (rows.set b (AV.sl es' (.own false a))).length = rows.length := by simp
  simp only [opA, intsA, List.map_nil] at happ
  simp only [st12, hlen]
  cases ag
  all_goals
    simp only [cellC] at happ ⊢
    rcases ht with rfl | ⟨a0, rfl⟩
    all_goals
      simp only [go_sem, Nat.reduceEqDiff, Int.reduceBEq, hf, hL, hr, hbl, happ, hno, Nat.reduceAdd, Nat.reduceLeDiff, Nat.reduceMul, Nat.reducePow, Nat.reduceLT, show ((0 : Nat) < 1) = True from by decide, show ((0 : Nat) < 2) = True from by decide, show ((3 : Nat) = 0) = False from by decide]

theorem node_other {k : Int} {s : List UInt8} {l : List NodeT} (ih : ∀ x ∈ l, NodeOk x) (h1 : k ≠ 1) (h2 : k ≠ 2) (h3 : k ≠ 3) (h4 : k ≠ 4) : NodeOk (.mk k s l) := by
  refine node_of fun G B b hG hb hb1 hb2 => ?_
  rw [tsz] at hb1 hb2
  have hL := nodesA_len l
  have hlim := len_tszs l
  have e1 : (k == 1) = false := by simpa using h1
  have e2 : (k == 2) = false := by simpa using h2
  have e3 : (k == 3) = false := by simpa using h3
  have e4 : (k == 4) = false := by simpa using h4
  have hc : comp (.mk k s l) B = ((comps l B).1 ++ [⟨4, l.length, [], []⟩], (comps l B).2) := by rw [comp, if_neg (by first | decide | assumption), if_neg (by first | decide | omega | (simp; assumption) | (simp_all))]; first | rfl | simp [lastOp, *]
  rw [hc]
  dsimp only
  rw [← appB_app]
  suffices hh : ∃ G1 : Hp, St12 G1 (appB b (comps l B).1 (comps l B).2) ∧ ∀ G' : Hp, (∀ g rows ag toks es t es' a toks', G1 = st12 g rows ag toks → rows[b]? = some (AV.sl es t) → ((t = .full) ∨ ∃ a, t = .own false a) → b < rows.length →
      (∀ (sl : Option Nat) (L : Hp), appendA Try.prog ann 43 79 44 sl (.sl es t) [opA ⟨4, l.length, [], []⟩] L (.row g rows :: .row 0 [cellC ag (.hs false 0 g 0 rows.length)] :: toks) = some (.sl es' (.own false a), L, .row g rows :: .row 0 [cellC ag (.hs false 0 g 0 rows.length)] :: toks')) →
      refss (fun loc _ => !loc) es' = true → G' = st12 g (rows.set b (.sl es' (.own false a))) ag toks' →
      ev Try.prog ann 43 [.ptr false 1 0 0 0, .int .i64 b, nodeA (.mk k s l)] G = some (.val (.tup []), G')) by
    obtain ⟨G1, hst1, hh⟩ := hh
    have hcl := comps_len l B
    have hle := comps_le l B
    have hab := opsum_appB (comps l B).2 b (comps l B).1
    obtain ⟨g, rows, ag, toks, rfl, hne, hR⟩ := hst1
    have hbl0 : b < (appB b (comps l B).1 (comps l B).2).length := by rw [appB_len]; omega
    obtain ⟨es, t, es', a, toks', hr, ht, happ, hR', hno⟩ := app12 (g := g) (ag := ag) hR hbl0 ⟨4, l.length, [], []⟩ (by omega)
    exact ⟨_, ⟨_, _, _, _, rfl, ne_of_len (by rw [appB_len, appB_len]; omega), hR'⟩, hh _ g rows ag toks es t es' a toks' rfl hr ht (by rw [hR.1, appB_len]; omega) (fun sl L => happ _ 79 sl L rfl rfl) hno rfl⟩
  simp only [nodeA]
  have hstep := fun G' => fun_some (P := Try.prog) (A := ann) Try.func43 rfl rfl (args := [.ptr false 1 0 0 0, .int .i64 b, .agg [.int .i64 k, .str s, .sl (nodesA l) .no]]) (G := G')
  simp only [hstep]
  simp only [go_sem, Nat.reduceEqDiff, Int.reduceBEq, e1, e2, e3, e4, Nat.reduceAdd, Nat.reduceLeDiff, nodesA_len, show ((3 : Nat) = 0) = False from by decide, show ((4 : Nat) = 0) = False from by decide]
  generalize hw : loopW _ _ _ _ _ _ = w
  obtain ⟨ou, rfl, G1, rfl, hst⟩ : ∃ ou, w = some ou ∧ ∃ G1 : Hp, ou = (.exit 1, [(0, .ptr false 1 0 0 0), (1, .int .i64 b), (5, .ptr true 0 0 0 0)], [.row 0 [.agg [.int .i64 k, .str s, .sl (nodesA l) .no]]], G1) ∧ St12 G1 (appB b (comps l B).1 (comps l B).2) := by
    rw [← hw]
    clear hw
    refine loop_ex (σ := Nat × Hp × List OpT × CodeT) (fun q => [(0, .ptr false 1 0 0 0), (1, .int .i64 b), (5, .ptr true 0 0 0 0), (8, .int .i64 q.1)]) (fun _ => [.row 0 [.agg [.int .i64 k, .str s, .sl (nodesA l) .no]]]) (fun q => q.2.1)
      (fun q => q.1 ≤ l.length ∧ St12 q.2.1 (appB b q.2.2.1 q.2.2.2) ∧ b < q.2.2.2.length ∧ q.2.2.2.length + tszs (l.drop q.1) ≤ 2 ^ 30 ∧ opsum q.2.2.2 + q.2.2.1.length + tszs (l.drop q.1) ≤ 2 ^ 30 ∧ comps l B = (q.2.2.1 ++ (comps (l.drop q.1) q.2.2.2).1, (comps (l.drop q.1) q.2.2.2).2)) (fun q => l.length - q.1) _ ?_ (0, G, [], B)
      ⟨Nat.zero_le _, by
        have : appB b [] B = B := List.ext_getElem? fun j => by rw [appB_get]; split <;> simp
        simp only [this]; exact hG, hb, by simp only [List.drop_zero]; omega, by simp only [List.drop_zero, List.length_nil]; omega, by simp⟩
    rintro ⟨i, G1, out, C⟩ ⟨q1, q2, q3, q4, q5, q6⟩
    simp only at q1 q2 q3 q4 q5 q6
    have hw : IntKind.i64.wrap ((i : Int) + 1) = ((i + 1 : Nat) : Int) := by rw [wrap_in] <;> omega
    by_cases hi : i < l.length
    · obtain ⟨x, hx⟩ : ∃ x, l[i]? = some x := ⟨_, List.getElem?_eq_getElem hi⟩
      have hx' : (nodesA l)[i]? = some (nodeA x) := by rw [nodesA_get, hx]; rfl
      have htd := tszs_drop hx
      rw [comps_drop hx] at q6
      have hab := opsum_appB C b out
      obtain ⟨G2, c1, c2⟩ := ih x (List.mem_of_getElem? hx) G1 _ b q2 (by rw [appB_len]; exact q3) (by rw [appB_len]; omega) (by omega)
      rw [comp_mod x C b out q3, appB_app] at c2
      have cb := comp_blk x C
      have cl := comp_len x C
      have ce := comp_le x C
      obtain ⟨kx, sx, lx⟩ := x
      simp only [nodeA] at hx' c1
      refine ⟨_, by simp only [go_sem, Nat.reduceEqDiff, hi, hL, hx', hw, c1, Nat.reduceAdd, Nat.reduceLeDiff] <;> rfl, ?_⟩
      exact .inl ⟨(i + 1, G2, out ++ (comp (.mk kx sx lx) C).1, (comp (.mk kx sx lx) C).2), ⟨by simp only; omega, c2, by simp only; omega, by simp only; omega, by simp only [List.length_append]; omega, by simp only; rw [List.append_assoc]; exact q6⟩, by simp only; omega, rfl⟩
    · have e : l.drop i = [] := List.drop_eq_nil_of_le (by omega)
      rw [e, comps] at q6
      simp only [List.append_nil] at q6
      refine ⟨_, by simp only [go_sem, Nat.reduceEqDiff, hi, hL] <;> rfl, .inr ⟨_, rfl, G1, rfl, by rw [q6]; exact q2⟩⟩
  refine ⟨G1, hst, fun G' g rows ag toks es t es' a toks' hG1 hr ht hbl happ hno hG' => ?_⟩
  subst hG1 hG'
  have hlen : (rows.set b (AV.sl es' (.own false a))).length = rows.length := by simp
  simp only [opA, intsA, List.map_nil] at happ
  simp only [st12, hlen]
  cases ag
  all_goals
    simp only [cellC] at happ ⊢
    rcases ht with rfl | ⟨a0, rfl⟩
    all_goals
      simp only [go_sem, Nat.reduceEqDiff, Int.reduceBEq, e1, e2, e3, e4, hL, hr, hbl, happ, hno, Nat.reduceAdd, Nat.reduceLeDiff, Nat.reduceMul, Nat.reducePow, Nat.reduceLT, show ((0 : Nat) < 1) = True from by decide, show ((0 : Nat) < 2) = True from by decide, show ((3 : Nat) = 0) = False from by decide]
end Ev
