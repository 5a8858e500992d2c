/- Names below a node, both ways. -/
import Derived.Test.YtecflllnnbiheaaR16
import Derived.Test.YtecflllnnbiheaaEvR
set_option maxHeartbeats 4000000
set_option linter.unusedVariables false
set_option linter.unusedSimpArgs false
namespace Ev
open Go Go.Proofs
set_option maxRecDepth 10000
/-- a name that a node bears -/
def headT : Int → List NodeT → List (List UInt8)
  | k, .mk k' s' _ :: _ => if (k = 2 ∨ k = 3) ∧ k' = 1 then [s'] else []
  | _, [] => []
mutual
def namesF : NodeT → List (List UInt8)
  | .mk k _ l => headT k l ++ namesFs l
def namesFs : List NodeT → List (List UInt8)
  | [] => []
  | n :: l => namesF n ++ namesFs l
end
theorem headT_len (k : Int) (l : List NodeT) : (headT k l).length ≤ 1 := by
  unfold headT
  split
  · split <;> simp
  · simp
mutual
theorem namesF_len : ∀ n, (namesF n).length ≤ tsz n
  | .mk k _ l => by have := namesFs_len l; have := headT_len k l; rw [namesF, tsz, List.length_append]; omega
theorem namesFs_len : ∀ l, (namesFs l).length ≤ tszs l
  | [] => Nat.le_refl _
  | n :: l => by have := namesF_len n; have := namesFs_len l; rw [namesFs, tszs, List.length_append]; omega
end
theorem namesFs_app : ∀ a b, namesFs (a ++ b) = namesFs a ++ namesFs b
  | [], b => rfl
  | n :: a, b => by rw [List.cons_append, namesFs, namesFs, namesFs_app a b, List.append_assoc]
theorem namesFs_take {l : List NodeT} {i : Nat} {x : NodeT} (h : l[i]? = some x) : namesFs (l.take (i + 1)) = namesFs (l.take i) ++ namesF x := by
  have hi := (List.getElem?_eq_some_iff.1 h)
  rw [List.take_succ_eq_append_getElem hi.1, namesFs_app, hi.2]
  rw [namesFs, namesFs, List.append_nil]
/-- more texts -/
theorem gather_call {G : Hp} {lo : Nat} {v u : AV} {l ms : List (List UInt8)} (h : RowList G lo v l) (hlo : lo ≤ G.length) (hb : (l.length + ms.length) * 16 ≤ mostBytes) (hu : u.noL = true) (hu' : (handA false u).noL = true) (he : ∀ L, elemsOf L G (handA false u) = some (ms.map .str)) :
    ∃ v' G', (∀ L, callA (cfg Try.prog ann) 67 [v, u] L G = some (.val v', L, G')) ∧ RowList G' lo v' (l ++ ms) ∧ LowKept lo G G' := by
  obtain ⟨v', G', c1, c2, c3⟩ := app_rowList (P := Try.prog) (A := ann) (f := 67) (d := 7) (sl := none) elKstr tz9 rfl rfl h hlo (by rw [ty9]; exact hb)
  refine ⟨v', G', fun L => ?_, c2, c3⟩
  obtain ⟨n1, n2⟩ := h.noL
  obtain ⟨n3, n4⟩ := c2.noL
  refine call_sees rfl rfl ?_ n3 ?_
  · simp only [handAs, n2, noLs, refss]
    have e1 : v.refs (fun loc _ => !loc) = true := n1
    have e2 : (handA false u).refs (fun loc _ => !loc) = true := hu'
    rw [e1, e2]; rfl
  · simp only [handAs, n2]
    generalize handA false u = u' at hu' he
    rw [fun_some Try.func67 rfl rfl]
    have hle : leave false ([] : Hp) G' v' = v' := by
      rcases c2 with ⟨_, rfl⟩ | ⟨_, b, g, _, rfl, _⟩ <;> rfl
    have he' := he []
    simp only [go_sem] at he'
    simp only [go_sem, Nat.reduceEqDiff, Nat.reduceAdd, Nat.reduceLeDiff, he', c1, hle, show ((3 : Nat) = 0) = False from by decide]
/-- a node's names, in the heap that callees see -/
def NamesOk (n : NodeT) : Prop := tsz n ≤ 2 ^ 30 → ∀ G, ∃ v G', (∀ L, callA (cfg Try.prog ann) 47 [nodeA n] L G = some (.val v, L, G')) ∧ RowList G' G.length v (namesF n) ∧ LowKept G.length G G'
theorem head7 (k : Int) (l : List NodeT) : (headT k l = [] ∧ (k == 2) = false ∧ (k == 3) = false) ∨ (∃ b : Bool, headT k l = [] ∧ l = [] ∧ (k == 2) = b ∧ (k == 3) = !b) ∨
    (∃ (b : Bool) (k' : Int) (s' : List UInt8) (l0 : List NodeT), headT k l = [] ∧ l[0]? = some (.mk k' s' l0) ∧ (k' == 1) = false ∧ (k == 2) = b ∧ (k == 3) = !b) ∨
    (∃ (b : Bool) (s' : List UInt8) (l0 : List NodeT), headT k l = [s'] ∧ l[0]? = some (.mk 1 s' l0) ∧ (k == 2) = b ∧ (k == 3) = !b) := by
  by_cases h2 : k = 2 ∨ k = 3
  · have hb : ∃ b : Bool, (k == 2) = b ∧ (k == 3) = !b := by rcases h2 with rfl | rfl; exact ⟨true, rfl, rfl⟩; exact ⟨false, rfl, rfl⟩
    obtain ⟨b, hb2, hb3⟩ := hb
    match l with
    | [] => exact .inr (.inl ⟨b, rfl, rfl, hb2, hb3⟩)
    | .mk k' s' l0 :: l' =>
      by_cases h1 : k' = 1
      · subst h1; exact .inr (.inr (.inr ⟨b, s', l0, if_pos ⟨h2, rfl⟩, rfl, hb2, hb3⟩))
      · exact .inr (.inr (.inl ⟨b, k', s', l0, if_neg (fun h => h1 h.2), rfl, by simpa using h1, hb2, hb3⟩))
  · have e : headT k l = [] := by
      unfold headT
      split
      · exact if_neg fun h => h2 h.1
      · rfl
    exact .inl ⟨e, by simpa using fun h => h2 (.inl h), by simpa using fun h => h2 (.inr h)⟩
theorem bel_noL {v : AV} {k : Nat} (h : v.noL = true) : v.refs (fun loc b => !loc || decide (b < k)) = true := refs_mono (fun l b h => by rw [h]; rfl) v h
theorem trim_back16 {e : Env} {r0 r1 : Blk} (h : bels 1 (valsE e) = true) (h0 : Blk.bel 1 r0 = true) : trim 1 e [r0, r1] = [r0] := by
  unfold trim
  rw [if_neg (by simp), h]
  simp [h0]
theorem names_step (k : Int) (s : List UInt8) (l : List NodeT) (ih : ∀ x ∈ l, NamesOk x) : NamesOk (.mk k s l) := by
  intro hb G0
  rw [tsz] at hb
  have hL := nodesA_len l
  have hlim := len_tszs l
  suffices hh : ∃ v G', ev Try.prog ann 47 [nodeA (.mk k s l)] G0 = some (.val v, G') ∧ RowList G' G0.length v (namesF (.mk k s l)) ∧ LowKept G0.length G0 G' by
    obtain ⟨v, G', h, h1, h2⟩ := hh
    refine ⟨v, G', fun L => call_sees rfl rfl ?_ h1.noL.1 ?_, h1, h2⟩
    · simp only [nodeA, handAs, handA, noLs, refss, AV.refs, Tok.refs, Tok.drop, if_true, refs_nodes, Bool.and_self, Bool.false_eq_true, if_false]
    · simp only [nodeA, handAs, handA, Tok.drop, Bool.false_eq_true, if_false] at h ⊢
      exact h
  rw [fun_some Try.func47 rfl rfl]
  simp only [nodeA]
  have p1 : ((0 : Int) < 0) = False := by simp
  have p2 : Int.toNat 0 = 0 := rfl
  have p3 : ((1 : Nat) ≤ 2 ^ 20) = True := by decide
  rcases head7 k l with ⟨hh, h2, h3⟩ | ⟨b, hh, hl0, h2, h3⟩ | ⟨b, k', s', l0, hh, hx0, h1, h2, h3⟩ | ⟨b, s', l0, hh, hx0, h2, h3⟩
  · have C2 : RowList G0 G0.length (.sl [] .full) (headT k l) := by rw [hh]; exact .inl ⟨rfl, rfl⟩
    have C3 := LowKept.refl G0.length G0
    simp only [go_sem, Nat.reduceEqDiff, Nat.reduceAdd, Nat.reduceLeDiff, Nat.reduceLT, h2, h3, p1, Bool.not_true, Bool.not_false, decide_true, decide_false, hL, show ((3 : Nat) = 0) = False from by decide]
    generalize hw : loopW _ _ _ _ _ _ = w
    obtain ⟨ou, rfl, v', G', rfl, r1, r2⟩ : ∃ ou, w = some ou ∧ ∃ v' G', ou = (.exit 0, [(3, v')], [.row 0 [.agg [.int .i64 (k), .str s, .sl (nodesA l) .no]]], G') ∧ RowList G' G0.length v' (headT k l ++ namesFs l) ∧ LowKept G0.length G0 G' := by
      rw [← hw]
      clear hw
      refine loop_ex (σ := Nat × AV × Hp) (fun q => [(3, q.2.1), (37, .sl (nodesA l) .no), (38, .int .i64 ((l).length : Int)), (39, .int .i64 q.1)]) (fun _ => [.row 0 [.agg [.int .i64 (k), .str s, .sl (nodesA l) .no]]]) (fun q => q.2.2)
        (fun q => q.1 ≤ (l).length ∧ RowList q.2.2 G0.length q.2.1 (headT k l ++ namesFs ((l).take q.1)) ∧ LowKept G0.length G0 q.2.2) (fun q => (l).length - q.1) _ ?_ (0, _, _) ⟨Nat.zero_le _, by simpa [namesFs] using C2, C3⟩
      rintro ⟨i, v, G⟩ ⟨q1, q2, q3⟩
      simp only at q1 q2 q3
      have hw : IntKind.i64.wrap ((i : Int) + 1) = ((i + 1 : Nat) : Int) := by rw [wrap_in] <;> omega
      by_cases hi : i < (l).length
      · obtain ⟨x, hx⟩ : ∃ x, (l)[i]? = some x := ⟨_, List.getElem?_eq_getElem hi⟩
        have hx' : (nodesA l)[i]? = some (nodeA x) := by rw [nodesA_get, hx]; rfl
        have htx := tszs_get hx
        obtain ⟨u, G2, d1, d2, d3⟩ := ih x (List.mem_of_getElem? hx) (by omega) G
        have q2' := q2.kept d3 (Nat.le_refl _)
        have hlen1 := namesF_len x
        have hlen2 : (headT k l ++ namesFs ((l).take i)).length ≤ 1 + tszs ((l).take i) := by
          rw [List.length_append]
          have := headT_len k (l)
          have := namesFs_len ((l).take i)
          omega
        obtain ⟨n1, n2⟩ := d2.noL
        obtain ⟨v2, G3, e1, e2, e3⟩ := gather_call (G := G2) (lo := G0.length) (v := v) (u := u) (ms := namesF x) q2' (Nat.le_trans q3.1 d3.1) (by simp only [mostBytes]; omega) n1 (by rw [n2]; exact n1) (fun L => by rw [n2]; exact d2.elems)
        rw [List.append_assoc, ← namesFs_take hx] at e2
        have htb : ∀ y : Blk, trim 1 [(3, v2), (37, .sl (nodesA l) .no), (38, .int .i64 ((l).length : Int)), (39, .int .i64 ((i + 1 : Nat) : Int))] [.row 0 [.agg [.int .i64 (k), .str s, .sl (nodesA l) .no]], y] = [.row 0 [.agg [.int .i64 (k), .str s, .sl (nodesA l) .no]]] := fun y =>
          trim_back16 (by simp only [bels, valsE, List.map_cons, List.map_nil, refss, AV.refs, Tok.refs, refs_nodes, bel_noL e2.noL.1, Bool.and_self]) (by simp only [Blk.bel, bels, refss, AV.refs, Tok.refs, refs_nodes, Bool.and_self])
        clear hlen1 hlen2 htx
        obtain ⟨kx, sx, lx⟩ := x
        simp only [nodeA] at hx' d1
        refine ⟨_, by simp only [go_sem, Nat.reduceEqDiff, hi, hx', hw, d1, e1, htb, Nat.reduceAdd, Nat.reduceLeDiff, decide_true, show ((3 : Nat) = 0) = False from by decide] <;> rfl, ?_⟩
        exact .inl ⟨(i + 1, v2, G3), ⟨by simp only; omega, e2, q3.trans ((d3.le q3.1).trans e3)⟩, by simp only; omega, rfl⟩
      · have e : (l).take i = l := List.take_of_length_le (by omega)
        rw [e] at q2
        refine ⟨_, by simp only [go_sem, Nat.reduceEqDiff, hi, decide_false] <;> rfl, .inr ⟨_, rfl, v, G, rfl, q2, q3⟩⟩
    have hle : leave false [Blk.row 0 [.agg [.int .i64 (k), .str s, .sl (nodesA l) .no]]] G' v' = v' := by
      rcases r1 with ⟨_, rfl⟩ | ⟨_, b, g, _, rfl, _⟩ <;> rfl
    refine ⟨v', G', ?_, by rw [namesF]; exact r1, r2⟩
    simp only [go_sem, Nat.reduceEqDiff, hle]
  · have C2 : RowList G0 G0.length (.sl [] .full) (headT k l) := by rw [hh]; exact .inl ⟨rfl, rfl⟩
    have C3 := LowKept.refl G0.length G0
    have p0 : ((0 : Int) < ((l.length : Nat) : Int)) = False := by rw [hl0]; simp
    cases b
    all_goals
      simp only [go_sem, Nat.reduceEqDiff, Nat.reduceAdd, Nat.reduceLeDiff, Nat.reduceLT, h2, h3, p0, p1, p2, p3, Bool.not_true, Bool.not_false, decide_true, decide_false, hL, show ((3 : Nat) = 0) = False from by decide]
      generalize hw : loopW _ _ _ _ _ _ = w
      obtain ⟨ou, rfl, v', G', rfl, r1, r2⟩ : ∃ ou, w = some ou ∧ ∃ v' G', ou = (.exit 0, [(3, v')], [.row 0 [.agg [.int .i64 (k), .str s, .sl (nodesA l) .no]]], G') ∧ RowList G' G0.length v' (headT k l ++ namesFs l) ∧ LowKept G0.length G0 G' := by
        rw [← hw]
        clear hw
        refine loop_ex (σ := Nat × AV × Hp) (fun q => [(3, q.2.1), (37, .sl (nodesA l) .no), (38, .int .i64 ((l).length : Int)), (39, .int .i64 q.1)]) (fun _ => [.row 0 [.agg [.int .i64 (k), .str s, .sl (nodesA l) .no]]]) (fun q => q.2.2)
          (fun q => q.1 ≤ (l).length ∧ RowList q.2.2 G0.length q.2.1 (headT k l ++ namesFs ((l).take q.1)) ∧ LowKept G0.length G0 q.2.2) (fun q => (l).length - q.1) _ ?_ (0, _, _) ⟨Nat.zero_le _, by simpa [namesFs] using C2, C3⟩
        rintro ⟨i, v, G⟩ ⟨q1, q2, q3⟩
        simp only at q1 q2 q3
        have hw : IntKind.i64.wrap ((i : Int) + 1) = ((i + 1 : Nat) : Int) := by rw [wrap_in] <;> omega
        by_cases hi : i < (l).length
        · obtain ⟨x, hx⟩ : ∃ x, (l)[i]? = some x := ⟨_, List.getElem?_eq_getElem hi⟩
          have hx' : (nodesA l)[i]? = some (nodeA x) := by rw [nodesA_get, hx]; rfl
          have htx := tszs_get hx
          obtain ⟨u, G2, d1, d2, d3⟩ := ih x (List.mem_of_getElem? hx) (by omega) G
          have q2' := q2.kept d3 (Nat.le_refl _)
          have hlen1 := namesF_len x
          have hlen2 : (headT k l ++ namesFs ((l).take i)).length ≤ 1 + tszs ((l).take i) := by
            rw [List.length_append]
            have := headT_len k (l)
            have := namesFs_len ((l).take i)
            omega
          obtain ⟨n1, n2⟩ := d2.noL
          obtain ⟨v2, G3, e1, e2, e3⟩ := gather_call (G := G2) (lo := G0.length) (v := v) (u := u) (ms := namesF x) q2' (Nat.le_trans q3.1 d3.1) (by simp only [mostBytes]; omega) n1 (by rw [n2]; exact n1) (fun L => by rw [n2]; exact d2.elems)
          rw [List.append_assoc, ← namesFs_take hx] at e2
          have htb : ∀ y : Blk, trim 1 [(3, v2), (37, .sl (nodesA l) .no), (38, .int .i64 ((l).length : Int)), (39, .int .i64 ((i + 1 : Nat) : Int))] [.row 0 [.agg [.int .i64 (k), .str s, .sl (nodesA l) .no]], y] = [.row 0 [.agg [.int .i64 (k), .str s, .sl (nodesA l) .no]]] := fun y =>
            trim_back16 (by simp only [bels, valsE, List.map_cons, List.map_nil, refss, AV.refs, Tok.refs, refs_nodes, bel_noL e2.noL.1, Bool.and_self]) (by simp only [Blk.bel, bels, refss, AV.refs, Tok.refs, refs_nodes, Bool.and_self])
          clear hlen1 hlen2 htx
          obtain ⟨kx, sx, lx⟩ := x
          simp only [nodeA] at hx' d1
          refine ⟨_, by simp only [go_sem, Nat.reduceEqDiff, hi, hx', hw, d1, e1, htb, Nat.reduceAdd, Nat.reduceLeDiff, decide_true, show ((3 : Nat) = 0) = False from by decide] <;> rfl, ?_⟩
          exact .inl ⟨(i + 1, v2, G3), ⟨by simp only; omega, e2, q3.trans ((d3.le q3.1).trans e3)⟩, by simp only; omega, rfl⟩
        · have e : (l).take i = l := List.take_of_length_le (by omega)
          rw [e] at q2
          refine ⟨_, by simp only [go_sem, Nat.reduceEqDiff, hi, decide_false] <;> rfl, .inr ⟨_, rfl, v, G, rfl, q2, q3⟩⟩
      have hle : leave false [Blk.row 0 [.agg [.int .i64 (k), .str s, .sl (nodesA l) .no]]] G' v' = v' := by
        rcases r1 with ⟨_, rfl⟩ | ⟨_, b, g, _, rfl, _⟩ <;> rfl
      refine ⟨v', G', ?_, by rw [namesF]; exact r1, r2⟩
      simp only [go_sem, Nat.reduceEqDiff, hle]
  · have C2 : RowList G0 G0.length (.sl [] .full) (headT k l) := by rw [hh]; exact .inl ⟨rfl, rfl⟩
    have C3 := LowKept.refl G0.length G0
    have hx0' : (nodesA l)[0]? = some (.agg [.int .i64 k', .str s', .sl (nodesA l0) .no]) := by rw [nodesA_get, hx0, Option.map_some, nodeA]
    have p0 : ((0 : Int) < ((l.length : Nat) : Int)) = True := eq_true (by have := (List.getElem?_eq_some_iff.1 hx0).1; omega)
    cases b
    all_goals
      simp only [go_sem, Nat.reduceEqDiff, Nat.reduceAdd, Nat.reduceLeDiff, Nat.reduceLT, h2, h3, p0, p1, p2, p3, hx0', h1, Bool.not_true, Bool.not_false, decide_true, decide_false, hL, show ((3 : Nat) = 0) = False from by decide]
      generalize hw : loopW _ _ _ _ _ _ = w
      obtain ⟨ou, rfl, v', G', rfl, r1, r2⟩ : ∃ ou, w = some ou ∧ ∃ v' G', ou = (.exit 0, [(3, v')], [.row 0 [.agg [.int .i64 (k), .str s, .sl (nodesA l) .no]]], G') ∧ RowList G' G0.length v' (headT k l ++ namesFs l) ∧ LowKept G0.length G0 G' := by
        rw [← hw]
        clear hw
        refine loop_ex (σ := Nat × AV × Hp) (fun q => [(3, q.2.1), (37, .sl (nodesA l) .no), (38, .int .i64 ((l).length : Int)), (39, .int .i64 q.1)]) (fun _ => [.row 0 [.agg [.int .i64 (k), .str s, .sl (nodesA l) .no]]]) (fun q => q.2.2)
          (fun q => q.1 ≤ (l).length ∧ RowList q.2.2 G0.length q.2.1 (headT k l ++ namesFs ((l).take q.1)) ∧ LowKept G0.length G0 q.2.2) (fun q => (l).length - q.1) _ ?_ (0, _, _) ⟨Nat.zero_le _, by simpa [namesFs] using C2, C3⟩
        rintro ⟨i, v, G⟩ ⟨q1, q2, q3⟩
        simp only at q1 q2 q3
        have hw : IntKind.i64.wrap ((i : Int) + 1) = ((i + 1 : Nat) : Int) := by rw [wrap_in] <;> omega
        by_cases hi : i < (l).length
        · obtain ⟨x, hx⟩ : ∃ x, (l)[i]? = some x := ⟨_, List.getElem?_eq_getElem hi⟩
          have hx' : (nodesA l)[i]? = some (nodeA x) := by rw [nodesA_get, hx]; rfl
          have htx := tszs_get hx
          obtain ⟨u, G2, d1, d2, d3⟩ := ih x (List.mem_of_getElem? hx) (by omega) G
          have q2' := q2.kept d3 (Nat.le_refl _)
          have hlen1 := namesF_len x
          have hlen2 : (headT k l ++ namesFs ((l).take i)).length ≤ 1 + tszs ((l).take i) := by
            rw [List.length_append]
            have := headT_len k (l)
            have := namesFs_len ((l).take i)
            omega
          obtain ⟨n1, n2⟩ := d2.noL
          obtain ⟨v2, G3, e1, e2, e3⟩ := gather_call (G := G2) (lo := G0.length) (v := v) (u := u) (ms := namesF x) q2' (Nat.le_trans q3.1 d3.1) (by simp only [mostBytes]; omega) n1 (by rw [n2]; exact n1) (fun L => by rw [n2]; exact d2.elems)
          rw [List.append_assoc, ← namesFs_take hx] at e2
          have htb : ∀ y : Blk, trim 1 [(3, v2), (37, .sl (nodesA l) .no), (38, .int .i64 ((l).length : Int)), (39, .int .i64 ((i + 1 : Nat) : Int))] [.row 0 [.agg [.int .i64 (k), .str s, .sl (nodesA l) .no]], y] = [.row 0 [.agg [.int .i64 (k), .str s, .sl (nodesA l) .no]]] := fun y =>
            trim_back16 (by simp only [bels, valsE, List.map_cons, List.map_nil, refss, AV.refs, Tok.refs, refs_nodes, bel_noL e2.noL.1, Bool.and_self]) (by simp only [Blk.bel, bels, refss, AV.refs, Tok.refs, refs_nodes, Bool.and_self])
          clear hlen1 hlen2 htx
          obtain ⟨kx, sx, lx⟩ := x
          simp only [nodeA] at hx' d1
          refine ⟨_, by simp only [go_sem, Nat.reduceEqDiff, hi, hx', hw, d1, e1, htb, Nat.reduceAdd, Nat.reduceLeDiff, decide_true, show ((3 : Nat) = 0) = False from by decide] <;> rfl, ?_⟩
          exact .inl ⟨(i + 1, v2, G3), ⟨by simp only; omega, e2, q3.trans ((d3.le q3.1).trans e3)⟩, by simp only; omega, rfl⟩
        · have e : (l).take i = l := List.take_of_length_le (by omega)
          rw [e] at q2
          refine ⟨_, by simp only [go_sem, Nat.reduceEqDiff, hi, decide_false] <;> rfl, .inr ⟨_, rfl, v, G, rfl, q2, q3⟩⟩
      have hle : leave false [Blk.row 0 [.agg [.int .i64 (k), .str s, .sl (nodesA l) .no]]] G' v' = v' := by
        rcases r1 with ⟨_, rfl⟩ | ⟨_, b, g, _, rfl, _⟩ <;> rfl
      refine ⟨v', G', ?_, by rw [namesF]; exact r1, r2⟩
      simp only [go_sem, Nat.reduceEqDiff, hle]
  · obtain ⟨v1, G1, c1, c2, C3⟩ := gather_call (G := G0) (lo := G0.length) (v := .sl [] .full) (u := .sl [.str s'] .full) (l := []) (ms := [s']) (.inl ⟨rfl, rfl⟩) (Nat.le_refl _) (by simp [mostBytes]) rfl rfl (fun L => rfl)
    have C2 : RowList G1 G0.length v1 (headT k l) := by rw [hh]; exact c2
    have hx0' : (nodesA l)[0]? = some (.agg [.int .i64 1, .str s', .sl (nodesA l0) .no]) := by rw [nodesA_get, hx0, Option.map_some, nodeA]
    have p0 : ((0 : Int) < ((l.length : Nat) : Int)) = True := eq_true (by have := (List.getElem?_eq_some_iff.1 hx0).1; omega)
    cases b
    all_goals
      simp only [go_sem, Nat.reduceEqDiff, Nat.reduceAdd, Nat.reduceLeDiff, Nat.reduceLT, h2, h3, p0, p1, p2, p3, hx0', c1, Int.reduceBEq, Bool.not_true, Bool.not_false, decide_true, decide_false, hL, show ((3 : Nat) = 0) = False from by decide]
      generalize hw : loopW _ _ _ _ _ _ = w
      obtain ⟨ou, rfl, v', G', rfl, r1, r2⟩ : ∃ ou, w = some ou ∧ ∃ v' G', ou = (.exit 0, [(3, v')], [.row 0 [.agg [.int .i64 (k), .str s, .sl (nodesA l) .no]]], G') ∧ RowList G' G0.length v' (headT k l ++ namesFs l) ∧ LowKept G0.length G0 G' := by
        rw [← hw]
        clear hw
        refine loop_ex (σ := Nat × AV × Hp) (fun q => [(3, q.2.1), (37, .sl (nodesA l) .no), (38, .int .i64 ((l).length : Int)), (39, .int .i64 q.1)]) (fun _ => [.row 0 [.agg [.int .i64 (k), .str s, .sl (nodesA l) .no]]]) (fun q => q.2.2)
          (fun q => q.1 ≤ (l).length ∧ RowList q.2.2 G0.length q.2.1 (headT k l ++ namesFs ((l).take q.1)) ∧ LowKept G0.length G0 q.2.2) (fun q => (l).length - q.1) _ ?_ (0, _, _) ⟨Nat.zero_le _, by simpa [namesFs] using C2, C3⟩
        rintro ⟨i, v, G⟩ ⟨q1, q2, q3⟩
        simp only at q1 q2 q3
        have hw : IntKind.i64.wrap ((i : Int) + 1) = ((i + 1 : Nat) : Int) := by rw [wrap_in] <;> omega
        by_cases hi : i < (l).length
        · obtain ⟨x, hx⟩ : ∃ x, (l)[i]? = some x := ⟨_, List.getElem?_eq_getElem hi⟩
          have hx' : (nodesA l)[i]? = some (nodeA x) := by rw [nodesA_get, hx]; rfl
          have htx := tszs_get hx
          obtain ⟨u, G2, d1, d2, d3⟩ := ih x (List.mem_of_getElem? hx) (by omega) G
          have q2' := q2.kept d3 (Nat.le_refl _)
          have hlen1 := namesF_len x
          have hlen2 : (headT k l ++ namesFs ((l).take i)).length ≤ 1 + tszs ((l).take i) := by
            rw [List.length_append]
            have := headT_len k (l)
            have := namesFs_len ((l).take i)
            omega
          obtain ⟨n1, n2⟩ := d2.noL
          obtain ⟨v2, G3, e1, e2, e3⟩ := gather_call (G := G2) (lo := G0.length) (v := v) (u := u) (ms := namesF x) q2' (Nat.le_trans q3.1 d3.1) (by simp only [mostBytes]; omega) n1 (by rw [n2]; exact n1) (fun L => by rw [n2]; exact d2.elems)
          rw [List.append_assoc, ← namesFs_take hx] at e2
          have htb : ∀ y : Blk, trim 1 [(3, v2), (37, .sl (nodesA l) .no), (38, .int .i64 ((l).length : Int)), (39, .int .i64 ((i + 1 : Nat) : Int))] [.row 0 [.agg [.int .i64 (k), .str s, .sl (nodesA l) .no]], y] = [.row 0 [.agg [.int .i64 (k), .str s, .sl (nodesA l) .no]]] := fun y =>
            trim_back16 (by simp only [bels, valsE, List.map_cons, List.map_nil, refss, AV.refs, Tok.refs, refs_nodes, bel_noL e2.noL.1, Bool.and_self]) (by simp only [Blk.bel, bels, refss, AV.refs, Tok.refs, refs_nodes, Bool.and_self])
          clear hlen1 hlen2 htx
          obtain ⟨kx, sx, lx⟩ := x
          simp only [nodeA] at hx' d1
          refine ⟨_, by simp only [go_sem, Nat.reduceEqDiff, hi, hx', hw, d1, e1, htb, Nat.reduceAdd, Nat.reduceLeDiff, decide_true, show ((3 : Nat) = 0) = False from by decide] <;> rfl, ?_⟩
          exact .inl ⟨(i + 1, v2, G3), ⟨by simp only; omega, e2, q3.trans ((d3.le q3.1).trans e3)⟩, by simp only; omega, rfl⟩
        · have e : (l).take i = l := List.take_of_length_le (by omega)
          rw [e] at q2
          refine ⟨_, by simp only [go_sem, Nat.reduceEqDiff, hi, decide_false] <;> rfl, .inr ⟨_, rfl, v, G, rfl, q2, q3⟩⟩
      have hle : leave false [Blk.row 0 [.agg [.int .i64 (k), .str s, .sl (nodesA l) .no]]] G' v' = v' := by
        rcases r1 with ⟨_, rfl⟩ | ⟨_, b, g, _, rfl, _⟩ <;> rfl
      refine ⟨v', G', ?_, by rw [namesF]; exact r1, r2⟩
      simp only [go_sem, Nat.reduceEqDiff, hle]
end Ev
