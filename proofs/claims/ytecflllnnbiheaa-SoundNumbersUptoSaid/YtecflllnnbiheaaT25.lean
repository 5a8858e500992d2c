/- Compile, the program's way: lists of nodes. -/
import Derived.Test.YtecflllnnbiheaaT24
import Derived.Test.YtecflllnnbiheaaT15
import Derived.Test.YtecflllnnbiheaaEv17
set_option maxHeartbeats 4000000
set_option linter.unusedVariables false
set_option linter.unusedSimpArgs false
namespace Ev
open Go Go.Proofs
set_option maxRecDepth 10000
mutual
theorem comp_out : ∀ (n : NodeT) (B : CodeT), (comp n B).1.length ≤ tsz n ∧ (comp n B).1 ≠ []
  | .mk k s l, B => by
    rw [comp, tsz]
    split
    · exact ⟨by simp, by simp⟩
    · split
      · exact ⟨by simp, by simp⟩
      · have := comps_out l B
        exact ⟨by simp only [List.length_append, List.length_cons, List.length_nil]; omega, by simp⟩
theorem comps_out : ∀ (l : List NodeT) (B : CodeT), (comps l B).1.length ≤ tszs l
  | [], B => by rw [comps]; simp
  | n :: l, B => by
    rw [comps, tszs]
    have h1 := (comp_out n B).1
    have h2 := comps_out l (comp n B).2
    simp only [List.length_append]; omega
end
mutual
theorem comp_blk : ∀ (n : NodeT) (B : CodeT), (comp n B).2.length + 1 ≤ B.length + tsz n
  | .mk k s l, B => by
    rw [comp, tsz]
    split
    · simp only; omega
    · split
      · have := compL_blk l B.length (B ++ List.replicate l.length [])
        have := len_tszs l
        simp only [List.length_append, List.length_replicate] at *
        omega
      · have := comps_blk l B
        simp only
        omega
theorem comps_blk : ∀ (l : List NodeT) (B : CodeT), (comps l B).2.length + l.length ≤ B.length + tszs l
  | [], B => by rw [comps, tszs]; simp
  | n :: l, B => by
    rw [comps, tszs]
    have h1 := comp_blk n B
    have h2 := comps_blk l (comp n B).2
    simp only [List.length_cons]; omega
theorem compL_blk : ∀ (l : List NodeT) (i : Nat) (B : CodeT), (compL l i B).length + l.length ≤ B.length + tszs l
  | [], i, B => by rw [compL, tszs]; simp
  | n :: l, i, B => by
    rw [compL, tszs]
    have h1 := comp_blk n B
    have h2 := compL_blk l (i + 1) ((comp n B).2.set i (comp n B).1)
    rw [List.length_set] at h2
    simp only [List.length_cons]; omega
end
def cellC : Bool → AV → AV
  | true, h => .agg [h]
  | false, h => h
def stC (g : Nat) (rows : List AV) (ag : Bool) : Hp := [.row g rows, .row 0 [cellC ag (.hs false 0 g 0 rows.length)], .row 0 [.fn 41 [.ptr false 3 0 0 0, .ptr false 4 0 0 0]], .row 0 [.fn 39 [.ptr false 2 0 0 0]], .row 0 [.fn 40 [.ptr false 1 0 0 0, .ptr false 2 0 0 0]]]
def RowsR (rows : List AV) (B : CodeT) : Prop := rows.length = B.length ∧ ∀ (i : Nat) (b : List OpT), B[i]? = some b → ∃ t : Tok, (t = .no ∨ t = .full) ∧ rows[i]? = some (AV.sl (b.map opA) t)
def StC (G : Hp) (B : CodeT) : Prop := ∃ g rows ag, G = stC g rows ag ∧ RowsR rows B ∧ B ≠ []
def WriteOk (n : NodeT) : Prop := ∀ (G : Hp) (B : CodeT), StC G B → B.length + tsz n ≤ 2 ^ 30 → ∃ (t : Tok) (G' : Hp), (t = .no ∨ t = .full) ∧
  (∀ L, callA (cfg Try.prog ann) 41 [nodeA n, .ptr false 3 0 0 0, .ptr false 4 0 0 0] L G = some (.val (.sl ((comp n B).1.map opA) t), L, G')) ∧ StC G' (comp n B).2
theorem hand_op (o : OpT) : handA true (opA o) = opA o := by simp only [opA, intsA, handA, handAs, Tok.drop, if_true]
theorem cells_op (o : OpT) : (opA o).cells.length = 4 := rfl
theorem elKop : ElK Try.prog 44 := ⟨by rw [tz44]; decide, by rw [ty44]; decide, by rw [t044]; rfl, by rw [tn44, tz44]⟩
theorem szOk_ops (l : List OpT) : szOk Try.prog 44 (l.map opA) = true := by
  cases l with
  | nil => rfl
  | cons n l => simp only [List.map_cons, szOk, cells_op, tz44]; rfl
theorem comps_drop {l : List NodeT} {i : Nat} {x : NodeT} (h : l[i]? = some x) (B : CodeT) : comps (l.drop i) B = ((comp x B).1 ++ (comps (l.drop (i + 1)) (comp x B).2).1, (comps (l.drop (i + 1)) (comp x B).2).2) := by
  obtain ⟨h1, rfl⟩ := List.getElem?_eq_some_iff.1 h
  rw [List.drop_eq_getElem_cons h1, comps]
theorem tszs_drop {l : List NodeT} {i : Nat} {x : NodeT} (h : l[i]? = some x) : tszs (l.drop i) = tsz x + tszs (l.drop (i + 1)) := by
  obtain ⟨h1, rfl⟩ := List.getElem?_eq_some_iff.1 h
  rw [List.drop_eq_getElem_cons h1, tszs]
theorem all_ok (l : List NodeT) (ih : ∀ x ∈ l, WriteOk x) (k' n' : Int) (s' : List UInt8) (G : Hp) (B : CodeT) (hG : StC G B) (hb : B.length + tszs l ≤ 2 ^ 30) : ∃ G',
    (∀ L, callA (cfg Try.prog ann) 39 [.sl (nodesA l) .no, .agg [.int .i64 k', .int .i64 n', .str s', .sl [] .full], .ptr false 2 0 0 0] L G = some (.val (.sl (((comps l B).1 ++ [(⟨k', n', s', []⟩ : OpT)]).map opA) .no), L, G')) ∧ StC G' (comps l B).2 := by
  suffices hh : ∃ G', ev Try.prog ann 39 [.sl (nodesA l) .no, .agg [.int .i64 k', .int .i64 n', .str s', .sl [] .full], .ptr false 2 0 0 0] G = some (.val (.sl (((comps l B).1 ++ [(⟨k', n', s', []⟩ : OpT)]).map opA) .no), G') ∧ StC G' (comps l B).2 by
    obtain ⟨G', h1, h2⟩ := hh
    refine ⟨G', fun L => call_sees rfl rfl ?_ ?_ ?_, h2⟩
    · simp only [handAs, handA, noLs, refss, AV.refs, Tok.refs, Tok.drop, Bool.false_eq_true, if_false, refs_nodes, Bool.and_self, Bool.not_false]
    · simp only [AV.noL, AV.refs, Tok.refs, refs_ops, Bool.and_self]
    · simp only [handAs, handA, Tok.drop, Bool.false_eq_true, if_false]; exact h1
  rw [fun_some Try.func39 rfl rfl]
  simp only [go_sem, Nat.reduceEqDiff, Nat.reduceAdd, Nat.reduceLeDiff, show ((4 : Nat) = 0) = False from by decide, nodesA_len]
  generalize hw : loopW _ _ _ _ _ _ = w
  obtain ⟨ou, rfl, out, t, L', G1, rfl, hacc, hrow, hst, hout⟩ : ∃ ou, w = some ou ∧ ∃ (out : List OpT) (t : Tok) (L' G1 : Hp), ou = (.exit 0, [(4, .ptr true 0 0 0 0), (6, .sl (out.map opA) t)], L', G1) ∧ AccK 1 4 (out.map opA) t L' ∧
      L'[0]? = some (.row 0 [.agg [.int .i64 k', .int .i64 n', .str s', .sl [] .full]]) ∧ StC G1 (comps l B).2 ∧ out = (comps l B).1 := by
    rw [← hw]
    clear hw
    refine loop_ex (σ := Nat × List OpT × Tok × Hp × Hp × CodeT) (fun q => [(2, .ptr false 2 0 0 0), (4, .ptr true 0 0 0 0), (6, .sl (q.2.1.map opA) q.2.2.1), (9, .sl (nodesA l) .no), (10, .int .i64 l.length), (11, .int .i64 q.1)]) (fun q => q.2.2.2.1) (fun q => q.2.2.2.2.1)
      (fun q => q.1 ≤ l.length ∧ AccK 1 4 (q.2.1.map opA) q.2.2.1 q.2.2.2.1 ∧ q.2.2.2.1[0]? = some (.row 0 [.agg [.int .i64 k', .int .i64 n', .str s', .sl [] .full]]) ∧ StC q.2.2.2.2.1 q.2.2.2.2.2 ∧ q.2.2.2.2.2.length + tszs (l.drop q.1) ≤ 2 ^ 30 ∧ q.2.1.length + tszs (l.drop q.1) ≤ tszs l ∧
        comps l B = (q.2.1 ++ (comps (l.drop q.1) q.2.2.2.2.2).1, (comps (l.drop q.1) q.2.2.2.2.2).2)) (fun q => l.length - q.1) _ ?_ (0, [], .full, [.row 0 [.agg [.int .i64 k', .int .i64 n', .str s', .sl [] .full]]], G, B)
      ⟨Nat.zero_le _, acck_nil (by simp), rfl, hG, by simpa using hb, by simp, by simp⟩
    rintro ⟨i, out, t, L, G1, B1⟩ ⟨q1, q2, q3, q4, q5, q6, q7⟩
    simp only at q1 q2 q3 q4 q5 q6 q7
    have hL := nodesA_len l
    have hlim := len_tszs l
    have hw : IntKind.i64.wrap ((i : Int) + 1) = ((i + 1 : Nat) : Int) := by rw [wrap_in] <;> omega
    by_cases hi : i < l.length
    · obtain ⟨x, hx⟩ : ∃ x, l[i]? = some x := ⟨_, List.getElem?_eq_getElem hi⟩
      have hx' : (nodesA l)[i]? = some (nodeA x) := by rw [nodesA_get, hx]; rfl
      have htd := tszs_drop hx
      rw [comps_drop hx] at q7
      obtain ⟨co1, co2⟩ := comp_out x B1
      obtain ⟨tx, G2, ht2, c1, c2⟩ := ih x (List.mem_of_getElem? hx) G1 B1 q4 (by omega)
      have cb := comp_blk x B1
      have hxs : (nodesA l)[i]? = some (nodeA x) := hx'
      obtain ⟨g, rows, ag, rfl, hR, hne⟩ := q4
      obtain ⟨t', L1, happ, hacc, hlow⟩ := app_acck (P := Try.prog) (A := ann) (f := 39) (d := 19) (k := 1) (xs := (comp x B1).1.map opA) (ys := (comp x B1).1.map opA) (L := L ++ [.row 0 [nodeA x]]) (l := out.map opA) (t := t) elKop rfl rfl (by rw [tz44]; exact acck_more q2 _)
        (handX_map _ hand_op _) rfl (szOk_ops _) (by simpa using co2) (by rw [ty44, List.length_map, List.length_map]; simp only [mostBytes]; omega)
      rw [tz44, ← List.map_append] at hacc
      rw [← List.map_append] at happ
      have hcat : ∀ y : Blk, (L ++ [y])[L.length]? = some y := fun y => by simp
      have hset : ∀ y z : Blk, (L ++ [y]).set L.length z = L ++ [z] := fun y z => by simp
      have h1L := q2.1
      have hrow : L1[0]? = some (.row 0 [.agg [.int .i64 k', .int .i64 n', .str s', .sl [] .full]]) := by rw [hlow 0 (by omega), List.getElem?_append_left (by omega)]; exact q3
      have key : (fun (q : Nat × List OpT × Tok × Hp × Hp × CodeT) => q.1 ≤ l.length ∧ AccK 1 4 (q.2.1.map opA) q.2.2.1 q.2.2.2.1 ∧ q.2.2.2.1[0]? = some (.row 0 [.agg [.int .i64 k', .int .i64 n', .str s', .sl [] .full]]) ∧ StC q.2.2.2.2.1 q.2.2.2.2.2 ∧ q.2.2.2.2.2.length + tszs (l.drop q.1) ≤ 2 ^ 30 ∧ q.2.1.length + tszs (l.drop q.1) ≤ tszs l ∧
          comps l B = (q.2.1 ++ (comps (l.drop q.1) q.2.2.2.2.2).1, (comps (l.drop q.1) q.2.2.2.2.2).2))
          (i + 1, out ++ (comp x B1).1, t', trim 1 [(2, .ptr false 2 0 0 0), (4, .ptr true 0 0 0 0), (6, .sl ((out ++ (comp x B1).1).map opA) t'), (9, .sl (nodesA l) .no), (10, .int .i64 l.length), (11, .int .i64 ((i + 1 : Nat) : Int))] L1, G2, (comp x B1).2) :=
        ⟨by simp only; omega, acck_trim (i := 6) hacc (by simp), by simp only; rw [trim_low (by omega)]; exact hrow, c2, by simp only; omega, by simp only [List.length_append]; omega, by simp only; rw [List.append_assoc]; exact q7⟩
      obtain ⟨kx, sx, lx⟩ := x
      simp only [nodeA] at hx' c1 happ
      simp only [stC] at c1
      refine ⟨_, by simp only [stC, go_sem, Nat.reduceEqDiff, hi, hL, hx', hw, hcat, hset, c1, happ, Nat.reduceAdd, Nat.reduceLeDiff, Nat.reduceMul, Nat.reducePow, show ((3 : Nat) = 0) = False from by decide] <;> rfl, ?_⟩
      exact .inl ⟨_, key, by simp only; omega, rfl⟩
    · have e : l.drop i = [] := List.drop_eq_nil_of_le (by omega)
      rw [e, comps] at q7
      simp only [List.append_nil] at q7
      refine ⟨_, by simp only [go_sem, Nat.reduceEqDiff, hi, hL] <;> rfl, .inr ⟨_, rfl, out, t, L, G1, rfl, q2, q3, by rw [q7]; exact q4, by rw [q7]⟩⟩
  have hco := comps_out l B
  obtain ⟨t', L1, happ, hacc', -⟩ := app_acck (P := Try.prog) (A := ann) (f := 39) (d := 24) (k := 1) (xs := [opA (⟨k', n', s', []⟩ : OpT)]) (ys := [opA (⟨k', n', s', []⟩ : OpT)]) (L := L') (l := out.map opA) (t := t) elKop rfl rfl (by rw [tz44]; exact hacc)
    (handX_map opA hand_op [(⟨k', n', s', []⟩ : OpT)]) rfl (szOk_ops [(⟨k', n', s', []⟩ : OpT)]) (by simp) (by rw [ty44, List.length_map, hout]; simp only [mostBytes, List.length_cons, List.length_nil]; omega)
  have ht' : t'.drop false = .no := by
    rcases hacc'.2 with ⟨h, _⟩ | ⟨a, _, rfl, _⟩
    · simp at h
    · rfl
  have ea : out.map opA ++ [opA (⟨k', n', s', []⟩ : OpT)] = ((comps l B).1 ++ [(⟨k', n', s', []⟩ : OpT)]).map opA := by rw [hout]; simp
  rw [ea] at happ
  simp only [opA, intsA, List.map_nil] at happ
  refine ⟨G1, ?_, hst⟩
  simp only [Tok.drop, Bool.false_eq_true, if_false] at ht'
  simp only [go_sem, Nat.reduceEqDiff, hrow, happ, ht', Nat.reduceAdd, Nat.reduceLeDiff, Nat.reduceMul, Nat.reducePow, show ((0 : Nat) < 1) = True from by decide]
end Ev
