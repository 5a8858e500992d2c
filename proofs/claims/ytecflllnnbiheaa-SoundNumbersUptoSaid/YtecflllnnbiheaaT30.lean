/- Compile, the document's way. -/
import Derived.Test.YtecflllnnbiheaaT29
set_option maxHeartbeats 4000000
set_option linter.unusedVariables false
set_option linter.unusedSimpArgs false
namespace Ev
open Go Go.Proofs
set_option maxRecDepth 10000
theorem lazyR_ok (k : Int) (s : List UInt8) (l : List NodeT) (ih : ∀ x ∈ l, NodeOk x) (G : Hp) (B : CodeT) (b : Nat) (hG : St12 G B) (hbB : b < B.length) (hb : B.length + tsz (.mk k s l) ≤ 2 ^ 30) (hb2 : opsum B + tsz (.mk k s l) ≤ 2 ^ 30) : ∃ G',
    (∀ L, callA (cfg Try.prog ann) 64 [.ptr false 1 0 0 0, .int .i64 b, nodeA (.mk k s l)] L G = some (.val (.tup []), L, G')) ∧ St12 G' (appB b [⟨6, 0, s, numsL B.length l.length⟩] (compL l B.length (B ++ List.replicate l.length []))) := by
  suffices hh : ∃ G', ev Try.prog ann 64 [.ptr false 1 0 0 0, .int .i64 b, nodeA (.mk k s l)] G = some (.val (.tup []), G') ∧ St12 G' (appB b [⟨6, 0, s, numsL B.length l.length⟩] (compL l B.length (B ++ List.replicate l.length []))) by
    obtain ⟨G', h1, h2⟩ := hh
    refine ⟨G', fun L => call_sees rfl rfl ?_ rfl ?_, h2⟩
    · simp only [nodeA, handAs, handA, noLs, refss, AV.refs, Tok.refs, Tok.drop, Bool.false_eq_true, if_false, refs_nodes, Bool.and_self, Bool.not_false]
    · simp only [nodeA, handAs, handA, Tok.drop, Bool.false_eq_true, if_false]
      simp only [nodeA] at h1
      exact h1
  rw [tsz] at hb hb2
  have hlim := len_tszs l
  have hL := nodesA_len l
  obtain ⟨g, rows, ag, toks, rfl, hne, hR⟩ := hG
  have hrl := hR.1
  have hBpos : 0 < B.length := List.length_pos_iff.2 hne
  rw [fun_some Try.func64 rfl rfl]
  simp only [nodeA]
  rw [← hrl]
  simp only [st12]
  cases ag
  · simp only [cellC]
    simp only [go_sem, Nat.reduceEqDiff, Nat.reduceAdd, Nat.reduceLeDiff, show ((4 : Nat) = 0) = False from by decide]
    generalize hw : loopW _ _ _ _ _ _ = w
    obtain ⟨ou, rfl, rfl⟩ : ∃ ou, w = some ou ∧ ou = (.exit 0, [(0, .ptr false 1 0 0 0), (1, .int .i64 b), (5, .ptr true 0 0 0 0), (6, .int .i64 rows.length), (7, .ptr true 1 0 0 0)], lstL (.agg [.int .i64 k, .str s, .sl (nodesA l) .no]) s rows.length l.length, st12 (g + l.length) (rowsAt rows l.length) (agAt false l.length) toks) := by
      rw [← hw]
      clear hw
      refine loop_ex (σ := Nat) (fun i => [(0, .ptr false 1 0 0 0), (1, .int .i64 b), (5, .ptr true 0 0 0 0), (6, .int .i64 rows.length), (7, .ptr true 1 0 0 0), (8, .int .i64 i)]) (fun i => lstL (.agg [.int .i64 k, .str s, .sl (nodesA l) .no]) s rows.length i) (fun i => st12 (g + i) (rowsAt rows i) (agAt false i) toks) (fun i => i ≤ l.length) (fun i => l.length - i) _ ?_ 0 (Nat.zero_le _)
      intro i hi
      have hw : IntKind.i64.wrap ((i : Int) + 1) = ((i + 1 : Nat) : Int) := by rw [wrap_in] <;> omega
      have hwi : IntKind.i64.wrap ((rows.length : Int) + (i : Int)) = ((rows.length + i : Nat) : Int) := by rw [wrap_in] <;> omega
      have hlen : (rowsAt rows i).length = rows.length + i := by simp [rowsAt_eq]
      have hrne : rowsAt rows i ≠ [] := by intro e; rw [e] at hlen; simp at hlen; omega
      by_cases h : i < l.length
      · have hoe : szOk Try.prog 42 (rowsAt rows i) = true := by
          cases hr : rowsAt rows i with
          | nil => exact absurd hr hrne
          | cons v r =>
            have hz : ∃ t b, v = AV.sl b t := by
              have h0 : (rows ++ List.replicate i (AV.sl [] .full))[0]? = some v := by rw [← rowsAt_eq, hr]; rfl
              obtain ⟨b0, hb0⟩ : ∃ b0 : List OpT, B[0]? = some b0 := ⟨_, List.getElem?_eq_getElem hBpos⟩
              rw [List.getElem?_append_left (by omega)] at h0
              rcases hR.2.1 0 b0 hb0 with ⟨_, ht⟩ | ⟨a, ht, _⟩ <;> rw [ht] at h0 <;> cases h0 <;> exact ⟨_, _, rfl⟩
            obtain ⟨t, b, rfl⟩ := hz
            simp only [szOk, tz42]; rfl
        have happ2 := fun (L : Hp) (v : AV) => app_row1 (P := Try.prog) (A := ann) (f := 64) (d := 31) (sl := none) (L := L) (G := .row (g + i) (rowsAt rows i) :: .row 0 [v] :: toks) (b := 0) elKops rfl hrne hoe (xs := [.sl [] .full]) handX_one rfl (by simp only [szOk, tz42]; rfl) (by simp) rfl
          (by rw [ty42, hlen]; simp only [mostBytes, List.length_cons, List.length_nil]; omega)
        rw [hlen] at happ2
        cases i with
        | zero =>
          have happ1 := fun G => app_ltok0 (P := Try.prog) (A := ann) (f := 64) (d := 40) (L := [.row 0 [.agg [.int .i64 k, .str s, .sl (nodesA l) .no]], .row 0 [.agg [.int .i64 6, .int .i64 0, .str s, .sl [] .full]]]) (G := G) (xs := [.int .i64 ((rows.length + 0 : Nat) : Int)]) elKint rfl rfl handX_int rfl (by simp only [szOk, tz3]; rfl) (by simp) (by rw [ty3]; simp [mostBytes])
          have ht : ∀ e, trim 2 e [.row 0 [.agg [.int .i64 k, .str s, .sl (nodesA l) .no]], .row 0 [.agg [.int .i64 6, .int .i64 0, .str s, .sl [.int .i64 ((rows.length + 0 : Nat) : Int)] (.own true 2)]], .tok 1 1] = [.row 0 [.agg [.int .i64 k, .str s, .sl (nodesA l) .no]], .row 0 [.agg [.int .i64 6, .int .i64 0, .str s, .sl [.int .i64 ((rows.length + 0 : Nat) : Int)] (.own true 2)]], .tok 1 1] := fun e => trim_blk (by simp [Blk.bel, bels, refss, AV.refs, Tok.refs])
          have h' : ((0 : Int) < (l.length : Int)) = True := eq_true (by omega)
          simp only [handAs, tz3, List.length_cons, List.length_nil, Nat.zero_add, Nat.reduceAdd, List.cons_append, List.nil_append] at happ1 ht
          simp only [Int.natCast_zero, Nat.add_zero] at happ1 happ2 hlen ht hwi
          simp only [Int.add_zero] at hwi
          refine ⟨_, by simp only [lstL, st12, agAt, cellC, go_sem, Nat.reduceEqDiff, h', hL, show IntKind.i64.wrap (0 + 1) = 1 from by decide, hwi, hlen, happ1, happ2, ht, Int.add_zero, Nat.reduceAdd, Nat.reduceLeDiff, Nat.reduceMul, Nat.reducePow, Int.natCast_zero, show ((0 : Nat) < 1) = True from by decide, show ((3 : Nat) = 0) = False from by decide] <;> rfl, ?_⟩
          exact .inl ⟨1, by omega, by omega, by
            have : (rowsAt rows 0 ++ [AV.sl [] Tok.full]).length = rows.length + 1 := by simp [hlen]
            simp only [lstL, st12, agAt, cellC, rowsAt] at this ⊢
            rw [this]
            rfl⟩
        | succ j =>
          have happ1 := fun G => app_ltok1 (P := Try.prog) (A := ann) (f := 64) (d := 40) (a := 2) (es := (numsL rows.length (j + 1)).map (.int .i64)) (L := [.row 0 [.agg [.int .i64 k, .str s, .sl (nodesA l) .no]], .row 0 [.agg [.int .i64 6, .int .i64 0, .str s, .sl ((numsL rows.length (j + 1)).map (.int .i64)) (.own true 2)]], .tok (j + 1) 1]) (G := G) (xs := [.int .i64 ((rows.length + (j + 1) : Nat) : Int)]) elKint
            (by simp [nums_len, tz3]) handX_int rfl (by simp only [szOk, tz3]; rfl) (by simp) (by rw [ty3, List.length_map, nums_len]; simp only [mostBytes, List.length_cons, List.length_nil]; omega)
          have ea : (numsL rows.length (j + 1)).map (AV.int .i64) ++ (.int .i64 ((rows.length + (j + 1) : Nat) : Int)) :: handAs true [] = (numsL rows.length (j + 1 + 1)).map (AV.int .i64) := by rw [nums_succ rows.length (j + 1)]; simp [handAs]
          rw [ea] at happ1
          simp only [handAs, tz3, List.length_map, nums_len, List.length_cons, List.length_nil, Nat.zero_add, Nat.reduceAdd, List.set_cons_succ, List.set_cons_zero] at happ1
          have ht : ∀ e, trim 2 e [.row 0 [.agg [.int .i64 k, .str s, .sl (nodesA l) .no]], .row 0 [.agg [.int .i64 6, .int .i64 0, .str s, .sl ((numsL rows.length (j + 1 + 1)).map (.int .i64)) (.own true 2)]], .tok (j + 1 + 1) 1] = [.row 0 [.agg [.int .i64 k, .str s, .sl (nodesA l) .no]], .row 0 [.agg [.int .i64 6, .int .i64 0, .str s, .sl ((numsL rows.length (j + 1 + 1)).map (.int .i64)) (.own true 2)]], .tok (j + 1 + 1) 1] := fun e => trim_blk (by simp [Blk.bel, bels, refss, AV.refs, Tok.refs])
          refine ⟨_, by simp only [lstL, st12, agAt, cellC, go_sem, Nat.reduceEqDiff, h, hL, hw, hwi, hlen, happ1, happ2, ht, Nat.reduceAdd, Nat.reduceLeDiff, Nat.reduceMul, Nat.reducePow, show ((0 : Nat) < 1) = True from by decide, show ((3 : Nat) = 0) = False from by decide] <;> rfl, ?_⟩
          exact .inl ⟨j + 1 + 1, by omega, by omega, by
            have : (rowsAt rows (j + 1) ++ [AV.sl [] Tok.full]).length = rows.length + (j + 1) + 1 := by simp [hlen]
            have e2 : rowsAt rows (j + 1 + 1) = rowsAt rows (j + 1) ++ [AV.sl [] Tok.full] := rfl
            simp only [lstL, st12, agAt, cellC]
            rw [e2, this]
            rfl⟩
      · have hil : i = l.length := by omega
        subst hil
        cases hl : l.length with
        | zero => exact ⟨_, by simp only [lstL, st12, go_sem, Nat.reduceEqDiff, Int.lt_irrefl, hL, hl] <;> rfl, .inr ⟨_, rfl, by simp [lstL, st12]⟩⟩
        | succ n => exact ⟨_, by simp only [lstL, st12, go_sem, Nat.reduceEqDiff, Int.lt_irrefl, hL, hl] <;> rfl, .inr ⟨_, rfl, by simp only [lstL, st12]⟩⟩
    have hB0 : Rows12 (rowsAt rows l.length) toks (B ++ List.replicate l.length []) := by rw [rowsAt_eq]; exact rows12_rep hR _
    have hst0 : St12 (st12 (g + l.length) (rowsAt rows l.length) (agAt false l.length) toks) (B ++ List.replicate l.length []) := ⟨_, _, _, _, rfl, ne_of_len (by simp; omega), hB0⟩
    generalize st12 (g + l.length) (rowsAt rows l.length) (agAt false l.length) toks = G0 at hst0 ⊢
    have hL0 := @lst0 (.agg [.int .i64 k, .str s, .sl (nodesA l) .no]) s rows.length l.length
    have hL1 := @lst1 (.agg [.int .i64 k, .str s, .sl (nodesA l) .no]) s rows.length l.length
    have hL2 := @lst_len (.agg [.int .i64 k, .str s, .sl (nodesA l) .no]) s rows.length l.length
    generalize lstL (.agg [.int .i64 k, .str s, .sl (nodesA l) .no]) s rows.length l.length = Lx at hL0 hL1 hL2 ⊢
    simp only [go_sem, Nat.reduceEqDiff, Nat.reduceAdd, Nat.reduceLeDiff]
    generalize hw : loopW _ _ _ _ _ _ = w
    obtain ⟨ou, rfl, G1, rfl, hst⟩ : ∃ ou, w = some ou ∧ ∃ G1 : Hp, ou = (.exit 2, [(0, .ptr false 1 0 0 0), (1, .int .i64 b), (7, .ptr true 1 0 0 0)], Lx, G1) ∧ St12 G1 (compL l rows.length (B ++ List.replicate l.length [])) := by
      rw [← hw]
      clear hw
      refine loop_ex (σ := Nat × Hp × CodeT) (fun q => [(0, .ptr false 1 0 0 0), (1, .int .i64 b), (5, .ptr true 0 0 0 0), (6, .int .i64 rows.length), (7, .ptr true 1 0 0 0), (9, .int .i64 q.1)]) (fun q => Lx) (fun q => q.2.1)
        (fun q => q.1 ≤ l.length ∧ St12 q.2.1 q.2.2 ∧ q.2.2.length + tszs (l.drop q.1) + 1 ≤ 2 ^ 30 + (l.length - q.1) ∧ opsum q.2.2 + tszs (l.drop q.1) ≤ 2 ^ 30 ∧ rows.length + l.length ≤ q.2.2.length ∧ (∀ j, q.1 ≤ j → j < l.length → q.2.2[rows.length + j]? = some []) ∧
          compL l rows.length (B ++ List.replicate l.length []) = compL (l.drop q.1) (rows.length + q.1) q.2.2) (fun q => l.length - q.1) _ ?_ (0, G0, B ++ List.replicate l.length [])
        ⟨Nat.zero_le _, hst0, by simp only [List.length_append, List.length_replicate, List.drop_zero]; omega, by simp only [opsum_app, opsum_rep, List.drop_zero]; omega, by simp [hrl], fun j _ hj => by
          simp only
          rw [List.getElem?_append_right (by omega), List.getElem?_replicate, if_pos (by omega)], by simp⟩
      rintro ⟨i, G1, B1⟩ ⟨q1, q2, q3, q4, q5, q6, q7⟩
      simp only at q1 q2 q3 q4 q5 q6 q7
      have hw : IntKind.i64.wrap ((i : Int) + 1) = ((i + 1 : Nat) : Int) := by rw [wrap_in] <;> omega
      have hwi : IntKind.i64.wrap ((rows.length : Int) + (i : Int)) = ((rows.length + i : Nat) : Int) := by rw [wrap_in] <;> omega
      by_cases hi : i < l.length
      · obtain ⟨x, hx⟩ : ∃ x, l[i]? = some x := ⟨_, List.getElem?_eq_getElem hi⟩
        have hx' : (nodesA l)[i]? = some (nodeA x) := by rw [nodesA_get, hx]; rfl
        have htd := tszs_drop hx
        have hdl := len_tszs (l.drop (i + 1))
        rw [List.length_drop] at hdl
        have hdr : l.drop i = x :: l.drop (i + 1) := by
          obtain ⟨h1, rfl⟩ := List.getElem?_eq_some_iff.1 hx
          rw [List.drop_eq_getElem_cons h1]
        rw [hdr, compL] at q7
        obtain ⟨G2, c1, c2⟩ := ih x (List.mem_of_getElem? hx) G1 B1 (rows.length + i) q2 (by omega) (by omega) (by omega)
        have cb := comp_blk x B1
        have cl := comp_len x B1
        have ce := comp_le x B1
        have ck := comp_keep x B1
        have cs := opsum_set_le (comp x B1).2 (rows.length + i) (comp x B1).1
        rw [appB_nil _ (by rw [ck _ (by omega)]; exact q6 i (Nat.le_refl _) hi)] at c2
        obtain ⟨kx, sx, lx⟩ := x
        simp only [nodeA] at hx' c1
        refine ⟨_, by simp only [go_sem, Nat.reduceEqDiff, hL0, hi, hL, hx', hw, hwi, c1, trim_self, Nat.reduceAdd, Nat.reduceLeDiff, show ((3 : Nat) = 0) = False from by decide] <;> rfl, ?_⟩
        exact .inl ⟨(i + 1, G2, _), ⟨by simp only; omega, c2, by simp only [List.length_set]; omega, by simp only; omega, by simp only [List.length_set]; omega, fun j hj hj2 => by
          simp only at hj ⊢
          rw [List.getElem?_set_ne (by omega), ck _ (by omega)]; exact q6 j (by omega) hj2, by simp only [q7]; rfl⟩, by simp only; omega, rfl⟩
      · have e : l.drop i = [] := List.drop_eq_nil_of_le (by omega)
        rw [e, compL] at q7
        refine ⟨_, by simp only [go_sem, Nat.reduceEqDiff, hL0, hi, hL] <;> rfl, .inr ⟨_, rfl, G1, rfl, by rw [q7]; exact q2⟩⟩
    have hcl := compL_len l rows.length (B ++ List.replicate l.length [])
    have hce := compL_le l rows.length (B ++ List.replicate l.length [])
    rw [opsum_app, opsum_rep] at hce
    rw [List.length_append] at hcl
    obtain ⟨g1, rows1, ag1, toks1, rfl, hne1, hR1⟩ := hst
    have hb1 : b < (compL l rows.length (B ++ List.replicate l.length [])).length := by omega
    obtain ⟨es, t, es', a, toks', hr, ht, happ, hR', hno⟩ := app12 (g := g1) (ag := ag1) hR1 hb1 ⟨6, 0, s, numsL rows.length l.length⟩ (by omega)
    have hbl : b < rows1.length := by rw [hR1.1]; exact hb1
    have hlen : (rows1.set b (AV.sl es' (.own false a))).length = rows1.length := by simp
    refine ⟨st12 g1 (rows1.set b (.sl es' (.own false a))) ag1 toks', ?_, ⟨_, _, _, _, rfl, ne_of_len (by rw [appB_len]; omega), hR'⟩⟩
    have happ := fun sl L => happ 64 73 sl L rfl rfl
    have hbase : (1 < Lx.length) = True := eq_true (by omega)
    simp only [opA, intsA] at happ
    simp only [st12, hlen]
    cases ag1
    all_goals
      simp only [cellC] at happ ⊢
      rcases ht with rfl | ⟨a0, rfl⟩
      all_goals
        simp only [go_sem, Nat.reduceEqDiff, hL1, hr, hbl, happ, hno, hbase, Nat.reduceAdd, Nat.reduceLeDiff, Nat.reduceMul, Nat.reducePow, Nat.reduceLT, show ((0 : Nat) < 1) = True from by decide, show ((3 : Nat) = 0) = False from by decide]
  · simp only [cellC]
    simp only [go_sem, Nat.reduceEqDiff, Nat.reduceAdd, Nat.reduceLeDiff, show ((4 : Nat) = 0) = False from by decide]
    generalize hw : loopW _ _ _ _ _ _ = w
    obtain ⟨ou, rfl, rfl⟩ : ∃ ou, w = some ou ∧ ou = (.exit 0, [(0, .ptr false 1 0 0 0), (1, .int .i64 b), (5, .ptr true 0 0 0 0), (6, .int .i64 rows.length), (7, .ptr true 1 0 0 0)], lstL (.agg [.int .i64 k, .str s, .sl (nodesA l) .no]) s rows.length l.length, st12 (g + l.length) (rowsAt rows l.length) (agAt true l.length) toks) := by
      rw [← hw]
      clear hw
      refine loop_ex (σ := Nat) (fun i => [(0, .ptr false 1 0 0 0), (1, .int .i64 b), (5, .ptr true 0 0 0 0), (6, .int .i64 rows.length), (7, .ptr true 1 0 0 0), (8, .int .i64 i)]) (fun i => lstL (.agg [.int .i64 k, .str s, .sl (nodesA l) .no]) s rows.length i) (fun i => st12 (g + i) (rowsAt rows i) (agAt true i) toks) (fun i => i ≤ l.length) (fun i => l.length - i) _ ?_ 0 (Nat.zero_le _)
      intro i hi
      have hw : IntKind.i64.wrap ((i : Int) + 1) = ((i + 1 : Nat) : Int) := by rw [wrap_in] <;> omega
      have hwi : IntKind.i64.wrap ((rows.length : Int) + (i : Int)) = ((rows.length + i : Nat) : Int) := by rw [wrap_in] <;> omega
      have hlen : (rowsAt rows i).length = rows.length + i := by simp [rowsAt_eq]
      have hrne : rowsAt rows i ≠ [] := by intro e; rw [e] at hlen; simp at hlen; omega
      by_cases h : i < l.length
      · have hoe : szOk Try.prog 42 (rowsAt rows i) = true := by
          cases hr : rowsAt rows i with
          | nil => exact absurd hr hrne
          | cons v r =>
            have hz : ∃ t b, v = AV.sl b t := by
              have h0 : (rows ++ List.replicate i (AV.sl [] .full))[0]? = some v := by rw [← rowsAt_eq, hr]; rfl
              obtain ⟨b0, hb0⟩ : ∃ b0 : List OpT, B[0]? = some b0 := ⟨_, List.getElem?_eq_getElem hBpos⟩
              rw [List.getElem?_append_left (by omega)] at h0
              rcases hR.2.1 0 b0 hb0 with ⟨_, ht⟩ | ⟨a, ht, _⟩ <;> rw [ht] at h0 <;> cases h0 <;> exact ⟨_, _, rfl⟩
            obtain ⟨t, b, rfl⟩ := hz
            simp only [szOk, tz42]; rfl
        have happ2 := fun (L : Hp) (v : AV) => app_row1 (P := Try.prog) (A := ann) (f := 64) (d := 31) (sl := none) (L := L) (G := .row (g + i) (rowsAt rows i) :: .row 0 [v] :: toks) (b := 0) elKops rfl hrne hoe (xs := [.sl [] .full]) handX_one rfl (by simp only [szOk, tz42]; rfl) (by simp) rfl
          (by rw [ty42, hlen]; simp only [mostBytes, List.length_cons, List.length_nil]; omega)
        rw [hlen] at happ2
        cases i with
        | zero =>
          have happ1 := fun G => app_ltok0 (P := Try.prog) (A := ann) (f := 64) (d := 40) (L := [.row 0 [.agg [.int .i64 k, .str s, .sl (nodesA l) .no]], .row 0 [.agg [.int .i64 6, .int .i64 0, .str s, .sl [] .full]]]) (G := G) (xs := [.int .i64 ((rows.length + 0 : Nat) : Int)]) elKint rfl rfl handX_int rfl (by simp only [szOk, tz3]; rfl) (by simp) (by rw [ty3]; simp [mostBytes])
          have ht : ∀ e, trim 2 e [.row 0 [.agg [.int .i64 k, .str s, .sl (nodesA l) .no]], .row 0 [.agg [.int .i64 6, .int .i64 0, .str s, .sl [.int .i64 ((rows.length + 0 : Nat) : Int)] (.own true 2)]], .tok 1 1] = [.row 0 [.agg [.int .i64 k, .str s, .sl (nodesA l) .no]], .row 0 [.agg [.int .i64 6, .int .i64 0, .str s, .sl [.int .i64 ((rows.length + 0 : Nat) : Int)] (.own true 2)]], .tok 1 1] := fun e => trim_blk (by simp [Blk.bel, bels, refss, AV.refs, Tok.refs])
          have h' : ((0 : Int) < (l.length : Int)) = True := eq_true (by omega)
          simp only [handAs, tz3, List.length_cons, List.length_nil, Nat.zero_add, Nat.reduceAdd, List.cons_append, List.nil_append] at happ1 ht
          simp only [Int.natCast_zero, Nat.add_zero] at happ1 happ2 hlen ht hwi
          simp only [Int.add_zero] at hwi
          refine ⟨_, by simp only [lstL, st12, agAt, cellC, go_sem, Nat.reduceEqDiff, h', hL, show IntKind.i64.wrap (0 + 1) = 1 from by decide, hwi, hlen, happ1, happ2, ht, Int.add_zero, Nat.reduceAdd, Nat.reduceLeDiff, Nat.reduceMul, Nat.reducePow, Int.natCast_zero, show ((0 : Nat) < 1) = True from by decide, show ((3 : Nat) = 0) = False from by decide] <;> rfl, ?_⟩
          exact .inl ⟨1, by omega, by omega, by
            have : (rowsAt rows 0 ++ [AV.sl [] Tok.full]).length = rows.length + 1 := by simp [hlen]
            simp only [lstL, st12, agAt, cellC, rowsAt] at this ⊢
            rw [this]
            rfl⟩
        | succ j =>
          have happ1 := fun G => app_ltok1 (P := Try.prog) (A := ann) (f := 64) (d := 40) (a := 2) (es := (numsL rows.length (j + 1)).map (.int .i64)) (L := [.row 0 [.agg [.int .i64 k, .str s, .sl (nodesA l) .no]], .row 0 [.agg [.int .i64 6, .int .i64 0, .str s, .sl ((numsL rows.length (j + 1)).map (.int .i64)) (.own true 2)]], .tok (j + 1) 1]) (G := G) (xs := [.int .i64 ((rows.length + (j + 1) : Nat) : Int)]) elKint
            (by simp [nums_len, tz3]) handX_int rfl (by simp only [szOk, tz3]; rfl) (by simp) (by rw [ty3, List.length_map, nums_len]; simp only [mostBytes, List.length_cons, List.length_nil]; omega)
          have ea : (numsL rows.length (j + 1)).map (AV.int .i64) ++ (.int .i64 ((rows.length + (j + 1) : Nat) : Int)) :: handAs true [] = (numsL rows.length (j + 1 + 1)).map (AV.int .i64) := by rw [nums_succ rows.length (j + 1)]; simp [handAs]
          rw [ea] at happ1
          simp only [handAs, tz3, List.length_map, nums_len, List.length_cons, List.length_nil, Nat.zero_add, Nat.reduceAdd, List.set_cons_succ, List.set_cons_zero] at happ1
          have ht : ∀ e, trim 2 e [.row 0 [.agg [.int .i64 k, .str s, .sl (nodesA l) .no]], .row 0 [.agg [.int .i64 6, .int .i64 0, .str s, .sl ((numsL rows.length (j + 1 + 1)).map (.int .i64)) (.own true 2)]], .tok (j + 1 + 1) 1] = [.row 0 [.agg [.int .i64 k, .str s, .sl (nodesA l) .no]], .row 0 [.agg [.int .i64 6, .int .i64 0, .str s, .sl ((numsL rows.length (j + 1 + 1)).map (.int .i64)) (.own true 2)]], .tok (j + 1 + 1) 1] := fun e => trim_blk (by simp [Blk.bel, bels, refss, AV.refs, Tok.refs])
          refine ⟨_, by simp only [lstL, st12, agAt, cellC, go_sem, Nat.reduceEqDiff, h, hL, hw, hwi, hlen, happ1, happ2, ht, Nat.reduceAdd, Nat.reduceLeDiff, Nat.reduceMul, Nat.reducePow, show ((0 : Nat) < 1) = True from by decide, show ((3 : Nat) = 0) = False from by decide] <;> rfl, ?_⟩
          exact .inl ⟨j + 1 + 1, by omega, by omega, by
            have : (rowsAt rows (j + 1) ++ [AV.sl [] Tok.full]).length = rows.length + (j + 1) + 1 := by simp [hlen]
            have e2 : rowsAt rows (j + 1 + 1) = rowsAt rows (j + 1) ++ [AV.sl [] Tok.full] := rfl
            simp only [lstL, st12, agAt, cellC]
            rw [e2, this]
            rfl⟩
      · have hil : i = l.length := by omega
        subst hil
        cases hl : l.length with
        | zero => exact ⟨_, by simp only [lstL, st12, go_sem, Nat.reduceEqDiff, Int.lt_irrefl, hL, hl] <;> rfl, .inr ⟨_, rfl, by simp [lstL, st12]⟩⟩
        | succ n => exact ⟨_, by simp only [lstL, st12, go_sem, Nat.reduceEqDiff, Int.lt_irrefl, hL, hl] <;> rfl, .inr ⟨_, rfl, by simp only [lstL, st12]⟩⟩
    have hB0 : Rows12 (rowsAt rows l.length) toks (B ++ List.replicate l.length []) := by rw [rowsAt_eq]; exact rows12_rep hR _
    have hst0 : St12 (st12 (g + l.length) (rowsAt rows l.length) (agAt true l.length) toks) (B ++ List.replicate l.length []) := ⟨_, _, _, _, rfl, ne_of_len (by simp; omega), hB0⟩
    generalize st12 (g + l.length) (rowsAt rows l.length) (agAt true l.length) toks = G0 at hst0 ⊢
    have hL0 := @lst0 (.agg [.int .i64 k, .str s, .sl (nodesA l) .no]) s rows.length l.length
    have hL1 := @lst1 (.agg [.int .i64 k, .str s, .sl (nodesA l) .no]) s rows.length l.length
    have hL2 := @lst_len (.agg [.int .i64 k, .str s, .sl (nodesA l) .no]) s rows.length l.length
    generalize lstL (.agg [.int .i64 k, .str s, .sl (nodesA l) .no]) s rows.length l.length = Lx at hL0 hL1 hL2 ⊢
    simp only [go_sem, Nat.reduceEqDiff, Nat.reduceAdd, Nat.reduceLeDiff]
    generalize hw : loopW _ _ _ _ _ _ = w
    obtain ⟨ou, rfl, G1, rfl, hst⟩ : ∃ ou, w = some ou ∧ ∃ G1 : Hp, ou = (.exit 2, [(0, .ptr false 1 0 0 0), (1, .int .i64 b), (7, .ptr true 1 0 0 0)], Lx, G1) ∧ St12 G1 (compL l rows.length (B ++ List.replicate l.length [])) := by
      rw [← hw]
      clear hw
      refine loop_ex (σ := Nat × Hp × CodeT) (fun q => [(0, .ptr false 1 0 0 0), (1, .int .i64 b), (5, .ptr true 0 0 0 0), (6, .int .i64 rows.length), (7, .ptr true 1 0 0 0), (9, .int .i64 q.1)]) (fun q => Lx) (fun q => q.2.1)
        (fun q => q.1 ≤ l.length ∧ St12 q.2.1 q.2.2 ∧ q.2.2.length + tszs (l.drop q.1) + 1 ≤ 2 ^ 30 + (l.length - q.1) ∧ opsum q.2.2 + tszs (l.drop q.1) ≤ 2 ^ 30 ∧ rows.length + l.length ≤ q.2.2.length ∧ (∀ j, q.1 ≤ j → j < l.length → q.2.2[rows.length + j]? = some []) ∧
          compL l rows.length (B ++ List.replicate l.length []) = compL (l.drop q.1) (rows.length + q.1) q.2.2) (fun q => l.length - q.1) _ ?_ (0, G0, B ++ List.replicate l.length [])
        ⟨Nat.zero_le _, hst0, by simp only [List.length_append, List.length_replicate, List.drop_zero]; omega, by simp only [opsum_app, opsum_rep, List.drop_zero]; omega, by simp [hrl], fun j _ hj => by
          simp only
          rw [List.getElem?_append_right (by omega), List.getElem?_replicate, if_pos (by omega)], by simp⟩
      rintro ⟨i, G1, B1⟩ ⟨q1, q2, q3, q4, q5, q6, q7⟩
      simp only at q1 q2 q3 q4 q5 q6 q7
      have hw : IntKind.i64.wrap ((i : Int) + 1) = ((i + 1 : Nat) : Int) := by rw [wrap_in] <;> omega
      have hwi : IntKind.i64.wrap ((rows.length : Int) + (i : Int)) = ((rows.length + i : Nat) : Int) := by rw [wrap_in] <;> omega
      by_cases hi : i < l.length
      · obtain ⟨x, hx⟩ : ∃ x, l[i]? = some x := ⟨_, List.getElem?_eq_getElem hi⟩
        have hx' : (nodesA l)[i]? = some (nodeA x) := by rw [nodesA_get, hx]; rfl
        have htd := tszs_drop hx
        have hdl := len_tszs (l.drop (i + 1))
        rw [List.length_drop] at hdl
        have hdr : l.drop i = x :: l.drop (i + 1) := by
          obtain ⟨h1, rfl⟩ := List.getElem?_eq_some_iff.1 hx
          rw [List.drop_eq_getElem_cons h1]
        rw [hdr, compL] at q7
        obtain ⟨G2, c1, c2⟩ := ih x (List.mem_of_getElem? hx) G1 B1 (rows.length + i) q2 (by omega) (by omega) (by omega)
        have cb := comp_blk x B1
        have cl := comp_len x B1
        have ce := comp_le x B1
        have ck := comp_keep x B1
        have cs := opsum_set_le (comp x B1).2 (rows.length + i) (comp x B1).1
        rw [appB_nil _ (by rw [ck _ (by omega)]; exact q6 i (Nat.le_refl _) hi)] at c2
        obtain ⟨kx, sx, lx⟩ := x
        simp only [nodeA] at hx' c1
        refine ⟨_, by simp only [go_sem, Nat.reduceEqDiff, hL0, hi, hL, hx', hw, hwi, c1, trim_self, Nat.reduceAdd, Nat.reduceLeDiff, show ((3 : Nat) = 0) = False from by decide] <;> rfl, ?_⟩
        exact .inl ⟨(i + 1, G2, _), ⟨by simp only; omega, c2, by simp only [List.length_set]; omega, by simp only; omega, by simp only [List.length_set]; omega, fun j hj hj2 => by
          simp only at hj ⊢
          rw [List.getElem?_set_ne (by omega), ck _ (by omega)]; exact q6 j (by omega) hj2, by simp only [q7]; rfl⟩, by simp only; omega, rfl⟩
      · have e : l.drop i = [] := List.drop_eq_nil_of_le (by omega)
        rw [e, compL] at q7
        refine ⟨_, by simp only [go_sem, Nat.reduceEqDiff, hL0, hi, hL] <;> rfl, .inr ⟨_, rfl, G1, rfl, by rw [q7]; exact q2⟩⟩
    have hcl := compL_len l rows.length (B ++ List.replicate l.length [])
    have hce := compL_le l rows.length (B ++ List.replicate l.length [])
    rw [opsum_app, opsum_rep] at hce
    rw [List.length_append] at hcl
    obtain ⟨g1, rows1, ag1, toks1, rfl, hne1, hR1⟩ := hst
    have hb1 : b < (compL l rows.length (B ++ List.replicate l.length [])).length := by omega
    obtain ⟨es, t, es', a, toks', hr, ht, happ, hR', hno⟩ := app12 (g := g1) (ag := ag1) hR1 hb1 ⟨6, 0, s, numsL rows.length l.length⟩ (by omega)
    have hbl : b < rows1.length := by rw [hR1.1]; exact hb1
    have hlen : (rows1.set b (AV.sl es' (.own false a))).length = rows1.length := by simp
    refine ⟨st12 g1 (rows1.set b (.sl es' (.own false a))) ag1 toks', ?_, ⟨_, _, _, _, rfl, ne_of_len (by rw [appB_len]; omega), hR'⟩⟩
    have happ := fun sl L => happ 64 73 sl L rfl rfl
    have hbase : (1 < Lx.length) = True := eq_true (by omega)
    simp only [opA, intsA] at happ
    simp only [st12, hlen]
    cases ag1
    all_goals
      simp only [cellC] at happ ⊢
      rcases ht with rfl | ⟨a0, rfl⟩
      all_goals
        simp only [go_sem, Nat.reduceEqDiff, hL1, hr, hbl, happ, hno, hbase, Nat.reduceAdd, Nat.reduceLeDiff, Nat.reduceMul, Nat.reducePow, Nat.reduceLT, show ((0 : Nat) < 1) = True from by decide, show ((3 : Nat) = 0) = False from by decide]
end Ev
