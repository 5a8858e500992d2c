/- Compile, the program's way: lazy calls. -/
import Derived.Test.YtecflllnnbiheaaT25
set_option maxHeartbeats 4000000
set_option linter.unusedVariables false
set_option linter.unusedSimpArgs false
namespace Ev
open Go Go.Proofs
set_option maxRecDepth 10000
theorem elKops : ElK Try.prog 42 := ⟨by rw [tz42]; decide, by rw [ty42]; decide, by rw [t042]; rfl, by rw [tn42, tz42]⟩
theorem elKint : ElK Try.prog 3 := ⟨by rw [tz3]; decide, by rw [ty3]; decide, by rw [t03]; rfl, by rw [tn3, tz3]⟩
/-- the numbers of so many blocks, from one on -/
def numsL (b n : Nat) : List Int := (List.range n).map fun i => ((b + i : Nat) : Int)
theorem nums_succ (b n : Nat) : numsL b (n + 1) = numsL b n ++ [((b + n : Nat) : Int)] := by simp [numsL, List.range_succ]
theorem nums_len (b n : Nat) : (numsL b n).length = n := by simp [numsL]
theorem nums_get (b n i : Nat) (h : i < n) : ((numsL b n).map (AV.int .i64))[i]? = some (.int .i64 ((b + i : Nat) : Int)) := by simp [numsL, h]
def rowN (n : AV) : Blk := .row 0 [n]
def rowOp (s : List UInt8) (l : List Int) (t : Tok) : Blk := .row 0 [.agg [.int .i64 6, .int .i64 0, .str s, .sl (l.map (.int .i64)) t]]
/-- the frame's own heap behind so many rounds -/
def lstL (n : AV) (s : List UInt8) (b : Nat) : Nat → Hp
  | 0 => [.row 0 [n], .row 0 [.agg [.int .i64 6, .int .i64 0, .str s, .sl [] .full]]]
  | i + 1 => [.row 0 [n], .row 0 [.agg [.int .i64 6, .int .i64 0, .str s, .sl ((numsL b (i + 1)).map (.int .i64)) (.own true 2)]], .tok (i + 1) 1]
def rowsAt (rows : List AV) : Nat → List AV
  | 0 => rows
  | i + 1 => rowsAt rows i ++ [.sl [] .full]
theorem rowsAt_eq (rows : List AV) : ∀ i, rowsAt rows i = rows ++ List.replicate i (.sl [] .full)
  | 0 => by simp [rowsAt]
  | i + 1 => by rw [rowsAt, rowsAt_eq rows i, List.append_assoc, List.replicate_succ']
def agAt (ag : Bool) : Nat → Bool
  | 0 => ag
  | _ + 1 => false
theorem rows_rep {rows : List AV} {B : CodeT} (h : RowsR rows B) : ∀ n, RowsR (rows ++ List.replicate n (.sl [] .full)) (B ++ List.replicate n [])
  | n => by
    refine ⟨by simp [h.1], fun i b hb => ?_⟩
    rw [List.getElem?_append] at hb ⊢
    rw [h.1]
    split at hb
    · next hi => rw [if_pos hi]; exact h.2 i b hb
    · next hi =>
      rw [if_neg hi]
      rw [List.getElem?_replicate] at hb ⊢
      split at hb
      · next hj => cases hb; rw [if_pos hj]; exact ⟨.full, .inr rfl, rfl⟩
      · cases hb
theorem rowsR_set {rows : List AV} {B : CodeT} (h : RowsR rows B) (i : Nat) (o : List OpT) {t : Tok} (ht : t = .no ∨ t = .full) : RowsR (rows.set i (.sl (o.map opA) t)) (B.set i o) := by
  refine ⟨by simp [h.1], fun j b hb => ?_⟩
  rw [List.getElem?_set] at hb ⊢
  rw [h.1]
  split at hb
  · next hij =>
    rw [if_pos hij]
    split at hb
    · next hlt => cases hb; rw [if_pos hlt]; exact ⟨t, ht, rfl⟩
    · cases hb
  · next hij => rw [if_neg hij]; exact h.2 j b hb
def tkA : Nat → Tok
  | 0 => .full
  | _ + 1 => .own true 2
theorem lst0 {n : AV} {s : List UInt8} {b : Nat} : ∀ i, (lstL n s b i)[0]? = some (.row 0 [n])
  | 0 => rfl
  | _ + 1 => rfl
theorem lst1 {n : AV} {s : List UInt8} {b : Nat} : ∀ i, (lstL n s b i)[1]? = some (.row 0 [.agg [.int .i64 6, .int .i64 0, .str s, .sl ((numsL b i).map (.int .i64)) (tkA i)]])
  | 0 => rfl
  | _ + 1 => rfl
theorem lst_len {n : AV} {s : List UInt8} {b : Nat} : ∀ i, 2 ≤ (lstL n s b i).length
  | 0 => Nat.le_refl 2
  | _ + 1 => by simp [lstL]
theorem lst_bel {n : AV} (hn : ∀ Q, n.refs Q = true) {s : List UInt8} {b : Nat} : ∀ i, (lstL n s b i).all (Blk.bel (lstL n s b i).length) = true
  | 0 => by simp [lstL, Blk.bel, bels, refss, AV.refs, Tok.refs, hn]
  | i + 1 => by simp [lstL, Blk.bel, bels, refss, AV.refs, Tok.refs, hn, refs_ints]
theorem trim_back {e : Env} {L : Hp} (h : bels L.length (valsE e) = true) (h2 : L.all (Blk.bel L.length) = true) (K : Hp) : trim L.length e (L ++ K) = L := by
  unfold trim
  rw [List.take_left, h, h2]
  split
  · next hk => rw [List.length_append] at hk; rw [List.length_eq_zero_iff.1 (show K.length = 0 by omega), List.append_nil]
  · simp
theorem lazy_ok (k : Int) (s : List UInt8) (l : List NodeT) (ih : ∀ x ∈ l, WriteOk x) (G : Hp) (B : CodeT) (hG : StC G B) (hb : B.length + tsz (.mk k s l) ≤ 2 ^ 30) : ∃ G',
    (∀ L, callA (cfg Try.prog ann) 40 [nodeA (.mk k s l), .ptr false 1 0 0 0, .ptr false 2 0 0 0] L G = some (.val (.sl [opA ⟨6, 0, s, numsL B.length l.length⟩] .full), L, G')) ∧ StC G' (compL l B.length (B ++ List.replicate l.length [])) := by
  suffices hh : ∃ G', ev Try.prog ann 40 [nodeA (.mk k s l), .ptr false 1 0 0 0, .ptr false 2 0 0 0] G = some (.val (.sl [opA ⟨6, 0, s, numsL B.length l.length⟩] .full), G') ∧ StC G' (compL l B.length (B ++ List.replicate l.length [])) by
    obtain ⟨G', h1, h2⟩ := hh
    refine ⟨G', fun L => call_sees rfl rfl ?_ ?_ ?_, h2⟩
    · simp only [nodeA, handAs, handA, noLs, refss, AV.refs, Tok.refs, Tok.drop, Bool.false_eq_true, if_false, refs_nodes, Bool.and_self, Bool.not_false]
    · have := refs_ops (Q := fun loc _ => !loc) [⟨6, 0, s, numsL B.length l.length⟩]
      simp only [List.map_cons, List.map_nil] at this
      simp only [AV.noL, AV.refs, Tok.refs, this, Bool.and_self]
    · simp only [nodeA, handAs, handA, Tok.drop, Bool.false_eq_true, if_false]
      simp only [nodeA] at h1
      exact h1
  rw [tsz] at hb
  have hlim := len_tszs l
  obtain ⟨g, rows, ag, rfl, hR, hne⟩ := hG
  have hrl := hR.1
  have hBpos : 0 < B.length := List.length_pos_iff.2 hne
  rw [fun_some Try.func40 rfl rfl]
  simp only [nodeA]
  simp only [go_sem, Nat.reduceEqDiff, Nat.reduceAdd, Nat.reduceLeDiff, show ((4 : Nat) = 0) = False from by decide, nodesA_len]
  generalize hw : loopW _ _ _ _ _ _ = w
  obtain ⟨ou, rfl, rfl⟩ : ∃ ou, w = some ou ∧ ou = (.exit 0, [(1, .ptr false 1 0 0 0), (2, .ptr false 2 0 0 0), (3, .ptr true 0 0 0 0), (5, .ptr true 1 0 0 0)], lstL (.agg [.int .i64 k, .str s, .sl (nodesA l) .no]) s B.length l.length, stC (g + l.length) (rowsAt rows l.length) (agAt ag l.length)) := by
    rw [← hw]
    clear hw
    refine loop_ex (σ := Nat) (fun i => [(1, .ptr false 1 0 0 0), (2, .ptr false 2 0 0 0), (3, .ptr true 0 0 0 0), (5, .ptr true 1 0 0 0), (14, .int .i64 l.length), (15, .int .i64 i)]) (fun i => lstL (.agg [.int .i64 k, .str s, .sl (nodesA l) .no]) s B.length i) (fun i => stC (g + i) (rowsAt rows i) (agAt ag i)) (fun i => i ≤ l.length) (fun i => l.length - i) _ ?_ 0 (Nat.zero_le _)
    intro i hi
    have hw : IntKind.i64.wrap ((i : Int) + 1) = ((i + 1 : Nat) : Int) := by rw [wrap_in] <;> omega
    have hlen : (rowsAt rows i).length = B.length + i := by simp [rowsAt_eq, hrl]
    have hrne : rowsAt rows i ≠ [] := by intro e; rw [e] at hlen; simp at hlen; omega
    by_cases h : i < l.length
    · have hoe : szOk Try.prog 42 (rowsAt rows i) = true := by
        cases hr : rowsAt rows i with
        | nil => exact absurd hr hrne
        | cons v r =>
          have hz : ∃ t b, v = AV.sl b t := by
            have h0 : (rows ++ List.replicate i (AV.sl [] .full))[0]? = some v := by rw [← rowsAt_eq, hr]; rfl
            obtain ⟨b0, hb0⟩ : ∃ b0 : List OpT, B[0]? = some b0 := ⟨_, List.getElem?_eq_getElem hBpos⟩
            obtain ⟨t, _, ht⟩ := hR.2 0 b0 hb0
            rw [List.getElem?_append_left (by omega), ht] at h0
            cases h0
            exact ⟨_, _, rfl⟩
          obtain ⟨t, b, rfl⟩ := hz
          simp only [szOk, tz42]; rfl
      have hG0 : ∀ G : Hp, (stC (g + i) (rowsAt rows i) (agAt ag i))[0]? = some (.row (g + i) (rowsAt rows i)) := fun _ => rfl
      have happ2 := fun L => app_row1 (P := Try.prog) (A := ann) (f := 40) (d := 28) (sl := none) (L := L) (G := stC (g + i) (rowsAt rows i) (agAt ag i)) (b := 0) elKops rfl hrne hoe (xs := [.sl [] .full]) handX_one rfl (by simp only [szOk, tz42]; rfl) (by simp) rfl
        (by rw [ty42, hlen]; simp only [mostBytes, List.length_cons, List.length_nil]; omega)
      rw [hlen] at happ2
      simp only [stC, hlen] at happ2
      cases i with
      | zero =>
        have happ1 := fun G => app_ltok0 (P := Try.prog) (A := ann) (f := 40) (d := 23) (L := [.row 0 [.agg [.int .i64 k, .str s, .sl (nodesA l) .no]], .row 0 [.agg [.int .i64 6, .int .i64 0, .str s, .sl [] .full]]]) (G := G) (xs := [.int .i64 ((B.length + 0 : Nat) : Int)]) elKint rfl rfl handX_int rfl (by simp only [szOk, tz3]; rfl) (by simp) (by rw [ty3]; simp [mostBytes])
        have ht : ∀ e, trim 2 e [.row 0 [.agg [.int .i64 k, .str s, .sl (nodesA l) .no]], .row 0 [.agg [.int .i64 6, .int .i64 0, .str s, .sl [.int .i64 ((B.length + 0 : Nat) : Int)] (.own true 2)]], .tok 1 1] = [.row 0 [.agg [.int .i64 k, .str s, .sl (nodesA l) .no]], .row 0 [.agg [.int .i64 6, .int .i64 0, .str s, .sl [.int .i64 ((B.length + 0 : Nat) : Int)] (.own true 2)]], .tok 1 1] := fun e => trim_blk (by simp [Blk.bel, bels, refss, AV.refs, Tok.refs])
        have h' : ((0 : Int) < (l.length : Int)) = True := eq_true (by omega)
        simp only [handAs, tz3, List.length_cons, List.length_nil, Nat.zero_add, Nat.reduceAdd, List.cons_append, List.nil_append] at happ1 ht
        simp only [Nat.add_zero] at happ1 happ2 hlen ht
        cases ag
        all_goals
          simp only [agAt, cellC] at happ2
          refine ⟨_, by simp only [lstL, stC, agAt, cellC, go_sem, Nat.reduceEqDiff, h', show IntKind.i64.wrap (0 + 1) = 1 from by decide, hlen, happ1, happ2, ht, Nat.reduceAdd, Nat.reduceLeDiff, Nat.reduceMul, Nat.reducePow, Int.natCast_zero, show ((0 : Nat) < 1) = True from by decide] <;> rfl, ?_⟩
          exact .inl ⟨1, by omega, by omega, by
            have : (rowsAt rows 0 ++ [AV.sl [] Tok.full]).length = B.length + 1 := by simp [hlen]
            simp only [lstL, stC, agAt, cellC, rowsAt] at this ⊢
            rw [this]
            rfl⟩
      | succ j =>
        have happ1 := fun G => app_ltok1 (P := Try.prog) (A := ann) (f := 40) (d := 23) (a := 2) (es := (numsL B.length (j + 1)).map (.int .i64)) (L := [.row 0 [.agg [.int .i64 k, .str s, .sl (nodesA l) .no]], .row 0 [.agg [.int .i64 6, .int .i64 0, .str s, .sl ((numsL B.length (j + 1)).map (.int .i64)) (.own true 2)]], .tok (j + 1) 1]) (G := G) (xs := [.int .i64 ((B.length + (j + 1) : Nat) : Int)]) elKint
          (by simp [nums_len, tz3]) handX_int rfl (by simp only [szOk, tz3]; rfl) (by simp) (by rw [ty3, List.length_map, nums_len]; simp only [mostBytes, List.length_cons, List.length_nil]; omega)
        have ea : (numsL B.length (j + 1)).map (AV.int .i64) ++ (.int .i64 ((B.length + (j + 1) : Nat) : Int)) :: handAs true [] = (numsL B.length (j + 1 + 1)).map (AV.int .i64) := by rw [nums_succ B.length (j + 1)]; simp [handAs]
        rw [ea] at happ1
        simp only [handAs, tz3, List.length_map, nums_len, List.length_cons, List.length_nil, Nat.zero_add, Nat.reduceAdd, List.set_cons_succ, List.set_cons_zero] at happ1
        have ht : ∀ e, trim 2 e [.row 0 [.agg [.int .i64 k, .str s, .sl (nodesA l) .no]], .row 0 [.agg [.int .i64 6, .int .i64 0, .str s, .sl ((numsL B.length (j + 1 + 1)).map (.int .i64)) (.own true 2)]], .tok (j + 1 + 1) 1] = [.row 0 [.agg [.int .i64 k, .str s, .sl (nodesA l) .no]], .row 0 [.agg [.int .i64 6, .int .i64 0, .str s, .sl ((numsL B.length (j + 1 + 1)).map (.int .i64)) (.own true 2)]], .tok (j + 1 + 1) 1] := fun e => trim_blk (by simp [Blk.bel, bels, refss, AV.refs, Tok.refs])
        simp only [agAt, cellC] at happ2
        refine ⟨_, by simp only [lstL, stC, agAt, cellC, go_sem, Nat.reduceEqDiff, h, hw, hlen, happ1, happ2, ht, Nat.reduceAdd, Nat.reduceLeDiff, Nat.reduceMul, Nat.reducePow, show ((0 : Nat) < 1) = True from by decide] <;> rfl, ?_⟩
        exact .inl ⟨j + 1 + 1, by omega, by omega, by
          have : (rowsAt rows (j + 1) ++ [AV.sl [] Tok.full]).length = B.length + (j + 1) + 1 := by simp [hlen]
          have e2 : rowsAt rows (j + 1 + 1) = rowsAt rows (j + 1) ++ [AV.sl [] Tok.full] := rfl
          simp only [lstL, stC, agAt, cellC]
          rw [e2, this]
          rfl⟩
    · have hil : i = l.length := by omega
      subst hil
      cases hl : l.length with
      | zero => exact ⟨_, by simp only [lstL, stC, go_sem, Nat.reduceEqDiff, Int.lt_irrefl, hl] <;> rfl, .inr ⟨_, rfl, by simp [lstL, stC]⟩⟩
      | succ n => exact ⟨_, by simp only [lstL, stC, go_sem, Nat.reduceEqDiff, Int.lt_irrefl, hl] <;> rfl, .inr ⟨_, rfl, by simp only [lstL, stC]⟩⟩
  have hB0 : RowsR (rowsAt rows l.length) (B ++ List.replicate l.length []) := by rw [rowsAt_eq]; exact rows_rep hR _
  have hst0 : StC (stC (g + l.length) (rowsAt rows l.length) (agAt ag l.length)) (B ++ List.replicate l.length []) := ⟨_, _, _, rfl, hB0, by simp [hne]⟩
  generalize stC (g + l.length) (rowsAt rows l.length) (agAt ag l.length) = G0 at hst0
  have hL0 := @lst0 (.agg [.int .i64 k, .str s, .sl (nodesA l) .no]) s B.length l.length
  have hL1 := @lst1 (.agg [.int .i64 k, .str s, .sl (nodesA l) .no]) s B.length l.length
  have hL2 := @lst_len (.agg [.int .i64 k, .str s, .sl (nodesA l) .no]) s B.length l.length
  have hLb := @lst_bel (.agg [.int .i64 k, .str s, .sl (nodesA l) .no]) (fun Q => by simp only [AV.refs, refss, Tok.refs, refs_nodes, Bool.and_self]) s B.length l.length
  generalize lstL (.agg [.int .i64 k, .str s, .sl (nodesA l) .no]) s B.length l.length = Lx at hL0 hL1 hL2 hLb
  simp only [go_sem, Nat.reduceEqDiff, Nat.reduceAdd, Nat.reduceLeDiff, hL0, nodesA_len]
  generalize hw : loopW _ _ _ _ _ _ = w
  obtain ⟨ou, rfl, L', G', rfl, h1', hst'⟩ : ∃ ou, w = some ou ∧ ∃ (L' G' : Hp), ou = (.exit 2, [(5, .ptr true 1 0 0 0)], L', G') ∧ L'[1]? = Lx[1]? ∧ StC G' (compL l B.length (B ++ List.replicate l.length [])) := by
    rw [← hw]
    clear hw
    refine loop_ex (σ := Nat × Hp × CodeT) (fun q => [(1, .ptr false 1 0 0 0), (2, .ptr false 2 0 0 0), (5, .ptr true 1 0 0 0), (32, .sl (nodesA l) .no), (33, .int .i64 l.length), (34, .int .i64 q.1)]) (fun q => Lx) (fun q => q.2.1)
      (fun q => q.1 ≤ l.length ∧ StC q.2.1 q.2.2 ∧ q.2.2.length + tszs (l.drop q.1) + 1 ≤ 2 ^ 30 + (l.length - q.1) ∧ B.length + l.length ≤ q.2.2.length ∧ compL l B.length (B ++ List.replicate l.length []) = compL (l.drop q.1) (B.length + q.1) q.2.2) (fun q => l.length - q.1) _ ?_ (0, G0, B ++ List.replicate l.length [])
      ⟨Nat.zero_le _, hst0, by simp only [List.length_append, List.length_replicate, List.drop_zero]; omega, by simp, by simp⟩
    rintro ⟨i, G1, B1⟩ ⟨q1, q2, q3, q4, q5⟩
    simp only at q1 q2 q3 q4 q5
    have hL := nodesA_len l
    have hw : IntKind.i64.wrap ((i : Int) + 1) = ((i + 1 : Nat) : Int) := by rw [wrap_in] <;> omega
    by_cases hi : i < l.length
    · obtain ⟨x, hx⟩ : ∃ x, l[i]? = some x := ⟨_, List.getElem?_eq_getElem hi⟩
      have hx' : (nodesA l)[i]? = some (nodeA x) := by rw [nodesA_get, hx]; rfl
      have htd := tszs_drop hx
      have hdl := len_tszs (l.drop (i + 1))
      rw [List.length_drop] at hdl
      have hdr : l.drop i = x :: l.drop (i + 1) := by
        obtain ⟨h1, rfl⟩ := List.getElem?_eq_some_iff.1 hx
        rw [List.drop_eq_getElem_cons h1]
      rw [hdr, compL] at q5
      obtain ⟨tx, G2, ht2, c1, c2⟩ := ih x (List.mem_of_getElem? hx) G1 B1 q2 (by omega)
      have cb := comp_blk x B1
      have cl := comp_len x B1
      obtain ⟨g1, rows1, ag1, rfl, hR1, hne1⟩ := q2
      obtain ⟨g2, rows2, ag2, rfl, hR2, hne2⟩ := c2
      have hidx : B.length + i < rows2.length := by rw [hR2.1]; omega
      obtain ⟨b0, hb0⟩ : ∃ b0 : List OpT, (comp x B1).2[B.length + i]? = some b0 := ⟨_, List.getElem?_eq_getElem (by omega)⟩
      obtain ⟨t0, _, hr0⟩ := hR2.2 _ _ hb0
      have hnum := nums_get B.length l.length i hi
      have hcat : ∀ y : Blk, (Lx ++ [y])[Lx.length]? = some y := fun y => by simp
      have hset : ∀ y z : Blk, (Lx ++ [y]).set Lx.length z = Lx ++ [z] := fun y z => by simp
      have hc1 : ∀ y : Blk, (Lx ++ [y])[1]? = some (.row 0 [.agg [.int .i64 6, .int .i64 0, .str s, .sl ((numsL B.length l.length).map (.int .i64)) (tkA l.length)]]) := fun y => by rw [List.getElem?_append_left (by omega)]; exact hL1
      have ht : ∀ (j : Int) (y : Blk), trim Lx.length [(1, .ptr false 1 0 0 0), (2, .ptr false 2 0 0 0), (5, .ptr true 1 0 0 0), (32, .sl (nodesA l) .no), (33, .int .i64 l.length), (34, .int .i64 j)] (Lx ++ [y]) = Lx := fun j y =>
        trim_back (by simp only [bels, valsE, List.map_cons, List.map_nil, refss, AV.refs, Tok.refs, refs_nodes, Bool.not_false, Bool.not_true, Bool.true_or, Bool.false_or, Bool.and_true, Bool.true_and]; simp; omega) hLb [y]
      have hlen2 : (rows2.set (B.length + i) (.sl ((comp x B1).1.map opA) tx)).length = rows2.length := by simp
      have hbase : (1 < Lx.length + 1) = True := eq_true (by omega)
      have hstn : StC (stC g2 (rows2.set (B.length + i) (.sl ((comp x B1).1.map opA) tx)) ag2) ((comp x B1).2.set (B.length + i) (comp x B1).1) := ⟨_, _, _, rfl, rowsR_set hR2 _ _ ht2, by intro e; have hh := congrArg List.length e; rw [List.length_set, List.length_nil] at hh; omega⟩
      obtain ⟨kx, sx, lx⟩ := x
      simp only [nodeA] at hx' c1
      cases ag2
      all_goals
        simp only [stC, cellC] at c1 hstn
        rw [hlen2] at hstn
        rcases ht2 with rfl | rfl
        all_goals
          refine ⟨_, by simp only [stC, cellC, go_sem, Nat.reduceEqDiff, hi, hL, hx', hw, hcat, hset, hc1, c1, hnum, hidx, hr0, ht, hbase, refs_ops, List.length_append, Nat.reduceAdd, Nat.reduceLeDiff, Nat.reduceMul, Nat.reducePow, show ((3 : Nat) = 0) = False from by decide] <;> rfl, ?_⟩
          exact .inl ⟨(i + 1, _, _), ⟨by simp only; omega, hstn, by simp only [List.length_set]; omega, by simp only [List.length_set]; omega, by simp only [q5]; rfl⟩, by simp only; omega, rfl⟩
    · have e : l.drop i = [] := List.drop_eq_nil_of_le (by omega)
      rw [e, compL] at q5
      refine ⟨_, by simp only [go_sem, Nat.reduceEqDiff, hi, hL] <;> rfl, .inr ⟨_, rfl, Lx, G1, rfl, rfl, by rw [q5]; exact q2⟩⟩
  refine ⟨G', ?_, hst'⟩
  rw [hL1] at h1'
  simp only [go_sem, Nat.reduceEqDiff, h1', opA, intsA, Nat.reduceAdd, Nat.reduceLeDiff, Nat.reduceMul, Nat.reducePow, show ((0 : Nat) < 1) = True from by decide]
end Ev
