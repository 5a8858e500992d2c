/- Lists of texts, each read; nodes as one. -/
import Derived.Test.YtecflllnnbiheaaT20
set_option maxHeartbeats 4000000
set_option linter.unusedVariables false
set_option linter.unusedSimpArgs false
namespace Ev
open Go Go.Proofs
set_option maxRecDepth 10000
def ParseOk (s : List UInt8) : Prop := ∀ nest : Int, 0 ≤ nest → nest ≤ 40 → ∃ n e, (∀ L G, callA (cfg Try.prog ann) 31 [.str s, .int .i64 nest] L G = some (.val (.tup [nodeA n, .int .i64 e]), L, G)) ∧ (e = 0 → tsz n ≤ s.length + 1 ∧ slen n ≤ s.length)
theorem wsum_take {l : List (List UInt8)} {i : Nat} {x : List UInt8} (h : l[i]? = some x) : wsum (l.take (i + 1)) = wsum (l.take i) + (x.length + 1) := by
  have e : l.take (i + 1) = l.take i ++ [x] := by
    obtain ⟨h1, rfl⟩ := List.getElem?_eq_some_iff.1 h
    rw [List.take_append_getElem]
  rw [e, wsum_app, wsum, wsum]
theorem wsum_take_le (l : List (List UInt8)) (i : Nat) : wsum (l.take i) ≤ wsum l := by
  have : wsum l = wsum (l.take i) + wsum (l.drop i) := by rw [← wsum_app, List.take_append_drop]
  omega
theorem list_ok (l : List (List UInt8)) (hl : wsum l ≤ 2 ^ 29) (h : ∀ x ∈ l, ParseOk x) (nest : Int) (hn0 : 0 ≤ nest) (hn : nest ≤ 40) : ∃ m e, (∀ t L G, callA (cfg Try.prog ann) 76 [.sl (l.map .str) t, .int .i64 nest] L G = some (.val (.tup [.sl (nodesA m) .no, .int .i64 e]), L, G)) ∧
    (e = 0 → tszs m ≤ wsum l ∧ slens m + l.length ≤ wsum l ∧ m.length = l.length) := by
  suffices hh : ∃ m e G', ev Try.prog ann 76 [.sl (l.map .str) .no, .int .i64 nest] [] = some (.val (.tup [.sl (nodesA m) .no, .int .i64 e]), G') ∧ (e = 0 → tszs m ≤ wsum l ∧ slens m + l.length ≤ wsum l ∧ m.length = l.length) by
    obtain ⟨m, e, G', h1, h2⟩ := hh
    refine ⟨m, e, fun t L G => call_pure rfl rfl ?_ ?_ h1, h2⟩
    · simp only [handAs, handA, pfs, refss, AV.refs, Tok.drop, Tok.refs, refs_strs, if_true, Bool.and_self]
    · simp only [AV.pf, refss, AV.refs, Tok.refs, refs_nodes, Bool.and_self]
  have hlen := wsum_len l
  rw [fun_some Try.func76 rfl rfl]
  simp only [go_sem, Nat.reduceEqDiff]
  generalize hw : loopW _ _ _ _ _ _ = w
  obtain ⟨o, rfl, hq⟩ : ∃ o, w = some o ∧ ((∃ (m : List NodeT) (t : Tok) (L' : Hp), o = (.exit 0, [(6, .sl (nodesA m) t)], L', []) ∧ tszs m ≤ wsum l ∧ slens m + l.length ≤ wsum l ∧ m.length = l.length) ∨ ∃ (e : Int) (L' : Hp), o = (.ret, [(4, .sl [] .full), (5, .int .i64 e)], L', []) ∧ e ≠ 0) := by
    rw [← hw]
    clear hw
    refine loop_ex (σ := Nat × List NodeT × Tok × Hp) (fun q => [(0, .sl (l.map .str) .no), (1, .int .i64 nest), (6, .sl (nodesA q.2.1) q.2.2.1), (7, .int .i64 q.1)]) (fun q => q.2.2.2) (fun _ => [])
      (fun q => q.1 ≤ l.length ∧ Acc 3 (nodesA q.2.1) q.2.2.1 q.2.2.2 ∧ tszs q.2.1 ≤ wsum (l.take q.1) ∧ slens q.2.1 + q.1 ≤ wsum (l.take q.1) ∧ q.2.1.length = q.1) (fun q => l.length - q.1) _ ?_ (0, [], .full, []) ⟨by simp, acc_nil, by simp [tszs], by simp [slens], rfl⟩
    rintro ⟨i, m, t, L⟩ ⟨h1, h2, h3, h4, h5⟩
    simp only at h1 h2 h3 h4 h5
    have hw : IntKind.i64.wrap ((i : Int) + 1) = ((i + 1 : Nat) : Int) := by rw [wrap_in] <;> omega
    by_cases hi : i < l.length
    · obtain ⟨x, hx⟩ : ∃ x, l[i]? = some x := ⟨_, List.getElem?_eq_getElem hi⟩
      have hx' : (l.map AV.str)[i]? = some (.str x) := by rw [List.getElem?_map, hx]; rfl
      obtain ⟨n, e, hc, he⟩ := h x (List.mem_of_getElem? hx) nest hn0 hn
      have hcat : ∀ y : Blk, (L ++ [y])[L.length]? = some y := fun y => by simp
      have hset : ∀ y z : Blk, (L ++ [y]).set L.length z = L ++ [z] := fun y z => by simp
      obtain ⟨kn, sn, ln⟩ := n
      by_cases e0 : e = 0
      · subst e0
        obtain ⟨he1, he2⟩ := he rfl
        have wt := wsum_take hx
        have wl := wsum_take_le l (i + 1)
        have hm := len_tszs m
        have wl0 := wsum_take_le l i
        obtain ⟨t', L1, happ, hacc⟩ := app_acc (P := Try.prog) (A := ann) (f := 76) (d := 31) (xs := [nodeA (.mk kn sn ln)]) (ys := [nodeA (.mk kn sn ln)]) (L := L ++ [.row 0 [nodeA (.mk kn sn ln)]]) (l := nodesA m) (t := t) elKnode rfl rfl (by rw [tz30]; exact acc_more h2 _)
          (by have := handX_nodes [.mk kn sn ln]; simpa only [nodesA] using this) rfl (by have := szOk_nodes [.mk kn sn ln]; simpa only [nodesA] using this) (by simp) (by rw [ty30, nodesA_len]; simp only [mostBytes, List.length_cons, List.length_nil]; omega)
        rw [tz30] at hacc
        have ea : nodesA m ++ [nodeA (.mk kn sn ln)] = nodesA (m ++ [.mk kn sn ln]) := by rw [nodesA_app]; simp [nodesA]
        rw [ea] at happ hacc
        simp only [nodeA] at hc happ
        refine ⟨_, by simp only [go_sem, Nat.reduceEqDiff, hi, hx', hw, hc, hcat, hset, happ, show ((0 : Int) != 0) = false from rfl, Nat.reduceAdd, Nat.reduceLeDiff, Nat.reduceMul, Nat.reducePow, show ((0 : Nat) < 1) = True from by decide] <;> rfl, ?_⟩
        exact .inl ⟨(i + 1, m ++ [.mk kn sn ln], t', _), ⟨by simp only; omega, acc_trim (i := 6) hacc (by simp), by simp only [tszs_app, tszs]; omega, by simp only [slens_app, slens]; omega, by simp only [List.length_append, List.length_cons, List.length_nil]; omega⟩, by simp only; omega, rfl⟩
      · have en : (e != 0) = true := by simpa using e0
        simp only [nodeA] at hc
        exact ⟨_, by simp only [go_sem, Nat.reduceEqDiff, hi, hx', hw, hc, hcat, hset, en, Nat.reduceAdd, Nat.reduceLeDiff, Nat.reduceMul, Nat.reducePow, show ((0 : Nat) < 1) = True from by decide] <;> rfl, .inr ⟨_, rfl, .inr ⟨e, _, rfl, e0⟩⟩⟩
    · have e : l.take i = l := List.take_of_length_le (by omega)
      rw [e] at h3 h4
      exact ⟨_, by simp only [go_sem, Nat.reduceEqDiff, hi] <;> rfl, .inr ⟨_, rfl, .inl ⟨m, t, L, rfl, h3, by omega, by omega⟩⟩⟩
  rcases hq with ⟨m, t, L', rfl, h1, h2, h3⟩ | ⟨e, L', rfl, h1⟩
  · exact ⟨m, 0, _, by simp only [go_sem, Nat.reduceEqDiff, if_true] <;> rfl, fun _ => ⟨h1, h2, h3⟩⟩
  · exact ⟨[], e, _, by simp only [go_sem, Nat.reduceEqDiff, nodesA, if_true] <;> rfl, fun h => absurd h h1⟩
theorem nodes_noHs {l : List NodeT} : ∀ v ∈ nodesA l, hasHs v = false := fun v hv => by
  rw [nodesA_map] at hv
  obtain ⟨⟨k, s, m⟩, _, rfl⟩ := List.mem_map.1 hv
  rw [nodeA]; rfl
theorem hand_nodes : ∀ l, handAs true (nodesA l) = nodesA l
  | [] => by simp only [nodesA, handAs]
  | x :: l => by simp only [nodesA, handAs, hand_node, hand_nodes l]
/-- nodes as one: a node, its list still under way -/
theorem whole_ok {G : Hp} {es : List NodeT} {lv : AV} {m : Nat} (hm : m ≤ G.length) (h : Sl m lv G es) (hb : tszs es ≤ 2 ^ 29) (hb2 : slens es ≤ 2 ^ 29) : ∃ (k : Int) (s : List UInt8) (w : AV) (l : List NodeT) (G' : Hp),
    (∀ L, callA (cfg Try.prog ann) 59 [lv] L G = some (.val (.agg [.int .i64 k, .str s, w]), L, G')) ∧ w.isCell = true ∧ (∀ L, leave true L G' w = .sl (nodesA l) .no) ∧ tsz (.mk k s l) ≤ tszs es + 1 ∧ slen (.mk k s l) ≤ slens es := by
  suffices hh : ∃ (k : Int) (s : List UInt8) (w : AV) (l : List NodeT) (G' : Hp), ev Try.prog ann 59 [lv] G = some (.val (.agg [.int .i64 k, .str s, w]), G') ∧ w.noL = true ∧ w.isCell = true ∧ (∀ L, leave true L G' w = .sl (nodesA l) .no) ∧ tsz (.mk k s l) ≤ tszs es + 1 ∧ slen (.mk k s l) ≤ slens es by
    obtain ⟨k, s, w, l, G', h1, h2, h3, h4, h5, h6⟩ := hh
    refine ⟨k, s, w, l, G', fun L => call_sees rfl rfl ?_ ?_ ?_, h3, h4, h5, h6⟩
    · have := h.noL
      unfold AV.noL at this
      simp only [handAs, this, noLs, refss, Bool.and_self]
    · unfold AV.noL at h2 ⊢
      simp only [AV.refs, refss, h2, Bool.and_self]
    · simp only [handAs, h.noL.2]; exact h1
  rw [fun_some Try.func59 rfl rfl]
  simp only [go_sem, Nat.reduceEqDiff, Nat.reduceAdd, Nat.reduceLeDiff, show ((3 : Nat) = 0) = False from by decide]
  generalize hw : loopW _ _ _ _ _ _ = w
  obtain ⟨o, rfl, mv, G1, es1, rfl, q1, q2, q3⟩ : ∃ o, w = some o ∧ ∃ (mv : AV) (G1 : Hp) (es1 : List NodeT), o = (.exit 0, [(2, .ptr true 0 0 0 0), (3, mv)], [.row 0 [.agg [.int .i64 0, .str [], .sl [] .full]]], G1) ∧ Sl G.length mv G1 es1 ∧ tszs es1 ≤ tszs es ∧ slens es1 ≤ slens es := by
    rw [← hw]
    clear hw
    refine loop_ex (σ := Nat × AV × Hp × List NodeT) (fun q => [(0, lv), (2, .ptr true 0 0 0 0), (3, q.2.1), (4, .int .i64 q.1)]) (fun _ => [.row 0 [.agg [.int .i64 0, .str [], .sl [] .full]]]) (fun q => q.2.2.1)
      (fun q => q.1 ≤ es.length ∧ Sl G.length q.2.1 q.2.2.1 q.2.2.2 ∧ G.length ≤ q.2.2.1.length ∧ (∀ i, i < G.length → q.2.2.1[i]? = G[i]?) ∧ tszs q.2.2.2 ≤ tszs (es.take q.1) ∧ slens q.2.2.2 ≤ slens (es.take q.1)) (fun q => es.length - q.1) _ ?_ (0, .sl [] .full, G, []) ⟨Nat.zero_le _, .inl ⟨rfl, rfl⟩, Nat.le_refl _, fun _ _ => rfl, by simp, by simp⟩
    rintro ⟨i, mv, G1, es1⟩ ⟨q1, q2, q3, q4, q5, q6⟩
    simp only at q1 q2 q3 q4 q5 q6
    have hlim := len_tszs es
    have hw : IntKind.i64.wrap ((i : Int) + 1) = ((i + 1 : Nat) : Int) := by rw [wrap_in] <;> omega
    rcases h with ⟨rfl, rfl⟩ | ⟨b, g, hmb, rfl, hG, hne⟩
    · have hi : ¬ i < 0 := by omega
      have e1 : es1 = [] := by
        have := len_tszs es1
        simp [tszs] at q5
        exact List.length_eq_zero_iff.1 (by omega)
      refine ⟨_, by simp only [go_sem, Nat.reduceEqDiff, hi, Int.natCast_zero] <;> rfl, .inr ⟨_, rfl, mv, G1, es1, rfl, q2, by subst e1; simp [tszs], by subst e1; simp [slens]⟩⟩
    · have hb' := (List.getElem?_eq_some_iff.1 hG).1
      have hG1 : G1[b]? = some (.row g (nodesA es)) := by rw [q4 b hb', hG]
      by_cases hi : i < es.length
      · obtain ⟨x, hx⟩ : ∃ x, es[i]? = some x := ⟨_, List.getElem?_eq_getElem hi⟩
        have hsz := tszs_get hx
        have hsl := slens_get hx
        obtain ⟨tk1, tk2⟩ := take_next hx
        have hx' : (nodesA es)[i]? = some (nodeA x) := by rw [nodesA_get, hx]; rfl
        obtain ⟨lv2, G2, es2, c1, c2, c3, c4, c5, c6⟩ := putN_ok x .no (.inl rfl) G1 es1 mv G.length q3 q2 (by omega) (by omega)
        rw [nodeB_no] at c1
        obtain ⟨kx, sx, lx⟩ := x
        simp only [nodeA] at hx' c1
        refine ⟨_, by simp only [go_sem, Nat.reduceEqDiff, hi, hG1, hx', c1, hw, Nat.reduceAdd, Nat.reduceLeDiff] <;> rfl, ?_⟩
        exact .inl ⟨(i + 1, lv2, G2, es2), ⟨by simp only; omega, c2, by simp only; omega, fun j hj => by rw [← q4 j hj]; exact c4 j hj, by simp only; omega, by simp only; omega⟩, by simp only; omega, rfl⟩
      · have e : es.take i = es := List.take_of_length_le (by omega)
        rw [e] at q5 q6
        refine ⟨_, by simp only [go_sem, Nat.reduceEqDiff, hi] <;> rfl, .inr ⟨_, rfl, mv, G1, es1, rfl, q2, q5, q6⟩⟩
  have hL := nodesA_len es1
  rcases q1 with ⟨rfl, rfl⟩ | ⟨b, g, hmb, rfl, hG, hne⟩
  · refine ⟨1, [], .sl [] .full, [], _, by simp only [go_sem, Nat.reduceEqDiff, Nat.reduceAdd, Nat.reduceLeDiff, Int.natCast_zero, Int.reduceBEq] <;> rfl, rfl, rfl, fun L => by simp only [leave, Tok.drop, if_true, nodesA], by simp [tsz, tszs], by simp [slen, slens, badW, wf]⟩
  · by_cases h1 : es1.length = 1
    · obtain ⟨⟨k, s, l⟩, rfl⟩ : ∃ x, es1 = [x] := List.length_eq_one_iff.1 h1
      simp only [nodesA, nodeA] at hG
      refine ⟨k, s, .sl (nodesA l) .no, l, _, by simp only [go_sem, Nat.reduceEqDiff, hG, Nat.reduceAdd, Nat.reduceLeDiff, Int.reduceBEq, show ((1 : Nat) : Int) = 1 from rfl, Int.reduceLT, Int.reduceToNat, show ((0 : Nat) < 1) = True from by decide] <;> rfl, by simp only [AV.noL, AV.refs, Tok.refs, refs_nodes, Bool.and_self], rfl, fun L => by simp only [leave, Tok.drop, if_true], by simp only [tszs] at q2; omega, by simp only [slens] at q3; omega⟩
    · have hpos := List.length_pos_iff.2 hne
      have b0 : ((es1.length : Int) == 0) = false := by simp; omega
      have b1 : ((es1.length : Int) == 1) = false := by simp; omega
      refine ⟨5, [], .hs false b g 0 es1.length, es1, G1, by simp only [go_sem, Nat.reduceEqDiff, b0, b1, Nat.reduceAdd, Nat.reduceLeDiff, Bool.or_self] <;> rfl, rfl, rfl, fun L => ?_, by rw [tsz]; omega, by rw [slen, badW_ok (by simp [wf])]; simp only [List.length_nil]; omega⟩
      have hh := hand_nodes es1
      have hds : ∀ L G, deepS true L G 3 (nodesA es1) = handAs true (nodesA es1) := fun L G => deepS_no nodes_noHs
      have htk : List.take es1.length (nodesA es1) = nodesA es1 := List.take_of_length_le (by omega)
      simp only [leave, elemsOf, hpOf, Bool.false_eq_true, if_false, hG, Bool.or_true, if_true, hL, Nat.zero_add, Nat.le_refl, and_self, List.drop_zero, htk, hds, hh]
end Ev

/- What stands between brackets, read. -/
namespace Ev
open Go Go.Proofs
set_option maxRecDepth 10000
theorem leftF_blank {s : List UInt8} {i : Nat} (hi : i + 1 ≤ s.length) (hb : blankF ((s.getD i 0).toNat : Int) = true) : (leftF (s.drop i)).length + i + 1 ≤ s.length := by
  have hd : s.drop i = s.getD i 0 :: s.drop (i + 1) := by
    rw [List.drop_eq_getElem_cons (by omega)]
    simp [List.getD, List.getElem?_eq_getElem (show i < s.length by omega)]
  rw [hd, leftF, if_pos hb]
  have := leftF_len (s.drop (i + 1))
  rw [List.length_drop] at this
  omega
theorem ite_mem {α : Type} {p : Prop} [Decidable p] {a b : α} {l : List α} (ha : a ∈ l) (hb : b ∈ l) : (if p then a else b) ∈ l := by split <;> assumption
theorem findF_max (s : List UInt8) : 0 ≤ (findF s).1.2.1 ∧ (findF s).1.2.1 < 100 := by
  have key : ∀ x : Inf × Bool, x ∈ [((0, 0, false, false), false), ((1, 1, false, true), true), ((2, 2, false, true), true), ((3, 3, false, true), true), ((2, 3, true, false), true), ((1, 0, true, false), true), ((2, 5, true, false), true), ((3, 3, true, false), true), ((1, 0, false, false), true), ((1, 1, false, false), true)] → 0 ≤ x.1.2.1 ∧ x.1.2.1 < 100 := by decide
  apply key
  unfold findF
  repeat refine ite_mem (by decide) ?_
  decide
theorem handA_infA (x : Inf) : handA true (infA x) = infA x := by simp only [infA, handA, handAs]
theorem ref_ok (r : List UInt8) (hr : r.length ≤ 2 ^ 28) (ih : ∀ x : List UInt8, x.length ≤ r.length → ParseOk x) (nest : Int) (hn0 : 0 ≤ nest) (hn : nest ≤ 40) (o c : Int) : ∃ n e,
    (∀ L G, callA (cfg Try.prog ann) 58 [.str r, .int .i64 nest, .int .u8 o, .int .u8 c] L G = some (.val (.tup [nodeA n, .int .i64 e]), L, G)) ∧ (e = 0 → tsz n ≤ r.length + 2 ∧ slen n ≤ r.length) := by
  suffices hh : ∃ n e G', ev Try.prog ann 58 [.str r, .int .i64 nest, .int .u8 o, .int .u8 c] [] = some (.val (.tup [nodeA n, .int .i64 e]), G') ∧ (e = 0 → tsz n ≤ r.length + 2 ∧ slen n ≤ r.length) by
    obtain ⟨n, e, G', h1, h2⟩ := hh
    exact ⟨n, e, fun L G => call_pure rfl rfl rfl (by simp only [AV.pf, refss, AV.refs, refs_node, Bool.and_self]) h1, h2⟩
  rw [fun_some Try.func58 rfl rfl]
  obtain ⟨f, hf, hfl, hname⟩ := name_ok r (by omega)
  by_cases f0 : f = []
  · subst f0
    have e0 : (([] : List UInt8) != []) = false := rfl
    obtain ⟨a, b, hab, hcuts⟩ := cuts_ok r (by omega)
    by_cases ha : a < 0
    · have ha' : ¬ 0 ≤ a := by omega
      obtain ⟨m, e, hl, he⟩ := list_ok [r] (by simp only [wsum]; omega) (fun x hx => ih x (by simp at hx; subst hx; omega)) nest hn0 hn
      simp only [List.map_cons, List.map_nil] at hl
      refine ⟨.mk 2 [] m, e, _, by simp only [go_sem, ↓reduceIte, Nat.reduceEqDiff, hname, e0, hcuts, ha', hl, nodeA, Nat.reduceAdd, Nat.reduceLeDiff, Nat.reduceMul, Nat.reducePow, show ((0 : Nat) < 1) = True from by decide] <;> rfl, fun h => ?_⟩
      obtain ⟨h1, h2, h3⟩ := he h
      simp only [wsum, List.length_cons, List.length_nil] at h1 h2 h3
      rw [tsz, slen, badW_ok (by rw [h3]; rfl)]
      simp only [List.length_nil]
      omega
    · obtain ⟨p, q, rfl, rfl, hpq, hq⟩ := hab.resolve_left ha
      have ha' : (0 : Int) ≤ (p : Int) := by omega
      have w1 : IntKind.i64.wrap ((p : Int) + 1) = ((p + 1 : Nat) : Int) := by rw [wrap_in] <;> omega
      have w2 : IntKind.i64.wrap ((q : Int) + 1) = ((q + 1 : Nat) : Int) := by rw [wrap_in] <;> omega
      have g1 : ((p : Int) ≤ (r.length : Int)) = True := by simp; omega
      have g2 : (((p + 1 : Nat) : Int) ≤ (q : Int)) = True := by simp; omega
      have g3 : ((q : Int) ≤ (r.length : Int)) = True := by simp; omega
      have g4 : (((q + 1 : Nat) : Int) ≤ (r.length : Int)) = True := by simp; omega
      have l1 : ((r.drop 0).take (p - 0)).length = p := by simp; omega
      have l2 : ((r.drop (p + 1)).take (q - (p + 1))).length = q - (p + 1) := by simp; omega
      have l3 : ((r.drop (q + 1)).take (r.length - (q + 1))).length = r.length - (q + 1) := by simp
      have hws : wsum [(r.drop 0).take (p - 0), (r.drop (p + 1)).take (q - (p + 1)), (r.drop (q + 1)).take (r.length - (q + 1))] = r.length + 1 := by simp only [wsum, l1, l2, l3]; omega
      obtain ⟨m, e, hl, he⟩ := list_ok [(r.drop 0).take (p - 0), (r.drop (p + 1)).take (q - (p + 1)), (r.drop (q + 1)).take (r.length - (q + 1))] (by rw [hws]; omega) (fun x hx => ih x (by have := wsum_mem hx; omega)) nest hn0 hn
      simp only [List.map_cons, List.map_nil, List.drop_zero] at hl
      refine ⟨.mk 3 [] m, e, _, by simp only [go_sem, ↓reduceIte, Nat.reduceEqDiff, hname, e0, hcuts, ha', w1, w2, g1, g2, g3, g4, hl, nodeA, Int.le_refl, Nat.reduceAdd, Nat.reduceLeDiff, Nat.reduceMul, Nat.reducePow, show ((0 : Nat) < 1) = True from by decide, show ((0 : Nat) < 3) = True from by decide, show ((1 : Nat) < 3) = True from by decide, show ((2 : Nat) < 3) = True from by decide] <;> rfl, fun h => ?_⟩
      obtain ⟨h1, h2, h3⟩ := he h
      rw [hws] at h1 h2
      simp only [List.length_cons, List.length_nil] at h2 h3
      rw [tsz, slen, badW_ok (by rw [h3]; rfl)]
      simp only [List.length_nil]
      omega
  · have e0 : (f != []) = true := by simpa using f0
    obtain ⟨hf1, hf2, hf3⟩ := hf.resolve_left f0
    have hlb := leftF_blank hf1 hf2
    obtain ⟨mx0, mx1⟩ := findF_max f
    have hfind := fun L G => refFind_call f L G
    obtain ⟨l, ⟨hw, hmost⟩, hargs⟩ := args_ok (leftF (r.drop f.length)) (findF f).1.2.1 o c (by omega) ⟨mx0, mx1⟩
    have hcall : ∀ n : Nat, n = l.length → (findF f).1.1 ≤ (l.length : Int) → callOk f n = true := fun n hn h => by
      subst hn
      unfold callOk
      have hmx1 : (findF f).1.2.1 = 0 ∨ 1 ≤ (findF f).1.2.1 := by omega
      simp only [hf3, Bool.true_and, Bool.and_eq_true, Bool.or_eq_true, decide_eq_true_eq]
      exact ⟨h, by omega⟩
    generalize findF f = F at hfind hargs mx0 mx1 hcall
    obtain ⟨⟨mn, mx, lz, pu⟩, ok⟩ := F
    simp only [infA] at hfind hargs mx0 mx1 hcall
    have g1 : ((f.length : Int) ≤ (r.length : Int)) = True := by simp; omega
    have htk : List.take (r.length - f.length) (r.drop f.length) = r.drop f.length := List.take_of_length_le (by simp)
    have hleft := fun L G => left_call (r.drop f.length) L G
    have s2 : ((0 : Nat) < 2) = True := by decide
    have s3 : ((1 : Nat) < 2) = True := by decide
    by_cases hmn : (l.length : Int) < mn
    · refine ⟨.mk 0 [] [], 5, _, by simp only [go_sem, ↓reduceIte, Nat.reduceEqDiff, hname, e0, hfind, hargs, hleft, htk, g1, hmn, s2, s3, nodeA, nodesA, Int.le_refl, Nat.reduceAdd, Nat.reduceLeDiff, Nat.reduceMul, Nat.reducePow] <;> rfl, fun h => by omega⟩
    · obtain ⟨m, e, hl, he⟩ := list_ok l (by omega) (fun x hx => ih x (by have := wsum_mem hx; omega)) nest hn0 hn
      refine ⟨.mk 4 f m, e, _, by simp only [go_sem, ↓reduceIte, Nat.reduceEqDiff, hname, e0, hfind, hargs, hleft, htk, g1, hmn, hl, s2, s3, nodeA, Int.le_refl, Nat.reduceAdd, Nat.reduceLeDiff, Nat.reduceMul, Nat.reducePow] <;> rfl, fun h => ?_⟩
      obtain ⟨h1, h2, h3⟩ := he h
      rw [tsz, slen, badW_ok (show wf 4 f m.length = true by simp only [wf]; exact hcall _ h3 (by omega))]
      omega
end Ev
