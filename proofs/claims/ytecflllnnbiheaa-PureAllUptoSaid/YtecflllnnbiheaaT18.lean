/- Nodes: put behind others. -/
import Derived.Test.YtecflllnnbiheaaT17
set_option maxHeartbeats 4000000
set_option linter.unusedVariables false
set_option linter.unusedSimpArgs false
namespace Ev
open Go Go.Proofs
set_option maxRecDepth 10000
inductive NodeT where
  | mk (k : Int) (s : List UInt8) (l : List NodeT)
mutual
def nodeA : NodeT → AV
  | .mk k s l => .agg [.int .i64 k, .str s, .sl (nodesA l) .no]
def nodesA : List NodeT → List AV
  | [] => []
  | n :: l => nodeA n :: nodesA l
end
mutual
/-- how many nodes -/
def tsz : NodeT → Nat
  | .mk _ _ l => 1 + tszs l
def tszs : List NodeT → Nat
  | [] => 0
  | n :: l => tsz n + tszs l
end
/-- may a function have so many arguments? -/
def callOk (s : List UInt8) (n : Nat) : Bool := (findF s).2 && (decide ((findF s).1.1 ≤ (n : Int)) && (decide ((findF s).1.2.1 = 0) || decide ((n : Int) ≤ (findF s).1.2.1)))
/-- may a node of this kind have so many? -/
def wf (k : Int) (s : List UInt8) (n : Nat) : Bool := if k = 1 then n == 0 else if k = 2 then n == 1 else if k = 3 then n == 3 else if k = 4 then callOk s n else k == 5
/-- far too much, where a node has nodes that it may not have -/
def badW (k : Int) (s : List UInt8) (l : List NodeT) : Nat := if wf k s l.length = true then 0 else 2 ^ 40
theorem badW_ok {k : Int} {s : List UInt8} {l : List NodeT} (h : wf k s l.length = true) : badW k s l = 0 := if_pos h
theorem badW_text (s s' : List UInt8) (l : List NodeT) : badW 1 s l = badW 1 s' l := by simp [badW, wf]
mutual
/-- how many bytes -/
def slen : NodeT → Nat
  | .mk k s l => s.length + slens l + badW k s l
def slens : List NodeT → Nat
  | [] => 0
  | n :: l => slen n + slens l
end
def nodeB (t : Tok) : NodeT → AV
  | .mk k s l => .agg [.int .i64 k, .str s, .sl (nodesA l) t]
theorem nodeB_no (n : NodeT) : nodeB .no n = nodeA n := by cases n; rw [nodeA]; rfl
theorem nodesA_map : ∀ l, nodesA l = l.map nodeA
  | [] => by rw [nodesA]; rfl
  | n :: l => by rw [nodesA, nodesA_map l]; rfl
theorem nodesA_len (l : List NodeT) : (nodesA l).length = l.length := by rw [nodesA_map, List.length_map]
theorem nodesA_app (a b : List NodeT) : nodesA (a ++ b) = nodesA a ++ nodesA b := by rw [nodesA_map, nodesA_map, nodesA_map, List.map_append]
theorem nodesA_get (l : List NodeT) (i : Nat) : (nodesA l)[i]? = l[i]?.map nodeA := by rw [nodesA_map, List.getElem?_map]
theorem tszs_app : ∀ a b, tszs (a ++ b) = tszs a + tszs b
  | [], b => by simp [tszs]
  | n :: a, b => by rw [List.cons_append, tszs, tszs, tszs_app a b]; omega
theorem slens_app : ∀ a b, slens (a ++ b) = slens a + slens b
  | [], b => by simp [slens]
  | n :: a, b => by rw [List.cons_append, slens, slens, slens_app a b]; omega
theorem tsz_pos (n : NodeT) : 0 < tsz n := by cases n; rw [tsz]; omega
theorem len_tszs : ∀ l, l.length ≤ tszs l
  | [] => by simp
  | n :: l => by have := tsz_pos n; have := len_tszs l; rw [tszs, List.length_cons]; omega
theorem tszs_get : ∀ {l : List NodeT} {i : Nat} {x : NodeT}, l[i]? = some x → tszs l = tszs (l.take i) + tsz x + tszs (l.drop (i + 1))
  | [], i, x, h => by simp at h
  | n :: l, 0, x, h => by simp at h; subst h; simp [tszs]
  | n :: l, i + 1, x, h => by
    have := tszs_get (l := l) (i := i) (x := x) (by simpa using h)
    rw [List.take_succ_cons, List.drop_succ_cons, tszs, tszs, this]; omega
theorem slens_get : ∀ {l : List NodeT} {i : Nat} {x : NodeT}, l[i]? = some x → slens l = slens (l.take i) + slen x + slens (l.drop (i + 1))
  | [], i, x, h => by simp at h
  | n :: l, 0, x, h => by simp at h; subst h; simp [slens]
  | n :: l, i + 1, x, h => by
    have := slens_get (l := l) (i := i) (x := x) (by simpa using h)
    rw [List.take_succ_cons, List.drop_succ_cons, slens, slens, this]; omega
theorem take_next {l : List NodeT} {i : Nat} {x : NodeT} (h : l[i]? = some x) : tszs (l.take (i + 1)) = tszs (l.take i) + tsz x ∧ slens (l.take (i + 1)) = slens (l.take i) + slen x := by
  have e : l.take (i + 1) = l.take i ++ [x] := by
    obtain ⟨h1, rfl⟩ := List.getElem?_eq_some_iff.1 h
    rw [List.take_append_getElem]
  rw [e, tszs_app, slens_app, tszs, tszs, slens, slens]; omega
mutual
theorem refs_node {Q : Bool → Nat → Bool} : ∀ n, (nodeA n).refs Q = true
  | .mk k s l => by simp only [nodeA, AV.refs, refss, Tok.refs, refs_nodes l, Bool.and_self]
theorem refs_nodes {Q : Bool → Nat → Bool} : ∀ l, refss Q (nodesA l) = true
  | [] => by rw [nodesA]; rfl
  | n :: l => by rw [nodesA, refss, refs_node n, refs_nodes l]; rfl
end
theorem hand_node (n : NodeT) : handA true (nodeA n) = nodeA n := by cases n; simp only [nodeA, handA, handAs, Tok.drop, if_true]
theorem handX_nodes (l : List NodeT) : handX (nodesA l) = nodesA l := by rw [nodesA_map]; exact handX_map _ hand_node l
theorem cells_node (n : NodeT) : (nodeA n).cells.length = 3 := by cases n; simp only [nodeA]; rfl
theorem szOk_nodes (l : List NodeT) : szOk Try.prog 30 (nodesA l) = true := by
  cases l with
  | nil => rw [nodesA]; rfl
  | cons n l => rw [nodesA]; simp only [szOk, cells_node, tz30]; rfl
theorem elKnode : ElK Try.prog 30 := ⟨by rw [tz30]; decide, by rw [ty30]; decide, by rw [t030]; rfl, by rw [tn30, tz30]⟩
/-- a list of nodes under way, from a block on -/
def Sl (m : Nat) (lv : AV) (G : Hp) (es : List NodeT) : Prop := (lv = .sl [] .full ∧ es = []) ∨ ∃ b g, m ≤ b ∧ lv = .hs false b g 0 es.length ∧ G[b]? = some (.row g (nodesA es)) ∧ es ≠ []
theorem Sl.noL {m : Nat} {lv : AV} {G : Hp} {es : List NodeT} (h : Sl m lv G es) : lv.noL = true ∧ handA false lv = lv := by
  rcases h with ⟨rfl, _⟩ | ⟨b, g, _, rfl, _⟩
  · exact ⟨rfl, rfl⟩
  · exact ⟨rfl, rfl⟩
def PutOk (n : NodeT) : Prop := ∀ (t : Tok) (_ : t = .no ∨ t = .full) (G : Hp) (es : List NodeT) (lv : AV) (m : Nat), m ≤ G.length → Sl m lv G es → tszs es + tsz n ≤ 2 ^ 30 → slens es + slen n ≤ 2 ^ 30 →
  ∃ lv' G' es', (∀ L, callA (cfg Try.prog ann) 56 [lv, nodeB t n] L G = some (.val lv', L, G')) ∧ Sl m lv' G' es' ∧ G.length ≤ G'.length ∧ (∀ i, i < m → G'[i]? = G[i]?) ∧ tszs es' ≤ tszs es + tsz n ∧ slens es' ≤ slens es + slen n
/-- it is put at the end -/
theorem app_node {G : Hp} {es : List NodeT} {lv : AV} {m : Nat} (n : NodeT) (hm : m ≤ G.length) (h : Sl m lv G es) (hb : es.length ≤ 2 ^ 30) : ∃ lv' G', (∀ L, appendA Try.prog ann 56 64 30 none lv [nodeA n] L G = some (lv', L, G')) ∧
    Sl m lv' G' (es ++ [n]) ∧ G.length ≤ G'.length ∧ ∀ i, i < m → G'[i]? = G[i]? := by
  have hX : handX [nodeA n] = [nodeA n] := by have := handX_nodes [n]; simpa only [nodesA] using this
  have hok : szOk Try.prog 30 [nodeA n] = true := by have := szOk_nodes [n]; simpa only [nodesA] using this
  have hno : noLs [nodeA n] = true := by have := refs_nodes (Q := fun loc _ => !loc) [n]; simp only [nodesA] at this; exact this
  rcases h with ⟨rfl, rfl⟩ | ⟨b, g, hmb, rfl, hG, hne⟩
  · refine ⟨_, _, fun L => app_row0 elKnode rfl rfl hX rfl hok (by simp) hno (by rw [ty30]; simp [mostBytes]), .inr ⟨G.length, 0, hm, rfl, ?_, by simp⟩, by simp, fun i hi => ?_⟩
    · simp [nodesA]
    · rw [List.getElem?_append_left (by omega)]
  · have h1 := fun L => app_row1 (P := Try.prog) (A := ann) (f := 56) (d := 64) (sl := none) (L := L) elKnode hG (by intro e; apply hne; have := nodesA_len es; rw [e] at this; exact List.length_eq_zero_iff.1 this.symm) (szOk_nodes es) hX rfl hok (by simp) hno
      (by rw [ty30, nodesA_len]; simp only [mostBytes, List.length_cons, List.length_nil]; omega)
    rw [nodesA_len] at h1
    refine ⟨_, _, h1, .inr ⟨b, g + 1, hmb, by simp, ?_, by simp⟩, by simp, fun i hi => ?_⟩
    · rw [List.getElem?_set, if_pos rfl, if_pos (List.getElem?_eq_some_iff.1 hG).1, nodesA_app]; simp [nodesA]
    · rw [List.getElem?_set_ne (by omega)]
theorem Sl.leave {m : Nat} {lv : AV} {G : Hp} {es : List NodeT} (h : Sl m lv G es) (L G' : Hp) : leave false L G' lv = lv := by
  rcases h with ⟨rfl, _⟩ | ⟨b, g, _, rfl, _⟩
  · rfl
  · simp only [Ev.leave, Bool.or_self, Bool.false_eq_true, if_false]
theorem put_of {n : NodeT} (h : ∀ (t : Tok) (_ : t = .no ∨ t = .full) (G : Hp) (es : List NodeT) (lv : AV) (m : Nat), m ≤ G.length → Sl m lv G es → tszs es + tsz n ≤ 2 ^ 30 → slens es + slen n ≤ 2 ^ 30 →
    ∃ lv' G' es', (Sl m lv' G' es' ∧ G.length ≤ G'.length ∧ (∀ i, i < m → G'[i]? = G[i]?) ∧ tszs es' ≤ tszs es + tsz n ∧ slens es' ≤ slens es + slen n) ∧ ev Try.prog ann 56 [lv, nodeB t n] G = some (.val lv', G')) : PutOk n := by
  intro t ht G es lv m hm hs hb hb2
  obtain ⟨lv', G', es', ⟨r1, r2, r3, r4, r5⟩, he⟩ := h t ht G es lv m hm hs hb hb2
  refine ⟨lv', G', es', fun L => call_sees rfl rfl ?_ r1.noL.1 ?_, r1, r2, r3, r4, r5⟩
  · have q := hs.noL
    unfold AV.noL at q
    cases n
    rcases ht with rfl | rfl <;> simp only [handAs, q, nodeB, handA, Tok.drop, Bool.false_eq_true, if_false, noLs, refss, AV.refs, Tok.refs, refs_nodes, Bool.and_self]
  · have hh : handAs false [lv, nodeB t n] = [lv, nodeB t n] := by
      cases n
      rcases ht with rfl | rfl <;> simp only [handAs, hs.noL.2, nodeB, handA, Tok.drop, Bool.false_eq_true, if_false]
    rw [hh]; exact he
theorem put_end {k : Int} {s : List UInt8} {l : List NodeT} (h5 : k ≠ 5) {t : Tok} (ht : t = .no ∨ t = .full) {G : Hp} {es : List NodeT} {lv : AV} {m : Nat} (hm : m ≤ G.length) (h : Sl m lv G es) (hb : tszs es + tsz (.mk k s l) ≤ 2 ^ 30) (h1 : k ≠ 1 ∨ (s ≠ [] ∧ es = [])) :
    ∃ lv' G' es', (Sl m lv' G' es' ∧ G.length ≤ G'.length ∧ (∀ i, i < m → G'[i]? = G[i]?) ∧ tszs es' ≤ tszs es + tsz (.mk k s l) ∧ slens es' ≤ slens es + slen (.mk k s l)) ∧ ev Try.prog ann 56 [lv, nodeB t (.mk k s l)] G = some (.val lv', G') := by
  obtain ⟨lv', G', happ, r1, r2, r3⟩ := app_node (.mk k s l) hm h (by have := len_tszs es; omega)
  refine ⟨lv', G', _, ⟨r1, r2, r3, by rw [tszs_app, tszs, tszs]; omega, by rw [slens_app, slens, slens]; omega⟩, ?_⟩
  have e5 : (k == 5) = false := by simpa using h5
  have hlv := fun L => r1.leave L G'
  rw [nodeB, fun_some Try.func56 rfl rfl]
  simp only [nodeA] at happ
  rcases h1 with h1 | ⟨h1, rfl⟩
  · have e1 : (k == 1) = false := by simpa using h1
    rcases ht with rfl | rfl <;> simp only [go_sem, ↓reduceIte, Nat.reduceEqDiff, e5, e1, happ, hlv, Nat.reduceAdd, Nat.reduceLeDiff, Nat.reduceMul, Nat.reducePow, show ((0 : Nat) < 1) = True from by decide]
  · have hs : (s == []) = false := by simpa using h1
    have hlv0 : lv = .sl [] .full := by
      rcases h with ⟨rfl, _⟩ | ⟨b, g, _, _, _, h⟩
      · rfl
      · exact absurd rfl h
    subst hlv0
    by_cases e1 : k = 1
    · subst e1
      have w0 : IntKind.i64.wrap ((([] : List AV).length : Int) - 1) = -1 := by decide
      rcases ht with rfl | rfl <;> simp only [go_sem, ↓reduceIte, Nat.reduceEqDiff, hs, happ, hlv, Nat.reduceAdd, Nat.reduceLeDiff, Nat.reduceMul, Nat.reducePow, show ((0 : Nat) < 1) = True from by decide, Int.reduceBEq, Int.natCast_zero, Int.reduceSub, show IntKind.i64.wrap (-1) = -1 from by decide, Int.reduceLE, show IntKind.i64.wrap (0 - 1) = -1 from by decide]
    · have e1 : (k == 1) = false := by simpa using e1
      rcases ht with rfl | rfl <;> simp only [go_sem, ↓reduceIte, Nat.reduceEqDiff, e5, e1, happ, hlv, Nat.reduceAdd, Nat.reduceLeDiff, Nat.reduceMul, Nat.reducePow, show ((0 : Nat) < 1) = True from by decide]
theorem put_empty {l : List NodeT} : PutOk (.mk 1 [] l) := by
  refine put_of fun t ht G es lv m hm h hb hb2 => ⟨lv, G, es, ⟨h, Nat.le_refl _, fun _ _ => rfl, by omega, by omega⟩, ?_⟩
  have hlv := fun L => h.leave L G
  rw [nodeB, fun_some Try.func56 rfl rfl]
  rcases ht with rfl | rfl <;> simp only [go_sem, ↓reduceIte, Nat.reduceEqDiff, hlv, Nat.reduceAdd, Nat.reduceLeDiff, Nat.reduceMul, Int.reduceBEq]
theorem put_text {s : List UInt8} {l : List NodeT} (hs : s ≠ []) : PutOk (.mk 1 s l) := by
  refine put_of fun t ht G es lv m hm h hb hb2 => ?_
  rcases List.eq_nil_or_concat es with rfl | ⟨es0, ⟨k', s', l'⟩, he⟩
  · exact put_end (by decide) ht hm h hb (.inr ⟨hs, rfl⟩)
  rw [List.concat_eq_append] at he
  have hh := h
  rcases h with ⟨_, e⟩ | ⟨b, g, hmb, rfl, hG, hne⟩
  · subst he; simp at e
  have e1 : (s == []) = false := by simpa using hs
  have hel : es.length = es0.length + 1 := by rw [he]; simp
  have hj : (nodesA es)[es0.length]? = some (.agg [.int .i64 k', .str s', .sl (nodesA l') .no]) := by rw [nodesA_get, he, List.getElem?_append_right (Nat.le_refl _)]; simp [nodeA]
  have hL := nodesA_len es
  have htk : List.take es.length (nodesA es) = nodesA es := List.take_of_length_le (by omega)
  have hlim := len_tszs es
  have hw : IntKind.i64.wrap ((es.length : Int) - 1) = (es0.length : Int) := by rw [wrap_in] <;> omega
  have hlt : es0.length < es.length := by omega
  have hge : ((0 : Int) ≤ (es0.length : Int)) = True := by simp
  by_cases hk : k' = 1
  · subst hk
    have hok := szOk_nodes es
    have hxne : nodesA es ≠ [] := by intro e; rw [e] at hL; simp at hL; omega
    have happ := fun L => app_row0 (P := Try.prog) (A := ann) (f := 56) (d := 47) (sl := none) (L := L) (G := G) elKnode rfl rfl (handX_nodes es) rfl hok hxne (refs_nodes (Q := fun loc _ => !loc) es) (by rw [ty30, hL]; simp only [mostBytes]; omega)
    rw [hL] at happ
    have hnew : (G ++ [Blk.row 0 (nodesA es)])[G.length]? = some (.row 0 (nodesA es)) := by simp
    have hsl : slens es = slens es0 + (s'.length + slens l' + badW 1 s' l') := by rw [he, slens_app, slens, slens, slen]; omega
    have htz : tszs es = tszs es0 + (1 + tszs l') := by rw [he, tszs_app, tszs, tszs, tsz]; omega
    rw [slen] at hb2
    have hcat : s'.length + s.length < 2 ^ 62 := by omega
    have hbt := badW_text (s' ++ s) s' l'
    refine ⟨.hs false G.length 0 0 es.length, (G ++ [Blk.row 0 (nodesA es)]).set G.length (.row 0 ((nodesA es).set es0.length (.agg [.int .i64 1, .str (s' ++ s), .sl (nodesA l') .no]))), es0 ++ [.mk 1 (s' ++ s) l'],
      ⟨.inr ⟨G.length, 0, hm, by simp [hel], ?_, by simp⟩, by simp, fun i hi => ?_, by rw [tszs_app, tszs, tszs, tsz, tsz, htz]; omega, by rw [slens_app, slens, slens, slen, slen, hsl, List.length_append]; omega⟩, ?_⟩
    · rw [List.getElem?_set, if_pos rfl, if_pos (by simp), he, nodesA_app, nodesA_app, List.set_append_right _ _ (by rw [nodesA_len]; omega), nodesA_len, Nat.sub_self]
      simp [nodesA, nodeA]
    · rw [List.getElem?_set_ne (by omega), List.getElem?_append_left (by omega)]
    rw [nodeB, fun_some Try.func56 rfl rfl]
    rcases ht with rfl | rfl <;> simp only [go_sem, ↓reduceIte, Nat.reduceEqDiff, e1, hw, hG, hj, hlt, hge, hL, htk, happ, hnew, hcat, Nat.le_refl, List.drop_zero, leave, Nat.reduceAdd, Nat.reduceLeDiff, Nat.reduceMul, Nat.reducePow, show ((0 : Nat) < 1) = True from by decide, Int.reduceBEq]
  · have ek : (k' == 1) = false := by simpa using hk
    obtain ⟨lv', G', happ, r1, r2, r3⟩ := app_node (.mk 1 s l) hm hh (by omega)
    refine ⟨lv', G', _, ⟨r1, r2, r3, by rw [tszs_app, tszs, tszs]; omega, by rw [slens_app, slens, slens]; omega⟩, ?_⟩
    have hlv := fun L => r1.leave L G'
    simp only [nodeA] at happ
    rw [nodeB, fun_some Try.func56 rfl rfl]
    rcases ht with rfl | rfl <;> simp only [go_sem, ↓reduceIte, Nat.reduceEqDiff, e1, ek, hw, hG, hj, hlt, hge, hL, htk, happ, hlv, Nat.le_refl, List.drop_zero, leave, Nat.reduceAdd, Nat.reduceLeDiff, Nat.reduceMul, Nat.reducePow, show ((0 : Nat) < 1) = True from by decide, Int.reduceBEq]
theorem put_cat {s : List UInt8} {l : List NodeT} (ih : ∀ x ∈ l, PutOk x) : PutOk (.mk 5 s l) := by
  refine put_of fun t ht G es lv m hm h hb hb2 => ?_
  rw [nodeB, fun_some Try.func56 rfl rfl]
  rw [tsz] at hb ⊢
  rw [slen] at hb2 ⊢
  have hlim := len_tszs l
  have hlim2 := len_tszs es
  rcases ht with rfl | rfl
  all_goals
    simp only [go_sem, ↓reduceIte, Nat.reduceEqDiff, Nat.reduceAdd, Nat.reduceLeDiff, Nat.reduceMul, Int.reduceBEq]
    generalize hw : loopW _ _ _ _ _ _ = w
    obtain ⟨o, rfl, lv', G', es', L', rfl, hq, hr⟩ : ∃ o, w = some o ∧ ∃ lv' G' es' L', o = (.exit 1, [(0, lv')], L', G') ∧ Sl m lv' G' es' ∧ G.length ≤ G'.length ∧ (∀ i, i < m → G'[i]? = G[i]?) ∧ tszs es' ≤ tszs es + tszs l ∧ slens es' ≤ slens es + slens l := by
      rw [← hw]
      clear hw
      refine loop_ex (σ := Nat × AV × Hp × List NodeT) (fun q => [(0, q.2.1), (3, .ptr true 0 0 0 0), (5, .int .i64 q.1)]) (fun _ => [.row 0 [.agg [.int .i64 5, .str s, .sl (nodesA l) _]]]) (fun q => q.2.2.1)
        (fun q => q.1 ≤ l.length ∧ Sl m q.2.1 q.2.2.1 q.2.2.2 ∧ G.length ≤ q.2.2.1.length ∧ (∀ i, i < m → q.2.2.1[i]? = G[i]?) ∧ tszs q.2.2.2 ≤ tszs es + tszs (l.take q.1) ∧ slens q.2.2.2 ≤ slens es + slens (l.take q.1)) (fun q => l.length - q.1) _ ?_ (0, lv, G, es) ⟨Nat.zero_le _, h, Nat.le_refl _, fun _ _ => rfl, by simp, by simp⟩
      rintro ⟨i, lv1, G1, es1⟩ ⟨q1, q2, q3, q4, q5, q6⟩
      simp only at q1 q2 q3 q4 q5 q6
      have hL := nodesA_len l
      by_cases hi : i < l.length
      · obtain ⟨x, hx⟩ : ∃ x, l[i]? = some x := ⟨_, List.getElem?_eq_getElem hi⟩
        have hsz := tszs_get hx
        have hsl := slens_get hx
        obtain ⟨tk1, tk2⟩ := take_next hx
        have hw : IntKind.i64.wrap ((i : Int) + 1) = ((i + 1 : Nat) : Int) := by rw [wrap_in] <;> omega
        have hx' : (nodesA l)[i]? = some (nodeA x) := by rw [nodesA_get, hx]; rfl
        obtain ⟨lv2, G2, es2, c1, c2, c3, c4, c5, c6⟩ := ih x (List.mem_of_getElem? hx) .no (.inl rfl) G1 es1 lv1 m (by omega) q2 (by omega) (by omega)
        rw [nodeB_no] at c1
        obtain ⟨kx, sx, lx⟩ := x
        simp only [nodeA] at hx' c1
        refine ⟨_, by simp only [go_sem, Nat.reduceEqDiff, hi, hL, hx', c1, hw, Nat.reduceAdd, Nat.reduceLeDiff] <;> rfl, .inl ⟨(i + 1, lv2, G2, es2), ⟨by simp only; omega, c2, by simp only; omega, fun j hj => by rw [← q4 j hj]; exact c4 j hj, by simp only; omega, by simp only; omega⟩, by simp only; omega, rfl⟩⟩
      · have e : l.take i = l := List.take_of_length_le (by omega)
        rw [e] at q5 q6
        refine ⟨_, by simp only [go_sem, Nat.reduceEqDiff, hi, hL] <;> rfl, .inr ⟨_, rfl, lv1, G1, es1, _, rfl, q2, q3, q4, q5, q6⟩⟩
    refine ⟨lv', G', es', ⟨hq, hr.1, hr.2.1, by omega, by omega⟩, ?_⟩
    have hlv := fun L => hq.leave L G'
    simp only [go_sem, ↓reduceIte, Nat.reduceEqDiff, hlv]
theorem put_all : ∀ (N : Nat) (n : NodeT), tsz n ≤ N → PutOk n
  | 0, n, h => by have := tsz_pos n; omega
  | N + 1, .mk k s l, h => by
    rw [tsz] at h
    by_cases h5 : k = 5
    · subst h5
      exact put_cat fun x hx => put_all N x (by
        obtain ⟨i, hi⟩ := List.getElem?_of_mem hx
        have := tszs_get hi
        omega)
    · by_cases h1 : k = 1
      · subst h1
        by_cases hs : s = []
        · subst hs; exact put_empty
        · exact put_text hs
      · exact put_of fun t ht G es lv m hm h hb hb2 => put_end h5 ht hm h hb (.inl h1)
theorem putN_ok (n : NodeT) : PutOk n := put_all (tsz n) n (Nat.le_refl _)
end Ev
