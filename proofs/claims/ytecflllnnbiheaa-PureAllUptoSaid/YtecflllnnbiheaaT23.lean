/- Texts, read: some nodes, not too many. -/
import Derived.Test.YtecflllnnbiheaaT21
set_option maxHeartbeats 4000000
set_option linter.unusedVariables false
set_option linter.unusedSimpArgs false
namespace Ev
open Go Go.Proofs
set_option maxRecDepth 10000
theorem badW_leaf (s : List UInt8) : badW 1 s [] = 0 := badW_ok rfl
theorem badW_ref1 (s : List UInt8) (n : NodeT) : badW 2 s [n] = 0 := badW_ok rfl
theorem endsF_lt {s : List UInt8} {o c : Int} : ∀ {n i : Nat} {d : Int} {k : Nat}, endsF s o c n i d = some k → i ≤ k ∧ k < i + n
  | 0, i, d, k, h => by rw [endsF] at h; cases h
  | n + 1, i, d, k, h => by
    rw [endsF] at h
    split at h
    · have := endsF_lt h; omega
    · split at h
      · split at h
        · cases h; omega
        · have := endsF_lt h; omega
      · have := endsF_lt h; omega
theorem ends_call (s : List UInt8) (at' : Nat) (o c : Int) (hs : s.length < 2 ^ 40) (ha : at' ≤ s.length) (L G : Hp) : callA (cfg Try.prog ann) 57 [.str s, .int .i64 at', .int .u8 o, .int .u8 c] L G =
    some (.val (.int .i64 (match endsF s o c (s.length - at') at' 1 with | some k => k | none => -1)), L, G) :=
  call_pure rfl rfl rfl rfl (ends_ok s at' o c hs ha [])
theorem Sl.bel {m k : Nat} {lv : AV} {G : Hp} {es : List NodeT} (h : Sl m lv G es) : lv.refs (fun loc b => !loc || decide (b < k)) = true := by
  rcases h with ⟨rfl, _⟩ | ⟨b, g, _, rfl, _⟩
  · rfl
  · simp [AV.refs]
def row0 : Blk := .row 0 [.agg [.int .i64 0, .str [], .sl [] .full]]
theorem trim_row {s : List UInt8} {a i : Int} {lv : AV} {m : Nat} {G : Hp} {es : List NodeT} (h : Sl m lv G es) (L : Hp) : trim 1 [(0, .str s), (1, .int .i64 a), (4, .ptr true 0 0 0 0), (6, lv), (7, .int .i64 i)] (.row 0 [.agg [.int .i64 0, .str [], .sl [] .full]] :: L) = [.row 0 [.agg [.int .i64 0, .str [], .sl [] .full]]] := by
  have hb : bels 1 (valsE [(0, .str s), (1, .int .i64 a), (4, .ptr true 0 0 0 0), (6, lv), (7, .int .i64 i)]) = true := by
    simp only [bels, valsE, List.map_cons, List.map_nil, refss, AV.refs, h.bel, Bool.not_true, Bool.false_or, Bool.and_true, Bool.true_and]
    decide
  unfold trim
  rw [hb]
  split
  · next e => cases L with
    | nil => rfl
    | cons x L => simp at e
  · rfl
set_option maxHeartbeats 4000000 in
theorem parse_step (s : List UInt8) (hs : s.length ≤ 2 ^ 28) (ih : ∀ x : List UInt8, x.length < s.length → ParseOk x) : ParseOk s := by
  intro nest hn0 hn
  suffices hh : ∃ n e G', ev Try.prog ann 31 [.str s, .int .i64 nest] [] = some (.val (.tup [nodeA n, .int .i64 e]), G') ∧ (e = 0 → tsz n ≤ s.length + 1 ∧ slen n ≤ s.length) by
    obtain ⟨n, e, G', h1, h2⟩ := hh
    exact ⟨n, e, fun L G => call_pure rfl rfl rfl (by simp only [AV.pf, refss, AV.refs, refs_node, Bool.and_self]) h1, h2⟩
  rw [fun_some Try.func31 rfl rfl]
  simp only [go_sem, Nat.reduceEqDiff, Nat.reduceAdd, Nat.reduceLeDiff, show ((3 : Nat) = 0) = False from by decide]
  generalize hw : loopW _ _ _ _ _ _ = w
  obtain ⟨o, rfl, hq⟩ : ∃ o, w = some o ∧ ((∃ (lv : AV) (G1 : Hp) (es : List NodeT), o = (.exit 0, [(4, .ptr true 0 0 0 0), (6, lv)], [.row 0 [.agg [.int .i64 0, .str [], .sl [] .full]]], G1) ∧ Sl 0 lv G1 es ∧ tszs es ≤ s.length ∧ slens es ≤ s.length) ∨
      ∃ (e : Int) (L' G1 : Hp), o = (.ret, [(4, .ptr true 0 0 0 0), (5, .int .i64 e)], .row 0 [.agg [.int .i64 0, .str [], .sl [] .full]] :: L', G1) ∧ e ≠ 0) := by
    rw [← hw]
    clear hw
    refine loop_ex (σ := Nat × AV × Hp × List NodeT) (fun q => [(0, .str s), (1, .int .i64 nest), (4, .ptr true 0 0 0 0), (6, q.2.1), (7, .int .i64 q.1)]) (fun _ => [.row 0 [.agg [.int .i64 0, .str [], .sl [] .full]]]) (fun q => q.2.2.1)
      (fun q => q.1 ≤ s.length ∧ Sl 0 q.2.1 q.2.2.1 q.2.2.2 ∧ tszs q.2.2.2 ≤ q.1 ∧ slens q.2.2.2 ≤ q.1) (fun q => s.length - q.1) _ ?_ (0, .sl [] .full, [], []) ⟨Nat.zero_le _, .inl ⟨rfl, rfl⟩, by simp [tszs], by simp [slens]⟩
    rintro ⟨i, lv, G, es⟩ ⟨q1, q2, q3, q4⟩
    simp only at q1 q2 q3 q4
    have w1 : IntKind.i64.wrap ((i : Int) + 1) = ((i + 1 : Nat) : Int) := by rw [wrap_in] <;> omega
    have w2 : IntKind.i64.wrap (((i + 1 : Nat) : Int) + 1) = ((i + 2 : Nat) : Int) := by rw [wrap_in] <;> omega
    have w3 : IntKind.i64.wrap ((i : Int) + 2) = ((i + 2 : Nat) : Int) := by rw [wrap_in] <;> omega
    by_cases hi : i < s.length
    · have hx : s[i]? = some (s.getD i 0) := by simp [List.getD, List.getElem?_eq_getElem hi]
      generalize s.getD i 0 = c at hx
      have g1 : ((i : Int) ≤ ((i + 1 : Nat) : Int)) = True := by simp; omega
      have g2 : (((i + 1 : Nat) : Int) ≤ (s.length : Int)) = True := by simp; omega
      by_cases hplain : ((c.toNat : Int) != 36) = true ∨ i + 1 = s.length
      · -- a byte that is itself
        have hl : ((s.drop i).take (i + 1 - i)).length = 1 := by simp; omega
        obtain ⟨lv2, G2, es2, c1, c2, _, _, c5, c6⟩ := putN_ok (.mk 1 ((s.drop i).take (i + 1 - i)) []) .full (.inr rfl) G es lv 0 (Nat.zero_le _) q2 (by rw [tsz, tszs]; omega) (by rw [slen, slens, badW_ok (by rfl)]; omega)
        rw [tsz, tszs] at c5
        rw [slen, slens, hl, badW_ok (by rfl)] at c6
        simp only [nodeB, nodesA] at c1
        have ht := trim_row (s := s) (a := nest) (i := ((i + 1 : Nat) : Int)) c2
        rcases hplain with h36 | hend
        · refine ⟨_, by simp only [go_sem, Nat.reduceEqDiff, hi, hx, h36, w1, g1, g2, c1, ht, Nat.reduceAdd, Nat.reduceLeDiff] <;> rfl, ?_⟩
          exact .inl ⟨(i + 1, lv2, G2, es2), ⟨by simp only; omega, c2, by simp only; omega, by simp only; omega⟩, by simp only; omega, rfl⟩
        · have he : (((i + 1 : Nat) : Int) == (s.length : Int)) = true := by simp; omega
          cases h36 : ((c.toNat : Int) != 36) with
          | true =>
            refine ⟨_, by simp only [go_sem, Nat.reduceEqDiff, hi, hx, h36, w1, g1, g2, c1, ht, Nat.reduceAdd, Nat.reduceLeDiff] <;> rfl, ?_⟩
            exact .inl ⟨(i + 1, lv2, G2, es2), ⟨by simp only; omega, c2, by simp only; omega, by simp only; omega⟩, by simp only; omega, rfl⟩
          | false =>
            refine ⟨_, by simp only [go_sem, Nat.reduceEqDiff, hi, hx, h36, he, w1, g1, g2, c1, ht, Nat.reduceAdd, Nat.reduceLeDiff] <;> rfl, ?_⟩
            exact .inl ⟨(i + 1, lv2, G2, es2), ⟨by simp only; omega, c2, by simp only; omega, by simp only; omega⟩, by simp only; omega, rfl⟩
      have h36 : ((c.toNat : Int) != 36) = false := by
        cases h : ((c.toNat : Int) != 36) with
        | true => exact absurd (.inl h) hplain
        | false => rfl
      have hend : ¬ i + 1 = s.length := fun h => hplain (.inr h)
      have he : (((i + 1 : Nat) : Int) == (s.length : Int)) = false := by simp; omega
      have hi1 : i + 1 < s.length := by omega
      have hx1 : s[i + 1]? = some (s.getD (i + 1) 0) := by simp [List.getD, List.getElem?_eq_getElem hi1]
      generalize s.getD (i + 1) 0 = d at hx1
      have g3 : (((i + 2 : Nat) : Int) ≤ (s.length : Int)) = True := by simp; omega
      have g4 : (((i + 1 : Nat) : Int) ≤ ((i + 2 : Nat) : Int)) = True := eq_true (by omega)
      cases hd : ((d.toNat : Int) == 36) with
      | true =>
        obtain ⟨lv2, G2, es2, c1, c2, _, _, c5, c6⟩ := putN_ok (.mk 1 [36] []) .full (.inr rfl) G es lv 0 (Nat.zero_le _) q2 (by rw [tsz, tszs]; omega) (by rw [slen, slens, badW_ok (by rfl)]; simp only [List.length_cons, List.length_nil]; omega)
        rw [tsz, tszs] at c5
        rw [slen, slens, badW_ok (by rfl)] at c6
        simp only [List.length_cons, List.length_nil] at c6
        simp only [nodeB, nodesA] at c1
        have ht := trim_row (s := s) (a := nest) (i := ((i + 2 : Nat) : Int)) c2
        refine ⟨_, by simp only [go_sem, Nat.reduceEqDiff, hi, hx, h36, he, hx1, hi1, hd, w1, w2, c1, ht, Nat.reduceAdd, Nat.reduceLeDiff] <;> rfl, ?_⟩
        exact .inl ⟨(i + 2, lv2, G2, es2), ⟨by simp only; omega, c2, by simp only; omega, by simp only; omega⟩, by simp only; omega, rfl⟩
      | false =>
      by_cases hbr : (d.toNat : Int) = 40 ∨ (d.toNat : Int) = 123
      · -- a reference
        obtain ⟨sh, hsh⟩ : ∃ sh : Int, sh = if (d.toNat : Int) = 123 then 125 else 41 := ⟨_, rfl⟩
        have hends := fun L G => ends_call s (i + 2) (d.toNat : Int) sh (by omega) (by omega) L G
        cases hk : endsF s (d.toNat : Int) sh (s.length - (i + 2)) (i + 2) 1 with
        | none =>
          simp only [hk] at hends
          rcases hbr with hb | hb
          all_goals
            rw [hb] at hsh hd hends
            subst hsh
            simp only [Int.reduceEq, if_true, if_false] at hends
            refine ⟨_, by simp only [go_sem, Nat.reduceEqDiff, hi, hx, h36, he, hx1, hi1, hb, w1, w3, hends, Int.reduceBEq, Int.reduceLT, Nat.reduceAdd, Nat.reduceLeDiff] <;> rfl, ?_⟩
            exact .inr ⟨_, rfl, .inr ⟨2, [], G, rfl, by omega⟩⟩
        | some k =>
          obtain ⟨k1, k2⟩ := endsF_lt hk
          have hk2 : k < s.length := by omega
          simp only [hk] at hends
          by_cases hnest : (40 : Int) ≤ nest
          · rcases hbr with hb | hb
            all_goals
              rw [hb] at hsh hd hends
              subst hsh
              simp only [Int.reduceEq, if_true, if_false] at hends
              refine ⟨_, by simp only [go_sem, Nat.reduceEqDiff, hi, hx, h36, he, hx1, hi1, hb, w1, w3, hends, hnest, Int.reduceBEq, Int.reduceLT, Nat.reduceAdd, Nat.reduceLeDiff] <;> rfl, ?_⟩
              exact .inr ⟨_, rfl, .inr ⟨8, [], G, rfl, by omega⟩⟩
          · have wn : IntKind.i64.wrap (nest + 1) = nest + 1 := by rw [wrap_in] <;> omega
            have g5 : (((i + 2 : Nat) : Int) ≤ (k : Int)) = True := by simp; omega
            have g6 : ((k : Int) ≤ (s.length : Int)) = True := by simp; omega
            have wk : IntKind.i64.wrap ((k : Int) + 1) = ((k + 1 : Nat) : Int) := by rw [wrap_in] <;> omega
            have hrl : ((s.drop (i + 2)).take (k - (i + 2))).length = k - (i + 2) := by simp; omega
            obtain ⟨n, e, hr, hre⟩ := ref_ok ((s.drop (i + 2)).take (k - (i + 2))) (by omega) (fun x hx => ih x (by omega)) (nest + 1) (by omega) (by omega) (d.toNat : Int) sh
            rw [hrl] at hre
            obtain ⟨kn, sn, ln⟩ := n
            simp only [nodeA] at hr
            by_cases e0 : e = 0
            · subst e0
              obtain ⟨r1, r2⟩ := hre rfl
              obtain ⟨lv2, G2, es2, c1, c2, _, _, c5, c6⟩ := putN_ok (.mk kn sn ln) .no (.inl rfl) G es lv 0 (Nat.zero_le _) q2 (by omega) (by omega)
              simp only [nodeB] at c1
              have ht := trim_row (s := s) (a := nest) (i := ((k + 1 : Nat) : Int)) c2
              rcases hbr with hb | hb
              all_goals
                rw [hb] at hsh hd hends hr
                subst hsh
                simp only [Int.reduceEq, if_true, if_false] at hends hr
                refine ⟨_, by simp only [go_sem, Nat.reduceEqDiff, hi, hx, h36, he, hx1, hi1, hb, w1, w3, wn, wk, g5, g6, hends, hnest, hr, c1, ht, show ((0 : Int) != 0) = false from rfl, Int.reduceBEq, Int.reduceLT, Nat.reduceAdd, Nat.reduceLeDiff] <;> rfl, ?_⟩
                exact .inl ⟨(k + 1, lv2, G2, es2), ⟨by simp only; omega, c2, by simp only; omega, by simp only; omega⟩, by simp only; omega, rfl⟩
            · have en : (e != 0) = true := by simpa using e0
              rcases hbr with hb | hb
              all_goals
                rw [hb] at hsh hd hends hr
                subst hsh
                simp only [Int.reduceEq, if_true, if_false] at hends hr
                refine ⟨_, by simp only [go_sem, Nat.reduceEqDiff, hi, hx, h36, he, hx1, hi1, hb, w1, w3, wn, wk, g5, g6, hends, hnest, hr, en, Int.reduceBEq, Int.reduceLT, Nat.reduceAdd, Nat.reduceLeDiff] <;> rfl, ?_⟩
                exact .inr ⟨_, rfl, .inr ⟨e, _, G, rfl, e0⟩⟩
      · -- one byte behind a dollar
        have b1 : ((d.toNat : Int) == 40) = false := by simp; omega
        have b2 : ((d.toNat : Int) == 123) = false := by simp; omega
        have hl : ((s.drop (i + 1)).take (i + 2 - (i + 1))).length = 1 := by simp; omega
        obtain ⟨lv2, G2, es2, c1, c2, _, _, c5, c6⟩ := putN_ok (.mk 2 [] [.mk 1 ((s.drop (i + 1)).take (i + 2 - (i + 1))) []]) .full (.inr rfl) G es lv 0 (Nat.zero_le _) q2 (by simp only [tsz, tszs]; omega) (by simp only [slen, slens, hl, List.length_nil, badW_leaf, badW_ref1]; omega)
        simp only [tsz, tszs] at c5
        simp only [slen, slens, hl, List.length_nil, badW_leaf, badW_ref1] at c6
        simp only [nodeB, nodesA, nodeA] at c1
        have ht := trim_row (s := s) (a := nest) (i := ((i + 2 : Nat) : Int)) c2
        refine ⟨_, by simp only [go_sem, Nat.reduceEqDiff, hi, hx, h36, he, hx1, hi1, hd, b1, b2, w1, w2, w3, g3, g4, c1, ht, Nat.reduceAdd, Nat.reduceLeDiff, Nat.reduceMul, Nat.reducePow, show ((0 : Nat) < 1) = True from by decide] <;> rfl, ?_⟩
        exact .inl ⟨(i + 2, lv2, G2, es2), ⟨by simp only; omega, c2, by simp only; omega, by simp only; omega⟩, by simp only; omega, rfl⟩
    · refine ⟨_, by simp only [go_sem, Nat.reduceEqDiff, hi] <;> rfl, .inr ⟨_, rfl, .inl ⟨lv, G, es, rfl, q2, by omega, by omega⟩⟩⟩
  rcases hq with ⟨lv, G1, es, rfl, q2, q3, q4⟩ | ⟨e, L', G1, rfl, he⟩
  · obtain ⟨k, sn, wv, l, G2, c1, c2, c3, c4, c5⟩ := whole_ok (Nat.zero_le _) q2 (by omega) (by omega)
    unfold AV.isCell at c2
    refine ⟨.mk k sn l, 0, _, by simp only [go_sem, Nat.reduceEqDiff, c1, c2, c3, nodeA, Nat.reduceAdd, Nat.reduceLeDiff] <;> rfl, fun _ => by omega⟩
  · refine ⟨.mk 0 [] [], e, _, by simp only [go_sem, Nat.reduceEqDiff, nodeA, nodesA, if_true, Nat.reduceAdd, Nat.reduceLeDiff] <;> rfl, fun h => absurd h he⟩
theorem parse_all : ∀ (N : Nat) (s : List UInt8), s.length ≤ N → N ≤ 2 ^ 28 → ParseOk s
  | 0, s, h, _ => parse_step s (by omega) fun x hx => by omega
  | N + 1, s, h, hN => parse_step s (by omega) fun x hx => parse_all N x (by omega) (by omega)
theorem parse_call (s : List UInt8) (hs : s.length ≤ 2 ^ 28) : ∃ n e, (∀ L G, callA (cfg Try.prog ann) 8 [.str s] L G = some (.val (.tup [nodeA n, .int .i64 e]), L, G)) ∧ (e = 0 → tsz n ≤ s.length + 1 ∧ slen n ≤ s.length) := by
  obtain ⟨n, e, h1, h2⟩ := parse_all (2 ^ 28) s hs (Nat.le_refl _) 0 (by omega) (by omega)
  suffices hh : ∃ G', ev Try.prog ann 8 [.str s] [] = some (.val (.tup [nodeA n, .int .i64 e]), G') by
    obtain ⟨G', h⟩ := hh
    exact ⟨n, e, fun L G => call_pure rfl rfl rfl (by simp only [AV.pf, refss, AV.refs, refs_node, Bool.and_self]) h, h2⟩
  rw [fun_some Try.func8 rfl rfl]
  obtain ⟨kn, sn, ln⟩ := n
  simp only [nodeA] at h1 ⊢
  exact ⟨_, by simp only [go_sem, Nat.reduceEqDiff, h1, Nat.reduceAdd, Nat.reduceLeDiff, show ((3 : Nat) = 0) = False from by decide] <;> rfl⟩
end Ev
