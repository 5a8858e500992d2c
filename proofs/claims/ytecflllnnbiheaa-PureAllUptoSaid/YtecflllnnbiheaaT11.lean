/- Texts by numbers: texts. -/
import Derived.Test.YtecflllnnbiheaaT10
set_option maxHeartbeats 4000000
set_option linter.unusedVariables false
set_option linter.unusedSimpArgs false
namespace Ev
open Go Go.Proofs
set_option maxRecDepth 10000
def textN : Nat := 33
theorem text_ok {d : Int} {B E : Nat} (hB : B ≤ 2 ^ 40) (hE : 20 ≤ E) (h : TextC 60 [.int .i64 d] B 0 4 E 20) : TextC 33 [.int .i64 d] (2 * B + 25) 12 0 (E + 22) 1 := by
  refine text_of rfl (fun b => ⟨rfl, rfl⟩) fun G b l k0 hb hl hi hk => ?_
  have hrow : (G.set b (tRow l k0))[b]? = some (.row 0 [.agg [.sl (l.map (.int .i64)) .no, .int .i64 k0]]) := set_at hb
  rw [fun_some Try.func33 rfl rfl]
  by_cases hend : l.length ≤ k0
  · have hge : ((l.length : Int) ≤ (k0 : Int)) = True := by simp; omega
    simp only [go_sem, ↓reduceIte, Nat.reduceEqDiff, hrow, hge, Nat.reduceAdd, Nat.reduceMul, Nat.reduceLeDiff]
    exact ⟨_, k0, by simp only [Fits, List.length_cons, List.length_nil]; omega, rfl⟩
  · have hge : ((l.length : Int) ≤ (k0 : Int)) = False := by simp; omega
    obtain ⟨s1, k1, ⟨p1, p2, p3, p5, p6, p7⟩, h1⟩ := h [] G b l k0 hb hl hi hk
    obtain ⟨n2, m2⟩ := numV_lt (l := l) (k := k1) (n := 4) (by omega)
    have h2 := fun L => num_at L G (l := l) (k := k1) 4 hb hl (by omega) (by omega)
    obtain ⟨c2, b2⟩ := numK_le p3
    obtain ⟨t2, u2⟩ := numK_at l k1
    generalize numK l k1 = k2 at c2 b2 t2 u2 h2
    generalize numV l k1 4 = v2 at n2 m2 h2
    by_cases hv : v2 = 0
    · subst hv
      obtain ⟨n3, m3⟩ := numV_lt (l := l) (k := k2) (n := 3) (by omega)
      have h3 := fun L => num_at L G (l := l) (k := k2) 3 hb hl (by omega) (by omega)
      obtain ⟨c3, b3⟩ := numK_le c2
      obtain ⟨t3, u3⟩ := numK_at l k2
      generalize numK l k2 = k3 at c3 b3 t3 u3 h3
      generalize numV l k2 3 = v3 at n3 m3 h3
      obtain ⟨s4, k4, ⟨p4, q4, r4, v4, x4, y4⟩, h4⟩ := h [] G b l k3 hb hl hi c3
      have z3 : ¬ v3 < 0 := by omega
      have y3 : v3.toNat < 3 := by omega
      simp only [go_sem, ↓reduceIte, Nat.reduceEqDiff, hrow, hge, h1, h2, h3, h4, z3, y3, Int.reduceBEq, Nat.reduceAdd, Nat.reduceMul, Nat.reduceLeDiff]
      generalize hq : (_ : List AV)[v3.toNat]? = q
      obtain ⟨u, rfl, hul⟩ : ∃ u, q = some (.str u) ∧ u.length ≤ 2 := by rw [← hq]; exact lits_at _ 2 _ (by decide) y3
      clear hq
      simp only [go_sem, ↓reduceIte, Nat.reduceEqDiff, h1, h2, h3, h4, Nat.reduceAdd, Nat.reduceMul, Nat.reduceLeDiff]
      rw [if_pos (by first | omega | (simp; omega)), if_pos (by first | omega | (simp; omega))]
      exact ⟨_, k4, by simp only [Fits, List.length_append, List.length_cons, List.length_nil]; omega, rfl⟩
    · have e2 : (v2 == 0) = false := by simpa using hv
      simp only [go_sem, ↓reduceIte, Nat.reduceEqDiff, hrow, hge, h1, h2, e2, Nat.reduceAdd, Nat.reduceMul, Nat.reduceLeDiff]
      exact ⟨_, k2, by simp only [Fits]; omega, rfl⟩
theorem one_zero : TextC 60 [.int .i64 0] 20 0 4 20 20 := by
  intro L G b l k0 hb hl hi hk
  obtain ⟨s, h1, h2⟩ := one_words 0 G (k := k0) hb hl hk (.inl rfl)
  obtain ⟨c1, b1⟩ := numK_le hk
  obtain ⟨t1, u1⟩ := numK_at l k0
  exact ⟨s, _, by simp only [Fits]; omega, h2 L⟩
theorem text0 : TextAt 0 65 42 := text_ok (by omega) (by omega) one_zero
theorem text1 : TextAt 1 535 98 := text_ok (by omega) (by omega) (one_ok (d := 1) (by omega) (by omega) (by omega) text0)
theorem text2 : TextAt 2 3355 154 := text_ok (by omega) (by omega) (one_ok (d := 2) (by omega) (by omega) (by omega) text1)
theorem text3 : TextAt 3 20275 210 := text_ok (by omega) (by omega) (one_ok (d := 3) (by omega) (by omega) (by omega) text2)
theorem refs_ints {Q : Bool → Nat → Bool} : ∀ (l : List Int), refss Q (l.map (.int .i64)) = true
  | [] => rfl
  | _ :: l => by simp only [List.map_cons, refss, AV.refs, refs_ints l, Bool.and_self]
theorem cut_call (l : List Int) (t : Tok) (L G : Hp) (hl : l.length < 2 ^ 40) : callA (cfg Try.prog ann) 32 [.sl (l.map (.int .i64)) t] L G = some (.val (.sl ((l.take 1000).map (.int .i64)) .no), L, G) := by
  refine call_pure rfl rfl ?_ ?_ (G' := []) ?_
  · simp only [handAs, handA, pfs, refss, AV.refs, Tok.drop, Tok.refs, refs_ints, if_true, Bool.and_self]
  · simp only [AV.pf, AV.refs, Tok.refs, refs_ints, Bool.and_self]
  show ev Try.prog ann _ [.sl (l.map (.int .i64)) .no] [] = _
  rw [fun_some Try.func32 rfl rfl]
  by_cases h : (1000 : Int) < (l.length : Int)
  · have h2 : (1000 : Int) ≤ (l.length : Int) := by omega
    have h3 : (1000 : Nat) ≠ l.length := by omega
    simp only [go_sem, ↓reduceIte, Nat.reduceEqDiff, h, h2, h3, Nat.reduceAdd, Nat.reduceMul, Nat.reduceLeDiff, Int.reduceLE, Int.reduceToNat, Nat.sub_zero, List.map_take]
  · have h2 : l.take 1000 = l := List.take_of_length_le (by omega)
    have h4 : (List.map (AV.int .i64) l).take l.length = l.map (.int .i64) := List.take_of_length_le (by simp)
    simp only [go_sem, ↓reduceIte, Nat.reduceEqDiff, h, h2, h4, Nat.reduceAdd, Nat.reduceMul, Nat.reduceLeDiff, Int.reduceLE, Int.reduceToNat, Nat.sub_zero, Int.le_refl]
theorem len_cat {a b : List UInt8} : (a ++ b).length = a.length + b.length := List.length_append
theorem okInts_take {l : List Int} (h : okInts l) (n : Nat) : okInts (l.take n) := fun x hx => h x (List.mem_of_mem_take hx)
/-- a text by numbers: some text, not too long -/
theorem gen_ok (l : List Int) (hi : okInts l) (hl : l.length < 2 ^ 40) : ∃ s G', s.length ≤ 16210 ∧ ev Try.prog ann 10 [.sl (l.map (.int .i64)) .no] [] = some (.val (.str s), G') := by
  rw [fun_some Try.func10 rfl rfl]
  have hcut := fun L G => cut_call l .no L G hl
  have hi' := okInts_take hi 1000
  have hl' : (l.take 1000).length < 2 ^ 40 := by simp; omega
  have hl'' : (l.take 1000).length ≤ 1000 := by simp; omega
  generalize l.take 1000 = m at hcut hi' hl' hl''
  simp only [go_sem, ↓reduceIte, Nat.reduceEqDiff, hcut, refs_ints, Nat.reduceAdd, Nat.reduceLeDiff, Nat.reduceMul, Nat.one_ne_zero]
  generalize hw : loopW _ _ _ _ _ _ = w
  obtain ⟨o, rfl, hq⟩ : ∃ o, w = some o ∧ ∃ s G', o = (.exit 0, [(4, .str s)], [], G') ∧ s.length ≤ 16210 := by
    rw [← hw]
    clear hw
    refine loop_ex (σ := Nat × List UInt8 × Nat) (fun q => [(3, .ptr false 0 0 0 0), (4, .str q.2.1), (5, .int .i64 q.1)]) (fun _ => []) (fun q => [tRow m q.2.2]) (fun q => q.1 ≤ 6 ∧ q.2.2 ≤ m.length ∧ (q.2.2 < m.length → q.2.1.length ≤ 16 * q.2.2) ∧ q.2.1.length ≤ 16 * q.2.2 + 210) (fun q => 6 - q.1) _ ?_ (0, [], 0) (by simp)
    rintro ⟨i, s, k⟩ ⟨h1, h3, h2, h5⟩
    simp only at h1 h2 h3 h5
    by_cases hk : k < m.length
    · by_cases h6 : (i : Int) < 6
      · obtain ⟨u, k', ⟨p1, p2, p3, p5, p6, p7⟩, p4⟩ := text3 [] [tRow m k] 0 m k (by simp) hl' hi' h3
        have e1 : ∀ x, List.set [tRow m k] 0 (tRow m x) = [tRow m x] := fun _ => rfl
        simp only [e1] at p4
        simp only [tRow] at p4
        have hw : IntKind.i64.wrap ((i : Int) + 1) = ((i + 1 : Nat) : Int) := by rw [wrap_in] <;> omega
        have l1 : s.length + u.length < 2 ^ 62 := by omega
        refine ⟨_, by simp only [go_sem, Nat.reduceEqDiff, hk, h6, hw, p4, l1, tRow]; rfl, ?_⟩
        exact .inl ⟨(i + 1, s ++ u, k'), by simp only [List.length_append]; omega, by simp only; omega, rfl⟩
      · refine ⟨_, by simp only [go_sem, Nat.reduceEqDiff, hk, h6, tRow]; rfl, ?_⟩
        exact .inr ⟨_, rfl, s, _, rfl, by omega⟩
    · refine ⟨_, by simp only [go_sem, Nat.reduceEqDiff, hk, tRow]; rfl, ?_⟩
      exact .inr ⟨_, rfl, s, _, rfl, by omega⟩
  obtain ⟨s, G', rfl, hs⟩ := hq
  exact ⟨s, G', hs, by simp only [go_sem, Nat.reduceEqDiff]⟩
theorem gen_call (l : List Int) (hi : okInts l) (hl : l.length < 2 ^ 40) : ∃ s, s.length ≤ 16210 ∧ ∀ (t : Tok) (L G : Hp), callA (cfg Try.prog ann) 10 [.sl (l.map (.int .i64)) t] L G = some (.val (.str s), L, G) := by
  obtain ⟨s, G', h1, h2⟩ := gen_ok l hi hl
  refine ⟨s, h1, fun t L G => call_pure rfl rfl ?_ rfl (G' := G') h2⟩
  simp only [handAs, handA, pfs, refss, AV.refs, Tok.drop, Tok.refs, refs_ints, if_true, Bool.and_self]
end Ev
