/- What stands between brackets: its name, its cuts, its arguments. -/
import Derived.Test.YtecflllnnbiheaaT18
set_option maxHeartbeats 4000000
set_option linter.unusedVariables false
set_option linter.unusedSimpArgs false
namespace Ev
open Go Go.Proofs
set_option maxRecDepth 10000
theorem name_ok (s : List UInt8) (hs : s.length < 2 ^ 30) : ∃ f, (f = [] ∨ (f.length + 1 ≤ s.length ∧ blankF ((s.getD f.length 0).toNat : Int) = true ∧ (findF f).2 = true)) ∧ f.length ≤ s.length ∧ ∀ L G, callA (cfg Try.prog ann) 73 [.str s] L G = some (.val (.str f), L, G) := by
  suffices h : ∃ f G', (f = [] ∨ (f.length + 1 ≤ s.length ∧ blankF ((s.getD f.length 0).toNat : Int) = true ∧ (findF f).2 = true)) ∧ f.length ≤ s.length ∧ ev Try.prog ann 73 [.str s] [] = some (.val (.str f), G') by
    obtain ⟨f, G', h1, h2, h⟩ := h
    exact ⟨f, h1, h2, fun L G => call_pure rfl rfl rfl rfl h⟩
  rw [fun_some Try.func73 rfl rfl]
  simp only [go_sem, Nat.reduceEqDiff]
  generalize hw : loopW _ _ _ _ _ _ = w
  obtain ⟨o, rfl, i, rfl, hi⟩ : ∃ o, w = some o ∧ ∃ i : Nat, o = (.exit 0, [(0, .str s), (3, .int .i64 i)], [], []) ∧ i ≤ s.length := by
    rw [← hw]
    clear hw
    refine loop_ex (σ := Nat) (fun i => [(0, .str s), (3, .int .i64 i)]) (fun _ => []) (fun _ => []) (fun i => i ≤ s.length) (fun i => s.length - i) _ ?_ 0 (Nat.zero_le _)
    intro i hi
    have hw : IntKind.i64.wrap ((i : Int) + 1) = ((i + 1 : Nat) : Int) := by rw [wrap_in] <;> omega
    by_cases h : i < s.length
    · have hx : s[i]? = some (s.getD i 0) := by simp [List.getD, List.getElem?_eq_getElem h]
      generalize s.getD i 0 = c at hx
      by_cases c1 : (97 : Int) ≤ (c.toNat : Int)
      · by_cases c2 : (c.toNat : Int) ≤ 122
        · exact ⟨_, by simp only [go_sem, Nat.reduceEqDiff, h, hx, hw, c1, c2] <;> rfl, .inl ⟨i + 1, by omega, by omega, rfl⟩⟩
        · cases c3 : ((c.toNat : Int) == 45) with
          | true => exact ⟨_, by simp only [go_sem, Nat.reduceEqDiff, h, hx, hw, c1, c2, c3] <;> rfl, .inl ⟨i + 1, by omega, by omega, rfl⟩⟩
          | false => exact ⟨_, by simp only [go_sem, Nat.reduceEqDiff, h, hx, hw, c1, c2, c3] <;> rfl, .inr ⟨_, rfl, i, rfl, hi⟩⟩
      · cases c3 : ((c.toNat : Int) == 45) with
        | true => exact ⟨_, by simp only [go_sem, Nat.reduceEqDiff, h, hx, hw, c1, c3] <;> rfl, .inl ⟨i + 1, by omega, by omega, rfl⟩⟩
        | false => exact ⟨_, by simp only [go_sem, Nat.reduceEqDiff, h, hx, hw, c1, c3] <;> rfl, .inr ⟨_, rfl, i, rfl, hi⟩⟩
    · exact ⟨_, by simp only [go_sem, Nat.reduceEqDiff, h] <;> rfl, .inr ⟨_, rfl, i, rfl, hi⟩⟩
  have h1 : ((i : Int) ≤ (s.length : Int)) = True := by simp; omega
  have hc := fun L G => refFind_call (s.take i) L G
  have hlen : (s.take i).length = i := by simp; omega
  cases hf : (findF (s.take i)).2 with
  | false => exact ⟨[], _, .inl rfl, by simp, by simp only [go_sem, Nat.reduceEqDiff, h1, Int.le_refl, Nat.sub_zero, hc, hf, infA, Nat.reduceAdd, Nat.reduceLeDiff] <;> rfl⟩
  | true =>
    by_cases h : i < s.length
    · have hx : s[i]? = some (s.getD i 0) := by simp [List.getD, List.getElem?_eq_getElem h]
      cases hb : blankF ((s.getD i 0).toNat : Int) with
      | false => exact ⟨[], _, .inl rfl, by simp, by simp only [go_sem, Nat.reduceEqDiff, h1, h, hx, Int.le_refl, Nat.sub_zero, hc, hf, infA, blank_call, hb, Nat.reduceAdd, Nat.reduceLeDiff] <;> rfl⟩
      | true => exact ⟨s.take i, _, .inr ⟨by omega, by rw [hlen]; exact hb, hf⟩, by omega, by simp only [go_sem, Nat.reduceEqDiff, h1, h, hx, Int.le_refl, Nat.sub_zero, hc, hf, infA, blank_call, hb, Nat.reduceAdd, Nat.reduceLeDiff] <;> rfl⟩
    · exact ⟨[], _, .inl rfl, by simp, by simp only [go_sem, Nat.reduceEqDiff, h1, h, Int.le_refl, Nat.sub_zero, hc, hf, infA, Nat.reduceAdd, Nat.reduceLeDiff] <;> rfl⟩
theorem cuts_ok (s : List UInt8) (hs : s.length < 2 ^ 30) : ∃ a b : Int, (a < 0 ∨ ∃ p q : Nat, a = p ∧ b = q ∧ p < q ∧ q < s.length) ∧ ∀ L G, callA (cfg Try.prog ann) 77 [.str s] L G = some (.val (.tup [.int .i64 a, .int .i64 b]), L, G) := by
  suffices h : ∃ a b : Int, (a < 0 ∨ ∃ p q : Nat, a = p ∧ b = q ∧ p < q ∧ q < s.length) ∧ ev Try.prog ann 77 [.str s] [] = some (.val (.tup [.int .i64 a, .int .i64 b]), []) by
    obtain ⟨a, b, h1, h⟩ := h
    exact ⟨a, b, h1, fun L G => call_pure rfl rfl rfl rfl h⟩
  rw [fun_some Try.func77 rfl rfl]
  simp only [go_sem, Nat.reduceEqDiff]
  generalize hw : loopW _ _ _ _ _ _ = w
  obtain ⟨o, rfl, hq⟩ : ∃ o, w = some o ∧ (o = (.exit 0, [], [], []) ∨ ∃ p q : Nat, o = (.ret, [(2, .int .i64 p), (3, .int .i64 q)], [], []) ∧ p < q ∧ q < s.length) := by
    rw [← hw]
    clear hw
    refine loop_ex (σ := Nat × Int × Int) (fun q => [(0, .str s), (4, .int .i64 q.2.1), (5, .int .i64 q.2.2), (6, .int .i64 q.1)]) (fun _ => []) (fun _ => []) (fun q => q.1 ≤ s.length ∧ 0 ≤ q.2.1 ∧ q.2.1 ≤ q.1 ∧ (q.2.2 = -1 ∨ ∃ p : Nat, q.2.2 = p ∧ p < q.1)) (fun q => s.length - q.1) _ ?_ (0, 0, -1) ⟨Nat.zero_le _, by simp, by simp, .inl rfl⟩
    rintro ⟨i, d, co⟩ ⟨h1, h2, h3, h4⟩
    simp only at h1 h2 h3 h4
    have hw : IntKind.i64.wrap ((i : Int) + 1) = ((i + 1 : Nat) : Int) := by rw [wrap_in] <;> omega
    have hd1 : IntKind.i64.wrap (d + 1) = d + 1 := by rw [wrap_in] <;> omega
    have hd2 : IntKind.i64.wrap (d - 1) = d - 1 := by rw [wrap_in] <;> omega
    have h4' : co = -1 ∨ ∃ p : Nat, co = p ∧ p < i + 1 := by
      rcases h4 with h | ⟨p, h, h'⟩
      · exact .inl h
      · exact .inr ⟨p, h, by omega⟩
    by_cases h : i < s.length
    · have hx : s[i]? = some (s.getD i 0) := by simp [List.getD, List.getElem?_eq_getElem h]
      generalize s.getD i 0 = c at hx
      cases c1 : ((c.toNat : Int) == 40) with
      | true => exact ⟨_, by simp only [go_sem, Nat.reduceEqDiff, h, hx, hw, hd1, c1] <;> rfl, .inl ⟨(i + 1, d + 1, co), ⟨by simp only; omega, by simp only; omega, by simp only; omega, h4'⟩, by simp only; omega, rfl⟩⟩
      | false =>
      cases c2 : ((c.toNat : Int) == 123) with
      | true => exact ⟨_, by simp only [go_sem, Nat.reduceEqDiff, h, hx, hw, hd1, c1, c2] <;> rfl, .inl ⟨(i + 1, d + 1, co), ⟨by simp only; omega, by simp only; omega, by simp only; omega, h4'⟩, by simp only; omega, rfl⟩⟩
      | false =>
      cases c3 : ((c.toNat : Int) == 41) with
      | true =>
        by_cases hd : 0 > d - 1
        · exact ⟨_, by simp only [go_sem, Nat.reduceEqDiff, h, hx, hw, hd2, c1, c2, c3, hd] <;> rfl, .inl ⟨(i + 1, 0, co), ⟨by simp only; omega, by simp only; omega, by simp only; omega, h4'⟩, by simp only; omega, rfl⟩⟩
        · exact ⟨_, by simp only [go_sem, Nat.reduceEqDiff, h, hx, hw, hd2, c1, c2, c3, hd] <;> rfl, .inl ⟨(i + 1, d - 1, co), ⟨by simp only; omega, by simp only; omega, by simp only; omega, h4'⟩, by simp only; omega, rfl⟩⟩
      | false =>
      cases c4 : ((c.toNat : Int) == 125) with
      | true =>
        by_cases hd : 0 > d - 1
        · exact ⟨_, by simp only [go_sem, Nat.reduceEqDiff, h, hx, hw, hd2, c1, c2, c3, c4, hd] <;> rfl, .inl ⟨(i + 1, 0, co), ⟨by simp only; omega, by simp only; omega, by simp only; omega, h4'⟩, by simp only; omega, rfl⟩⟩
        · exact ⟨_, by simp only [go_sem, Nat.reduceEqDiff, h, hx, hw, hd2, c1, c2, c3, c4, hd] <;> rfl, .inl ⟨(i + 1, d - 1, co), ⟨by simp only; omega, by simp only; omega, by simp only; omega, h4'⟩, by simp only; omega, rfl⟩⟩
      | false =>
      cases c5 : ((c.toNat : Int) == 58) with
      | true =>
        cases e1 : (d == 0) with
        | false => exact ⟨_, by simp only [go_sem, Nat.reduceEqDiff, h, hx, hw, c1, c2, c3, c4, c5, e1] <;> rfl, .inl ⟨(i + 1, d, co), ⟨by simp only; omega, by simp only; omega, by simp only; omega, h4'⟩, by simp only; omega, rfl⟩⟩
        | true =>
          by_cases e2 : co < 0
          · exact ⟨_, by simp only [go_sem, Nat.reduceEqDiff, h, hx, hw, c1, c2, c3, c4, c5, e1, e2] <;> rfl, .inl ⟨(i + 1, d, (i : Int)), ⟨by simp only; omega, by simp only; omega, by simp only; omega, .inr ⟨i, rfl, by simp⟩⟩, by simp only; omega, rfl⟩⟩
          · exact ⟨_, by simp only [go_sem, Nat.reduceEqDiff, h, hx, hw, c1, c2, c3, c4, c5, e1, e2] <;> rfl, .inl ⟨(i + 1, d, co), ⟨by simp only; omega, by simp only; omega, by simp only; omega, h4'⟩, by simp only; omega, rfl⟩⟩
      | false =>
      cases c6 : ((c.toNat : Int) == 61) with
      | false => exact ⟨_, by simp only [go_sem, Nat.reduceEqDiff, h, hx, hw, c1, c2, c3, c4, c5, c6] <;> rfl, .inl ⟨(i + 1, d, co), ⟨by simp only; omega, by simp only; omega, by simp only; omega, h4'⟩, by simp only; omega, rfl⟩⟩
      | true =>
        cases e1 : (d == 0) with
        | false => exact ⟨_, by simp only [go_sem, Nat.reduceEqDiff, h, hx, hw, c1, c2, c3, c4, c5, c6, e1] <;> rfl, .inl ⟨(i + 1, d, co), ⟨by simp only; omega, by simp only; omega, by simp only; omega, h4'⟩, by simp only; omega, rfl⟩⟩
        | true =>
          by_cases e2 : 0 ≤ co
          · obtain ⟨p, rfl, hp⟩ : ∃ p : Nat, co = p ∧ p < i := by
              rcases h4 with h4 | h4
              · omega
              · exact h4
            exact ⟨_, by simp only [go_sem, Nat.reduceEqDiff, h, hx, hw, c1, c2, c3, c4, c5, c6, e1, e2] <;> rfl, .inr ⟨_, rfl, .inr ⟨p, i, rfl, hp, h⟩⟩⟩
          · exact ⟨_, by simp only [go_sem, Nat.reduceEqDiff, h, hx, hw, c1, c2, c3, c4, c5, c6, e1, e2] <;> rfl, .inl ⟨(i + 1, d, co), ⟨by simp only; omega, by simp only; omega, by simp only; omega, h4'⟩, by simp only; omega, rfl⟩⟩
    · exact ⟨_, by simp only [go_sem, Nat.reduceEqDiff, h] <;> rfl, .inr ⟨_, rfl, .inl rfl⟩⟩
  rcases hq with rfl | ⟨p, q, rfl, h1, h2⟩
  · exact ⟨-1, -1, .inl (by omega), by simp only [go_sem, Nat.reduceEqDiff] <;> rfl⟩
  · exact ⟨p, q, .inr ⟨p, q, rfl, rfl, h1, h2⟩, by simp only [go_sem, Nat.reduceEqDiff] <;> rfl⟩
end Ev
