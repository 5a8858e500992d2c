/- A text spoilt; blanks at its front; a substitution's places. -/
import Derived.Test.YtecflllnnbiheaaT11
set_option maxHeartbeats 4000000
set_option linter.unusedVariables false
set_option linter.unusedSimpArgs false
namespace Ev
open Go Go.Proofs
set_option maxRecDepth 10000
theorem tdiv_pos {a n : Int} (h : 0 ≤ a) (hn : 0 < n) : 0 ≤ a.tdiv n ∧ a.tdiv n ≤ a := by
  rw [Int.tdiv_eq_ediv_of_nonneg h]
  exact ⟨Int.ediv_nonneg h (by omega), Int.ediv_le_self _ h⟩
theorem tmod_lt {a n : Int} (h : 0 ≤ a) (hn : 0 < n) : 0 ≤ a.tmod n ∧ a.tmod n < n := by
  rw [Int.tmod_eq_emod_of_nonneg h]
  exact ⟨Int.emod_nonneg _ (by omega), Int.emod_lt_of_pos _ hn⟩
theorem spoilt_call (s : List UInt8) (v : Int) (hs : s.length < 2 ^ 40) : ∃ s', s'.length ≤ s.length + 1 ∧ ∀ L G, callA (cfg Try.prog ann) 9 [.str s, .int .i64 v] L G = some (.val (.str s'), L, G) := by
  suffices h : ∃ s', s'.length ≤ s.length + 1 ∧ ev Try.prog ann 9 [.str s, .int .i64 v] [] = some (.val (.str s'), []) by
    obtain ⟨s', h1, h2⟩ := h
    exact ⟨s', h1, fun L G => call_pure rfl rfl rfl rfl h2⟩
  rw [fun_some Try.func9 rfl rfl]
  have k0 := Int.emod_nonneg v (by omega : (1073741824 : Int) ≠ 0)
  have k1 := Int.emod_lt_of_pos v (by omega : (0 : Int) < 1073741824)
  have hp := fun L G => place_call v 1073741824 L G (by omega) (by omega)
  generalize v % 1073741824 = k at k0 k1 hp
  by_cases he : s = []
  · subst he
    simp only [go_sem, ↓reduceIte, Nat.reduceEqDiff, hp, Int.reduceLT]
    exact ⟨_, by simp, rfl⟩
  have e1 : (s == []) = false := by simpa using he
  have hpos : 0 < s.length := List.length_pos_iff.2 he
  by_cases h3 : 0 < k.tmod 3
  · simp only [go_sem, ↓reduceIte, Nat.reduceEqDiff, hp, e1, h3, Int.reduceEq]
    exact ⟨_, by simp, rfl⟩
  obtain ⟨d0, d1⟩ := tdiv_pos (n := 12) k0 (by omega)
  obtain ⟨f0, f1⟩ := tdiv_pos (n := 7) k0 (by omega)
  obtain ⟨g0, g1⟩ := tdiv_pos (n := 3) k0 (by omega)
  have w1 : IntKind.i64.wrap (k.tdiv 12) = k.tdiv 12 := by rw [wrap_in] <;> omega
  have w2 : IntKind.i64.wrap (k.tdiv 7) = k.tdiv 7 := by rw [wrap_in] <;> omega
  have w3 : IntKind.i64.wrap (k.tdiv 3) = k.tdiv 3 := by rw [wrap_in] <;> omega
  obtain ⟨i0, i1⟩ := tmod_lt (n := (s.length : Int)) d0 (by omega)
  obtain ⟨j0, j1⟩ := tmod_lt (n := 14) f0 (by omega)
  generalize hi : (k.tdiv 12).tmod (s.length : Int) = i at i0 i1
  generalize hj : (k.tdiv 7).tmod 14 = j at j0 j1
  obtain ⟨i, rfl⟩ := Int.eq_ofNat_of_zero_le i0
  obtain ⟨j, rfl⟩ := Int.eq_ofNat_of_zero_le j0
  have w4 : IntKind.i64.wrap ((i : Int) + 1) = ((i + 1 : Nat) : Int) := by rw [wrap_in] <;> omega
  have w5 : IntKind.i64.wrap ((j : Int) + 1) = ((j + 1 : Nat) : Int) := by rw [wrap_in] <;> omega
  have c0 : ((s.length : Int) = 0) = False := by simp; omega
  have c1 : ((i : Int) ≤ (s.length : Int)) = True := by simp; omega
  have c2 : (((i + 1 : Nat) : Int) ≤ (s.length : Int)) = True := by simp; omega
  have c3 : (((j + 1 : Nat) : Int) ≤ (14 : Int)) = True := by simp; omega
  have c4 : ((j : Int) ≤ ((j + 1 : Nat) : Int)) = True := by simp; omega
  have n14 : ((14 : Nat) : Int) = 14 := rfl
  have q0 : ((0:Int) ≤ (j : Int)) = True := by simp
  have hi' : (k.tdiv 12).tmod (s.length : Int) = (i : Int) := hi
  have hj' : (k.tdiv 7).tmod 14 = (j : Int) := hj
  by_cases h0 : (k.tdiv 3).tmod 3 = 0
  · simp only [go_sem, ↓reduceIte, Nat.reduceEqDiff, hp, e1, h3, w1, w2, w3, w4, w5, hi', hj', c0, c1, c2, c3, c4, n14, Int.reduceEq, Int.reduceBEq, Nat.reduceAdd, Int.le_refl, Int.reduceLT, h0]
    rw [if_pos (by simp only [List.length_append, List.length_take, List.length_drop, List.length_cons, List.length_nil]; omega)]
    exact ⟨_, by simp only [List.length_append, List.length_take, List.length_drop, List.length_cons, List.length_nil]; omega, rfl⟩
  have h0b : ((k.tdiv 3).tmod 3 == 0) = false := by simpa using h0
  by_cases h1 : (k.tdiv 3).tmod 3 = 1
  · simp only [go_sem, ↓reduceIte, Nat.reduceEqDiff, hp, e1, h3, w1, w2, w3, w4, w5, hi', hj', c0, c1, c2, c3, c4, n14, Int.reduceEq, Int.reduceBEq, Nat.reduceAdd, Int.le_refl, Int.reduceLT, h0b, h1]
    rw [if_pos (by simp only [List.length_append, List.length_take, List.length_drop, List.length_cons, List.length_nil]; omega), if_pos (by simp only [List.length_append, List.length_take, List.length_drop, List.length_cons, List.length_nil]; omega)]
    exact ⟨_, by simp only [List.length_append, List.length_take, List.length_drop, List.length_cons, List.length_nil]; omega, rfl⟩
  · have h1b : ((k.tdiv 3).tmod 3 == 1) = false := by simpa using h1
    simp only [go_sem, ↓reduceIte, Nat.reduceEqDiff, hp, e1, h3, w1, w2, w3, w4, w5, hi', hj', c0, c1, c2, c3, c4, n14, Int.reduceEq, Int.reduceBEq, Nat.reduceAdd, Int.le_refl, Int.reduceLT, h0b, h1b]
    rw [if_pos (by simp only [List.length_append, List.length_take, List.length_drop, List.length_cons, List.length_nil]; omega), if_pos (by simp only [List.length_append, List.length_take, List.length_drop, List.length_cons, List.length_nil]; omega)]
    exact ⟨_, by simp only [List.length_append, List.length_take, List.length_drop, List.length_cons, List.length_nil]; omega, rfl⟩
/-- blanks at the front taken off -/
def leftF : List UInt8 → List UInt8
  | [] => []
  | c :: s => if blankF (c.toNat : Int) = true then leftF s else c :: s
theorem leftF_len : ∀ s, (leftF s).length ≤ s.length
  | [] => Nat.le_refl _
  | c :: s => by
    unfold leftF
    have := leftF_len s
    split
    · simp only [List.length_cons]; omega
    · exact Nat.le_refl _
theorem left_call (s : List UInt8) (L G : Hp) : callA (cfg Try.prog ann) 75 [.str s] L G = some (.val (.str (leftF s)), L, G) := by
  refine call_pure rfl rfl rfl rfl (G' := []) ?_
  show ev Try.prog ann _ [.str s] [] = _
  rw [fun_some Try.func75 rfl rfl]
  simp only [go_sem, Nat.reduceEqDiff]
  erw [loop_res (σ := List UInt8) (fun q => [(0, .str q)]) (fun _ => []) (fun _ => []) (fun _ => True) (fun q => q.length) (fun q => some (.exit 0, [(0, .str (leftF q))], [], [])) ?_ s trivial]
  · simp only [go_sem, Nat.reduceEqDiff]
  · rintro q -
    cases q with
    | nil => exact ⟨_, by simp only [go_sem, Nat.reduceEqDiff, Int.natCast_zero, Int.lt_irrefl, Int.reduceLT]; rfl, .inr (by simp only [leftF])⟩
    | cons c q =>
      have h0 : (0 : Int) < ((q.length + 1 : Nat) : Int) := by omega
      have h1 : (1 : Int) ≤ ((q.length + 1 : Nat) : Int) := by omega
      cases hb : blankF (c.toNat : Int) with
      | false => exact ⟨_, by simp only [go_sem, Nat.reduceEqDiff, h0, blank_call, hb, Int.reduceLT, Int.reduceToNat]; rfl, .inr (by simp only [leftF, hb, Bool.false_eq_true, if_false])⟩
      | true =>
        refine ⟨_, by simp only [go_sem, Nat.reduceEqDiff, h0, h1, blank_call, hb, Int.reduceLT, Int.reduceLE, Int.reduceToNat, Nat.sub_self, Nat.add_sub_cancel, List.take_length] <;> rfl, .inl ⟨q, trivial, by simp, by simp only [leftF, hb, if_true], rfl⟩⟩
end Ev
