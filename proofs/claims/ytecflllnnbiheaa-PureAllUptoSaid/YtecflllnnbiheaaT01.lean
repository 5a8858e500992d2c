/- Functions that need no heap: places, brackets, words. -/
import Derived.Test.YtecflllnnbiheaaEv14
import Derived.Test.YtecflllnnbiheaaAnn
import Derived.Test.YtecflllnnbiheaaTy
set_option maxHeartbeats 4000000
set_option linter.unusedVariables false
set_option linter.unusedSimpArgs false
namespace Ev
open Go Go.Proofs
set_option maxRecDepth 10000
theorem tmod_emod (v n : Int) (hn : 0 < n) : (if v.tmod n < 0 then v.tmod n + n else v.tmod n) = v % n := by
  have h1 := Int.emod_nonneg v (by omega : n ≠ 0)
  have h2 := Int.emod_lt_of_pos v hn
  rw [Int.tmod_eq_emod]
  split <;> split <;> omega
theorem place_ok (v n : Int) (hn : 0 < n) (hb : n < 2 ^ 40) : ev Try.prog ann 22 [.int .i64 v, .int .i64 n] [] = some (.val (.int .i64 (v % n)), []) := by
  rw [fun_some Try.func22 rfl rfl]
  have h0 : ¬ n = 0 := by omega
  have hm := tmod_emod v n hn
  have h1 := Int.emod_nonneg v (by omega : n ≠ 0)
  have h2 := Int.emod_lt_of_pos v hn
  simp only [go_sem, ↓reduceIte, ne_eq, not_true_eq_false, h0, reduceCtorEq, Nat.reduceEqDiff, decide_eq_true_eq]
  by_cases h : v.tmod n < 0
  · rw [if_pos h] at hm ⊢
    rw [hm, wrap_in (by omega) (by omega)]
  · rw [if_neg h] at hm ⊢
    rw [hm]
/-- where a bracket that is open at a place is closed -/
def endsF (s : List UInt8) (o c : Int) : Nat → Nat → Int → Option Nat
  | 0, _, _ => none
  | n + 1, i, deep =>
    let x : Int := ((s.getD i 0).toNat : Int)
    if x = o then endsF s o c n (i + 1) (deep + 1)
    else if x = c then if deep - 1 = 0 then some i else endsF s o c n (i + 1) (deep - 1)
    else endsF s o c n (i + 1) deep
theorem ends_ok (s : List UInt8) (at' : Nat) (o c : Int) (hs : s.length < 2 ^ 40) (ha : at' ≤ s.length) (G : Hp): ev Try.prog ann 57 [.str s, .int .i64 at', .int .u8 o, .int .u8 c] G =
    some (.val (.int .i64 (match endsF s o c (s.length - at') at' 1 with | some k => k | none => -1)), G) := by
  rw [fun_some Try.func57 rfl rfl]
  simp only [go_sem, Nat.reduceEqDiff]
  erw [loop_res (σ := Nat × Int) (fun q => [(0, .str s), (2, .int .u8 o), (3, .int .u8 c), (9, .int .i64 q.2), (10, .int .i64 q.1)]) (fun _ => []) (fun _ => G) (fun q => at' ≤ q.1 ∧ q.1 ≤ s.length ∧ 1 ≤ q.2 ∧ q.2 ≤ q.1 + 1) (fun q => s.length - q.1)
    (fun q => match endsF s o c (s.length - q.1) q.1 q.2 with | none => some (.exit 0, [], [], G) | some k => some (.ret, [(8, .int .i64 k)], [], G)) ?_ (at', 1) ?_]
  · cases endsF s o c (s.length - at') at' 1 <;> simp only [go_sem] <;> rfl
  · rintro ⟨i, deep⟩ ⟨h1, h2, h3, h4⟩
    simp only at h1 h2 h3 h4
    by_cases hi : i < s.length
    · obtain ⟨n, hn⟩ : ∃ n, s.length - i = n + 1 := ⟨s.length - i - 1, by omega⟩
      have hx : s[i]? = some (s.getD i 0) := by simp [List.getD, List.getElem?_eq_getElem hi]
      have hw : IntKind.i64.wrap ((i : Int) + 1) = ((i + 1 : Nat) : Int) := by rw [wrap_in] <;> omega
      have hw1 : IntKind.i64.wrap (deep + 1) = deep + 1 := by rw [wrap_in] <;> omega
      have hw2 : IntKind.i64.wrap (deep - 1) = deep - 1 := by rw [wrap_in] <;> omega
      by_cases ho : ((s.getD i 0).toNat : Int) = o
      · refine ⟨_, by simp only [go_sem, hi, hx, ho, hw, hw1, Nat.reduceEqDiff]; rfl, ?_⟩
        exact .inl ⟨(i + 1, deep + 1), by simp only; omega, by simp only; omega, by simp only [show s.length - (i + 1) = n by omega, hn, endsF, ho, if_true], rfl⟩
      by_cases hc : ((s.getD i 0).toNat : Int) = c
      · have hco : ¬ c = o := fun e => ho (hc.trans e)
        by_cases hd : deep - 1 = 0
        · refine ⟨_, by simp only [go_sem, hi, hx, hco, hc, hd, hw, hw2, Nat.reduceEqDiff, show IntKind.i64.wrap 0 = 0 from by decide]; rfl, ?_⟩
          right
          simp only [hn, endsF, hco, hc, hd, if_true, if_false]
        · refine ⟨_, by simp only [go_sem, hi, hx, hco, hc, hd, hw, hw2, Nat.reduceEqDiff]; rfl, ?_⟩
          exact .inl ⟨(i + 1, deep - 1), by simp only; omega, by simp only; omega, by simp only [show s.length - (i + 1) = n by omega, hn, endsF, hco, hc, hd, if_true, if_false], rfl⟩
      · refine ⟨_, by simp only [go_sem, hi, hx, ho, hc, hw, Nat.reduceEqDiff]; rfl, ?_⟩
        exact .inl ⟨(i + 1, deep), by simp only; omega, by simp only; omega, by simp only [show s.length - (i + 1) = n by omega, hn, endsF, ho, hc, if_false], rfl⟩
    · refine ⟨_, by simp only [go_sem, hi, Nat.reduceEqDiff]; rfl, ?_⟩
      right
      simp only [show s.length - i = 0 by omega, endsF]
  · simp; omega
end Ev

/- Blanks; words by numbers. -/
namespace Ev
open Go Go.Proofs
set_option maxRecDepth 10000
theorem place_call (v n : Int) (L G : Hp) (hn : 0 < n) (hb : n < 2 ^ 40) : callA (cfg Try.prog ann) 22 [.int .i64 v, .int .i64 n] L G = some (.val (.int .i64 (v % n)), L, G) :=
  call_pure rfl rfl rfl rfl (place_ok v n hn hb)
def blankF (c : Int) : Bool := c == 32 || (c == 9 || c == 10)
theorem blank_ok (c : Int) : ev Try.prog ann 96 [.int .u8 c] [] = some (.val (.bool (blankF c)), []) := by
  rw [fun_some Try.func96 rfl rfl]
  unfold blankF
  by_cases h1 : c = 32
  · subst h1; simp only [go_sem, Nat.reduceEqDiff, Nat.reduceAdd]
  by_cases h2 : c = 9
  · subst h2; simp only [go_sem, Nat.reduceEqDiff]; rfl
  by_cases h3 : c = 10
  · subst h3; simp only [go_sem, Nat.reduceEqDiff]; rfl
  have e1 : (c == 32) = false := by simpa using h1
  have e2 : (c == 9) = false := by simpa using h2
  have e3 : (c == 10) = false := by simpa using h3
  simp only [go_sem, e1, e2, e3, Nat.reduceEqDiff]
theorem blank_call (c : Int) (L G : Hp) : callA (cfg Try.prog ann) 96 [.int .u8 c] L G = some (.val (.bool (blankF c)), L, G) :=
  call_pure rfl rfl rfl rfl (blank_ok c)
def wordsL : List (List UInt8) := [[97], [98], [99], [97, 46, 99], [98, 46, 99], [120, 46, 111], [100, 105, 114, 47, 97, 46, 99], [46, 46, 47, 117, 112], [50], [45, 49], [102, 111, 111], [102, 111, 111, 46, 98, 97, 114, 46, 99], [108, 105, 98, 37], [97, 37, 98], [49, 48], [122]]
theorem word_ok (v : Int) : ev Try.prog ann 97 [.int .i64 v] [] = some (.val (.str (wordsL.getD (v % 16).toNat [])), []) := by
  rw [fun_some Try.func97 rfl rfl]
  have h0 : ¬ v % 16 < 0 := by omega
  have h1 : (v % 16).toNat < 16 := by omega
  have h2 : (wordsL.map AV.str)[(v % 16).toNat]? = some (.str (wordsL.getD (v % 16).toNat [])) := by
    rw [List.getElem?_map, List.getD_eq_getElem?_getD, List.getElem?_eq_getElem (by exact h1)]; rfl
  simp only [wordsL, List.map_cons, List.map_nil] at h2
  simp only [go_sem, Nat.reduceEqDiff, place_call, Int.reduceLT, Int.reducePow, Nat.reduceMul, Nat.reduceAdd, Nat.reduceLeDiff, h0, h1, h2]
  rfl
theorem word_call (v : Int) (L G : Hp) : callA (cfg Try.prog ann) 97 [.int .i64 v] L G = some (.val (.str (wordsL.getD (v % 16).toNat [])), L, G) :=
  call_pure rfl rfl rfl rfl (word_ok v)
end Ev

/- Words by numbers. -/
namespace Ev
open Go Go.Proofs
set_option maxRecDepth 10000
theorem words_len (k : Nat) : (wordsL.getD k []).length ≤ 9 := by
  rcases Nat.lt_or_ge k 16 with h | h
  · have : ∀ k : Fin 16, (wordsL.getD k.1 []).length ≤ 9 := by decide
    exact this ⟨k, h⟩
  · rw [List.getD_eq_getElem?_getD, List.getElem?_eq_none (by exact h)]; simp
theorem blank_at (y : Int) : ∃ b, [AV.str [32], AV.str [32], AV.str [32, 32]][(y % 3).toNat]? = some (.str b) ∧ b.length ≤ 2 := by
  have h : (y % 3).toNat < 3 := by omega
  have : ∀ k : Fin 3, ∃ b, [AV.str [32], AV.str [32], AV.str [32, 32]][k.1]? = some (.str b) ∧ b.length ≤ 2 := by
    intro k
    match k with
    | 0 => exact ⟨_, rfl, by decide⟩
    | 1 => exact ⟨_, rfl, by decide⟩
    | 2 => exact ⟨_, rfl, by decide⟩
  exact this ⟨_, h⟩
def okInts (l : List Int) : Prop := ∀ n ∈ l, -9223372036854775808 ≤ n ∧ n ≤ 9223372036854775807
theorem words_ok (l : List Int) (hl : okInts l) : ∃ s, s.length ≤ 440 ∧ s.length ≤ 11 * l.length ∧ (1 ≤ l.length → s.length + 2 ≤ 11 * l.length) ∧ ev Try.prog ann 78 [.sl (l.map (.int .i64)) .no] [] = some (.val (.str s), []) := by
  rw [fun_some Try.func78 rfl rfl]
  simp only [go_sem, Nat.reduceEqDiff]
  generalize hw : loopW _ _ _ _ _ _ = w
  obtain ⟨o, rfl, hq⟩ : ∃ o, w = some o ∧ ∃ s, o = (.exit 0, [(3, .str s)], [], []) ∧ s.length ≤ 440 ∧ s.length ≤ 11 * l.length ∧ (1 ≤ l.length → s.length + 2 ≤ 11 * l.length) := by
    rw [← hw]
    refine loop_ex (σ := Nat × List UInt8) (fun q => [(0, .sl (l.map (.int .i64)) .no), (3, .str q.2), (4, .int .i64 q.1)]) (fun _ => []) (fun _ => []) (fun q => q.1 ≤ 40 ∧ q.1 ≤ l.length ∧ q.2.length ≤ 11 * q.1 ∧ (0 < q.1 → q.2.length + 2 ≤ 11 * q.1)) (fun q => 40 - q.1) _ ?_ (0, []) (by simp)
    rintro ⟨i, s⟩ ⟨h1, h3, h2, h5⟩
    simp only at h1 h2 h3 h5
    clear hw
    by_cases hi : i < l.length
    · by_cases h40 : (i : Int) < 40
      · obtain ⟨x, hx⟩ : ∃ x, l[i]? = some x := ⟨_, List.getElem?_eq_getElem hi⟩
        have hmem := hl x (List.mem_of_getElem? hx)
        have hx' : (l.map (AV.int .i64))[i]? = some (.int .i64 x) := by rw [List.getElem?_map, hx]; rfl
        have hw : IntKind.i64.wrap ((i : Int) + 1) = ((i + 1 : Nat) : Int) := by rw [wrap_in] <;> omega
        have hwl := words_len (x % 16).toNat
        generalize hwd : wordsL.getD (x % 16).toNat [] = wd at hwl
        by_cases h0 : 0 < (i : Int)
        · obtain ⟨bl, hb, hbl⟩ := blank_at (IntKind.i64.wrap (x.tdiv 16))
          have b0 : ¬ IntKind.i64.wrap (x.tdiv 16) % 3 < 0 := by omega
          have b1 : (IntKind.i64.wrap (x.tdiv 16) % 3).toNat < 3 := by omega
          have l1 : s.length + bl.length < 2 ^ 62 := by omega
          have l2 : s.length + bl.length + wd.length < 2 ^ 62 := by omega
          refine ⟨_, by simp only [go_sem, Nat.reduceEqDiff, hi, h40, hx', hw, h0, hb, b0, b1, l1, l2, hwd, place_call, word_call, List.length_append, Int.reduceLT, Int.reducePow, Int.reduceEq, Nat.reduceMul, Nat.reduceAdd, Nat.reduceLeDiff]; rfl, ?_⟩
          exact .inl ⟨(i + 1, s ++ bl ++ wd), by simp only [List.length_append]; omega, by simp only; omega, rfl⟩
        · have l2 : s.length + wd.length < 2 ^ 62 := by omega
          refine ⟨_, by simp only [go_sem, Nat.reduceEqDiff, hi, h40, hx', hw, h0, l2, hwd, place_call, word_call, Int.reduceLT, Int.reducePow, Int.reduceEq, Nat.reduceMul, Nat.reduceAdd, Nat.reduceLeDiff]; rfl, ?_⟩
          exact .inl ⟨(i + 1, s ++ wd), by simp only [List.length_append]; omega, by simp only; omega, rfl⟩
      · refine ⟨_, by simp only [go_sem, Nat.reduceEqDiff, hi, h40]; rfl, ?_⟩
        exact .inr ⟨_, rfl, s, rfl, by omega, by omega, by omega⟩
    · refine ⟨_, by simp only [go_sem, Nat.reduceEqDiff, hi]; rfl, ?_⟩
      exact .inr ⟨_, rfl, s, rfl, by omega, by omega, by omega⟩
  obtain ⟨s, rfl, hs, hs2, hs3⟩ := hq
  exact ⟨s, hs, hs2, hs3, by simp only [go_sem, Nat.reduceEqDiff]⟩
end Ev
