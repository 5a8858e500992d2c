/- Instructions that may be. -/
import Derived.Test.YtecflllnnbiheaaT17
import Derived.Test.YtecflllnnbiheaaT15
set_option maxHeartbeats 4000000
set_option linter.unusedVariables false
set_option linter.unusedSimpArgs false
namespace Ev
open Go Go.Proofs
set_option maxRecDepth 10000
theorem ite_memb {α : Type} {p : Prop} [Decidable p] {a b : α} {l : List α} (ha : a ∈ l) (hb : b ∈ l) : (if p then a else b) ∈ l := by split <;> assumption
def fitsI (F : Inf × Bool) (n : Int) (lz : Bool) : Bool := F.2 && (F.1.2.2.1 == lz && (decide (F.1.1 ≤ n) && (F.1.2.1 == 0 || decide (n ≤ F.1.2.1))))
/-- may a function have so many arguments? -/
def fitsF (s : List UInt8) (n : Int) (lz : Bool) : Bool := fitsI (findF s) n lz
theorem refFits_call (s : List UInt8) (n : Int) (lz : Bool) (L G : Hp) : callA (cfg Try.prog ann) 83 [.str s, .int .i64 n, .bool lz] L G = some (.val (.bool (fitsF s n lz)), L, G) := by
  suffices h : ∃ G', ev Try.prog ann 83 [.str s, .int .i64 n, .bool lz] [] = some (.val (.bool (fitsF s n lz)), G') by
    obtain ⟨G', h⟩ := h
    exact call_pure rfl rfl rfl rfl h
  unfold fitsF
  have hf := fun L G => refFind_call s L G
  generalize findF s = F at hf
  obtain ⟨⟨mn, mx, l, pu⟩, ok⟩ := F
  simp only [infA] at hf
  rw [fun_some Try.func83 rfl rfl]
  simp only [fitsI]
  cases ok with
  | false => exact ⟨_, by simp only [go_sem, Nat.reduceEqDiff, hf, Nat.reduceAdd, Nat.reduceLeDiff] <;> rfl⟩
  | true =>
  cases h1 : (l == lz) with
  | false => exact ⟨_, by simp only [go_sem, Nat.reduceEqDiff, hf, h1, Nat.reduceAdd, Nat.reduceLeDiff] <;> rfl⟩
  | true =>
  by_cases h2 : mn ≤ n
  · cases h3 : (mx == 0) with
    | true => exact ⟨_, by simp only [go_sem, Nat.reduceEqDiff, hf, h1, h2, h3, Nat.reduceAdd, Nat.reduceLeDiff] <;> rfl⟩
    | false => exact ⟨_, by simp only [go_sem, Nat.reduceEqDiff, hf, h1, h2, h3, Nat.reduceAdd, Nat.reduceLeDiff] <;> rfl⟩
  · exact ⟨_, by simp only [go_sem, Nat.reduceEqDiff, hf, h1, h2, Nat.reduceAdd, Nat.reduceLeDiff] <;> rfl⟩
theorem fits_call (s : List UInt8) (n : Int) (lz : Bool) (L G : Hp) : callA (cfg Try.prog ann) 99 [.str s, .bool lz, .int .i64 n] L G = some (.val (.bool (fitsF s n lz)), L, G) := by
  suffices h : ∃ G', ev Try.prog ann 99 [.str s, .bool lz, .int .i64 n] [] = some (.val (.bool (fitsF s n lz)), G') by
    obtain ⟨G', h⟩ := h
    exact call_pure rfl rfl rfl rfl h
  unfold fitsF
  rw [find_tab]
  have hf := fun L G => tabFind_call s L G
  generalize tabF s = F at hf
  obtain ⟨⟨mn, mx, l, pu⟩, ok⟩ := F
  simp only [infA] at hf
  rw [fun_some Try.func99 rfl rfl]
  simp only [fitsI]
  cases ok with
  | false => exact ⟨_, by simp only [go_sem, Nat.reduceEqDiff, hf, Nat.reduceAdd, Nat.reduceLeDiff] <;> rfl⟩
  | true =>
  cases h1 : (l == lz) with
  | false => exact ⟨_, by simp only [go_sem, Nat.reduceEqDiff, hf, h1, Nat.reduceAdd, Nat.reduceLeDiff] <;> rfl⟩
  | true =>
  by_cases h2 : mn ≤ n
  · cases h3 : (mx == 0) with
    | true => exact ⟨_, by simp only [go_sem, Nat.reduceEqDiff, hf, h1, h2, h3, Nat.reduceAdd, Nat.reduceLeDiff] <;> rfl⟩
    | false => exact ⟨_, by simp only [go_sem, Nat.reduceEqDiff, hf, h1, h2, h3, Nat.reduceAdd, Nat.reduceLeDiff] <;> rfl⟩
  · exact ⟨_, by simp only [go_sem, Nat.reduceEqDiff, hf, h1, h2, Nat.reduceAdd, Nat.reduceLeDiff] <;> rfl⟩
/-- how many an instruction takes, if it may be -/
def takesF (o : OpT) (b m : Int) : Option Int :=
  if o.kind = 1 then if o.n = 0 ∧ o.blocks = [] then some 0 else none
  else if o.kind = 2 then if o.n = 0 ∧ o.s = [] ∧ o.blocks = [] then some 1 else none
  else if o.kind = 3 then if o.n = 0 ∧ o.s = [] ∧ o.blocks = [] then some 3 else none
  else if o.kind = 4 then if 0 ≤ o.n ∧ o.s = [] ∧ o.blocks = [] then some o.n else none
  else if o.kind = 5 then if 0 ≤ o.n ∧ o.blocks = [] ∧ fitsF o.s o.n false = true then some o.n else none
  else if o.kind = 6 then if o.n = 0 ∧ (o.blocks.all fun x => decide (b < x) && decide (x < m)) = true ∧ fitsF o.s o.blocks.length true = true then some 0 else none
  else none
theorem fits_pos {s : List UInt8} {n : Int} (h : fitsF s n false = true) : 0 ≤ n := by
  have key : ∀ x : Inf × Bool, x ∈ [((0, 0, false, false), false), ((1, 1, false, true), true), ((2, 2, false, true), true), ((3, 3, false, true), true), ((2, 3, true, false), true), ((1, 0, true, false), true), ((2, 5, true, false), true), ((3, 3, true, false), true), ((1, 0, false, false), true), ((1, 1, false, false), true)] → 0 ≤ x.1.1 := by decide
  have hm : 0 ≤ (findF s).1.1 := by
    apply key
    unfold findF
    repeat refine ite_memb (by decide) ?_
    decide
  unfold fitsF fitsI at h
  simp only [Bool.and_eq_true, decide_eq_true_eq] at h
  omega
end Ev
