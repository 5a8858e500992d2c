/- The functions: the document's table, and the program's. -/
import Derived.Test.YtecflllnnbiheaaT16
import Derived.KernelRfl
set_option maxHeartbeats 4000000
set_option linter.unusedVariables false
set_option linter.unusedSimpArgs false
namespace Ev
open Go Go.Proofs
set_option maxRecDepth 20000
def inF (s all : List UInt8) : Bool := (splitL all).any (· == s)
theorem refs_strs {Q : Bool → Nat → Bool} : ∀ (l : List (List UInt8)), refss Q (l.map .str) = true
  | [] => rfl
  | x :: l => by simp only [List.map_cons, refss, AV.refs, refs_strs l, Bool.and_self]
theorem in_call (s all : List UInt8) (hs : all.length < 2 ^ 30) (hl : (splitL all).length < 2 ^ 40) (L G : Hp) : callA (cfg Try.prog ann) 72 [.str s, .str all] L G = some (.val (.bool (inF s all)), L, G) := by
  refine call_pure rfl rfl rfl rfl (G' := []) ?_
  show ev Try.prog ann _ [.str s, .str all] [] = _
  rw [fun_some Try.func72 rfl rfl]
  have hc := fun L G => split_call all hs L G
  unfold inF
  generalize splitL all = l at hc hl
  simp only [go_sem, Nat.reduceEqDiff, hc]
  erw [loop_res (σ := Nat) (fun i => [(0, .str s), (5, .sl (l.map .str) .no), (6, .int .i64 i)]) (fun _ => []) (fun _ => []) (fun i => i ≤ l.length) (fun i => l.length - i)
    (fun i => if (l.drop i).any (· == s) = true then some (.ret, [(4, .bool true)], [], []) else some (.exit 0, [], [], [])) ?_ 0 (Nat.zero_le _)]
  · simp only [List.drop_zero]
    cases l.any (· == s) <;> simp only [go_sem, ↓reduceIte, Nat.reduceEqDiff]
  · intro i hi
    by_cases h : i < l.length
    · obtain ⟨x, hx⟩ : ∃ x, l[i]? = some x := ⟨_, List.getElem?_eq_getElem h⟩
      have hx' : (l.map AV.str)[i]? = some (.str x) := by rw [List.getElem?_map, hx]; rfl
      have hw : IntKind.i64.wrap ((i : Int) + 1) = ((i + 1 : Nat) : Int) := by rw [wrap_in] <;> omega
      have hdr : l.drop i = x :: l.drop (i + 1) := by
        obtain ⟨h1, rfl⟩ := List.getElem?_eq_some_iff.1 hx
        rw [List.drop_eq_getElem_cons h1]
      cases hxs : x == s with
      | true => refine ⟨_, by simp only [go_sem, Nat.reduceEqDiff, h, hx', hxs] <;> rfl, .inr (by simp [hdr, hxs])⟩
      | false => refine ⟨_, by simp only [go_sem, Nat.reduceEqDiff, h, hx', hxs, hw] <;> rfl, .inl ⟨i + 1, by omega, by omega, by simp [hdr, hxs], rfl⟩⟩
    · have hdr : l.drop i = [] := List.drop_eq_nil_of_le (by omega)
      refine ⟨_, by simp only [go_sem, Nat.reduceEqDiff, h] <;> rfl, .inr (by simp [hdr])⟩
/-- what a function is: fewest, most arguments; lazy; pure -/
abbrev Inf := Int × Int × Bool × Bool
def infA (x : Inf) : AV := .agg [.int .i64 x.1, .int .i64 x.2.1, .bool x.2.2.1, .bool x.2.2.2]

/-- the document's table -/
def findF (s : List UInt8) : Inf × Bool :=
  if (s == []) = true then ((0, 0, false, false), false) else
  if inF s [115, 116, 114, 105, 112, 32, 115, 111, 114, 116, 32, 119, 111, 114, 100, 115, 32, 102, 105, 114, 115, 116, 119, 111, 114, 100, 32, 108, 97, 115, 116, 119, 111, 114, 100, 32, 100, 105, 114, 32, 110, 111, 116, 100, 105, 114, 32, 115, 117, 102, 102, 105, 120, 32, 98, 97, 115, 101, 110, 97, 109, 101, 32, 97, 98, 115, 112, 97, 116, 104, 32, 119, 105, 108, 100, 99, 97, 114, 100] = true then ((1, 1, false, true), true) else
  if inF s [102, 105, 110, 100, 115, 116, 114, 105, 110, 103, 32, 102, 105, 108, 116, 101, 114, 32, 102, 105, 108, 116, 101, 114, 45, 111, 117, 116, 32, 119, 111, 114, 100, 32, 97, 100, 100, 115, 117, 102, 102, 105, 120, 32, 97, 100, 100, 112, 114, 101, 102, 105, 120, 32, 106, 111, 105, 110] = true then ((2, 2, false, true), true) else
  if inF s [115, 117, 98, 115, 116, 32, 112, 97, 116, 115, 117, 98, 115, 116, 32, 119, 111, 114, 100, 108, 105, 115, 116] = true then ((3, 3, false, true), true) else
  if (s == [105, 102]) = true then ((2, 3, true, false), true) else
  if inF s [111, 114, 32, 97, 110, 100] = true then ((1, 0, true, false), true) else
  if (s == [105, 110, 116, 99, 109, 112]) = true then ((2, 5, true, false), true) else
  if inF s [102, 111, 114, 101, 97, 99, 104, 32, 108, 101, 116] = true then ((3, 3, true, false), true) else
  if (s == [99, 97, 108, 108]) = true then ((1, 0, false, false), true) else
  if inF s [101, 118, 97, 108, 32, 118, 97, 108, 117, 101, 32, 111, 114, 105, 103, 105, 110, 32, 102, 108, 97, 118, 111, 114, 32, 101, 114, 114, 111, 114, 32, 119, 97, 114, 110, 105, 110, 103, 32, 105, 110, 102, 111] = true then ((1, 1, false, false), true) else
  ((0, 0, false, false), false)
theorem refFind_call (s : List UInt8) (L G : Hp) : callA (cfg Try.prog ann) 55 [.str s] L G = some (.val (.tup [infA (findF s).1, .bool (findF s).2]), L, G) := by
  suffices h : ∃ G', ev Try.prog ann 55 [.str s] [] = some (.val (.tup [infA (findF s).1, .bool (findF s).2]), G') by
    obtain ⟨G', h⟩ := h
    exact call_pure rfl rfl rfl rfl h
  rw [fun_some Try.func55 rfl rfl]
  unfold findF infA
  have c1 := fun L G => in_call s [115, 116, 114, 105, 112, 32, 115, 111, 114, 116, 32, 119, 111, 114, 100, 115, 32, 102, 105, 114, 115, 116, 119, 111, 114, 100, 32, 108, 97, 115, 116, 119, 111, 114, 100, 32, 100, 105, 114, 32, 110, 111, 116, 100, 105, 114, 32, 115, 117, 102, 102, 105, 120, 32, 98, 97, 115, 101, 110, 97, 109, 101, 32, 97, 98, 115, 112, 97, 116, 104, 32, 119, 105, 108, 100, 99, 97, 114, 100] (by decide) (by decide) L G
  have c2 := fun L G => in_call s [102, 105, 110, 100, 115, 116, 114, 105, 110, 103, 32, 102, 105, 108, 116, 101, 114, 32, 102, 105, 108, 116, 101, 114, 45, 111, 117, 116, 32, 119, 111, 114, 100, 32, 97, 100, 100, 115, 117, 102, 102, 105, 120, 32, 97, 100, 100, 112, 114, 101, 102, 105, 120, 32, 106, 111, 105, 110] (by decide) (by decide) L G
  have c3 := fun L G => in_call s [115, 117, 98, 115, 116, 32, 112, 97, 116, 115, 117, 98, 115, 116, 32, 119, 111, 114, 100, 108, 105, 115, 116] (by decide) (by decide) L G
  have c5 := fun L G => in_call s [111, 114, 32, 97, 110, 100] (by decide) (by decide) L G
  have c7 := fun L G => in_call s [102, 111, 114, 101, 97, 99, 104, 32, 108, 101, 116] (by decide) (by decide) L G
  have c9 := fun L G => in_call s [101, 118, 97, 108, 32, 118, 97, 108, 117, 101, 32, 111, 114, 105, 103, 105, 110, 32, 102, 108, 97, 118, 111, 114, 32, 101, 114, 114, 111, 114, 32, 119, 97, 114, 110, 105, 110, 103, 32, 105, 110, 102, 111] (by decide) (by decide) L G
  cases h0 : (s == []) with
  | true => exact ⟨_, by simp only [go_sem, ↓reduceIte, Nat.reduceEqDiff, Nat.reduceAdd, Nat.reduceLeDiff, List.append_eq, h0] <;> rfl⟩
  | false =>
  cases h1 : inF s [115, 116, 114, 105, 112, 32, 115, 111, 114, 116, 32, 119, 111, 114, 100, 115, 32, 102, 105, 114, 115, 116, 119, 111, 114, 100, 32, 108, 97, 115, 116, 119, 111, 114, 100, 32, 100, 105, 114, 32, 110, 111, 116, 100, 105, 114, 32, 115, 117, 102, 102, 105, 120, 32, 98, 97, 115, 101, 110, 97, 109, 101, 32, 97, 98, 115, 112, 97, 116, 104, 32, 119, 105, 108, 100, 99, 97, 114, 100] with
  | true => exact ⟨_, by simp only [go_sem, ↓reduceIte, Nat.reduceEqDiff, Nat.reduceAdd, Nat.reduceLeDiff, List.append_eq, c1, h0, h1] <;> rfl⟩
  | false =>
  cases h2 : inF s [102, 105, 110, 100, 115, 116, 114, 105, 110, 103, 32, 102, 105, 108, 116, 101, 114, 32, 102, 105, 108, 116, 101, 114, 45, 111, 117, 116, 32, 119, 111, 114, 100, 32, 97, 100, 100, 115, 117, 102, 102, 105, 120, 32, 97, 100, 100, 112, 114, 101, 102, 105, 120, 32, 106, 111, 105, 110] with
  | true => exact ⟨_, by simp only [go_sem, ↓reduceIte, Nat.reduceEqDiff, Nat.reduceAdd, Nat.reduceLeDiff, List.append_eq, c1, c2, h0, h1, h2] <;> rfl⟩
  | false =>
  cases h3 : inF s [115, 117, 98, 115, 116, 32, 112, 97, 116, 115, 117, 98, 115, 116, 32, 119, 111, 114, 100, 108, 105, 115, 116] with
  | true => exact ⟨_, by simp only [go_sem, ↓reduceIte, Nat.reduceEqDiff, Nat.reduceAdd, Nat.reduceLeDiff, List.append_eq, c1, c2, c3, h0, h1, h2, h3] <;> rfl⟩
  | false =>
  cases h4 : (s == [105, 102]) with
  | true => exact ⟨_, by simp only [go_sem, ↓reduceIte, Nat.reduceEqDiff, Nat.reduceAdd, Nat.reduceLeDiff, List.append_eq, c1, c2, c3, h0, h1, h2, h3, h4] <;> rfl⟩
  | false =>
  cases h5 : inF s [111, 114, 32, 97, 110, 100] with
  | true => exact ⟨_, by simp only [go_sem, ↓reduceIte, Nat.reduceEqDiff, Nat.reduceAdd, Nat.reduceLeDiff, List.append_eq, c1, c2, c3, c5, h0, h1, h2, h3, h4, h5] <;> rfl⟩
  | false =>
  cases h6 : (s == [105, 110, 116, 99, 109, 112]) with
  | true => exact ⟨_, by simp only [go_sem, ↓reduceIte, Nat.reduceEqDiff, Nat.reduceAdd, Nat.reduceLeDiff, List.append_eq, c1, c2, c3, c5, h0, h1, h2, h3, h4, h5, h6] <;> rfl⟩
  | false =>
  cases h7 : inF s [102, 111, 114, 101, 97, 99, 104, 32, 108, 101, 116] with
  | true => exact ⟨_, by simp only [go_sem, ↓reduceIte, Nat.reduceEqDiff, Nat.reduceAdd, Nat.reduceLeDiff, List.append_eq, c1, c2, c3, c5, c7, h0, h1, h2, h3, h4, h5, h6, h7] <;> rfl⟩
  | false =>
  cases h8 : (s == [99, 97, 108, 108]) with
  | true => exact ⟨_, by simp only [go_sem, ↓reduceIte, Nat.reduceEqDiff, Nat.reduceAdd, Nat.reduceLeDiff, List.append_eq, c1, c2, c3, c5, c7, h0, h1, h2, h3, h4, h5, h6, h7, h8] <;> rfl⟩
  | false =>
  cases h9 : inF s [101, 118, 97, 108, 32, 118, 97, 108, 117, 101, 32, 111, 114, 105, 103, 105, 110, 32, 102, 108, 97, 118, 111, 114, 32, 101, 114, 114, 111, 114, 32, 119, 97, 114, 110, 105, 110, 103, 32, 105, 110, 102, 111] with
  | true => exact ⟨_, by simp only [go_sem, ↓reduceIte, Nat.reduceEqDiff, Nat.reduceAdd, Nat.reduceLeDiff, List.append_eq, c1, c2, c3, c5, c7, c9, h0, h1, h2, h3, h4, h5, h6, h7, h8, h9] <;> rfl⟩
  | false =>
  exact ⟨_, by simp only [go_sem, ↓reduceIte, Nat.reduceEqDiff, Nat.reduceAdd, Nat.reduceLeDiff, List.append_eq, c1, c2, c3, c5, c7, c9, h0, h1, h2, h3, h4, h5, h6, h7, h8, h9] <;> rfl⟩
/-- the program's table -/
def tableT : List (List UInt8 × Inf) := [([115, 116, 114, 105, 112], (1, 1, false, true)), ([115, 111, 114, 116], (1, 1, false, true)), ([119, 111, 114, 100, 115], (1, 1, false, true)), ([102, 105, 114, 115, 116, 119, 111, 114, 100], (1, 1, false, true)), ([108, 97, 115, 116, 119, 111, 114, 100], (1, 1, false, true)), ([100, 105, 114], (1, 1, false, true)), ([110, 111, 116, 100, 105, 114], (1, 1, false, true)), ([115, 117, 102, 102, 105, 120], (1, 1, false, true)), ([98, 97, 115, 101, 110, 97, 109, 101], (1, 1, false, true)), ([97, 98, 115, 112, 97, 116, 104], (1, 1, false, true)), ([119, 105, 108, 100, 99, 97, 114, 100], (1, 1, false, true)), ([102, 105, 110, 100, 115, 116, 114, 105, 110, 103], (2, 2, false, true)), ([102, 105, 108, 116, 101, 114], (2, 2, false, true)), ([102, 105, 108, 116, 101, 114, 45, 111, 117, 116], (2, 2, false, true)), ([119, 111, 114, 100], (2, 2, false, true)), ([97, 100, 100, 115, 117, 102, 102, 105, 120], (2, 2, false, true)), ([97, 100, 100, 112, 114, 101, 102, 105, 120], (2, 2, false, true)), ([106, 111, 105, 110], (2, 2, false, true)), ([115, 117, 98, 115, 116], (3, 3, false, true)), ([112, 97, 116, 115, 117, 98, 115, 116], (3, 3, false, true)), ([119, 111, 114, 100, 108, 105, 115, 116], (3, 3, false, true)), ([105, 102], (2, 3, true, false)), ([111, 114], (1, 0, true, false)), ([97, 110, 100], (1, 0, true, false)), ([105, 110, 116, 99, 109, 112], (2, 5, true, false)), ([102, 111, 114, 101, 97, 99, 104], (3, 3, true, false)), ([108, 101, 116], (3, 3, true, false)), ([99, 97, 108, 108], (1, 0, false, false)), ([101, 118, 97, 108], (1, 1, false, false)), ([118, 97, 108, 117, 101], (1, 1, false, false)), ([111, 114, 105, 103, 105, 110], (1, 1, false, false)), ([102, 108, 97, 118, 111, 114], (1, 1, false, false)), ([101, 114, 114, 111, 114], (1, 1, false, false)), ([119, 97, 114, 110, 105, 110, 103], (1, 1, false, false)), ([105, 110, 102, 111], (1, 1, false, false))]
def lookT {α : Type} : List (List UInt8 × α) → List UInt8 → Option α
  | [], _ => none
  | (k, v) :: l, s => if (s == k) = true then some v else lookT l s
theorem findA_look {α : Type} (f : α → AV) (s : List UInt8) : ∀ (l : List (List UInt8 × α)) (i : Nat), ∃ r, findA (.str s) (l.map fun x => (.str x.1, f x.2)) i = some r ∧ r.map (·.2) = (lookT l s).map f
  | [], i => ⟨none, rfl, rfl⟩
  | (k, v) :: l, i => by
    simp only [List.map_cons, findA, keyEq, lookT]
    cases h : s == k with
    | true => exact ⟨some (i, f v), rfl, rfl⟩
    | false =>
      obtain ⟨r, h1, h2⟩ := findA_look f s l (i + 1)
      exact ⟨r, h1, h2⟩
theorem all_call (L : Hp) : callA (cfg Try.prog ann) 63 [] L [] = some (.val (.mp false 0), L, [.map (tableT.map fun x => (.str x.1, infA x.2))]) :=
  call_sees rfl rfl rfl rfl (ev_iff.2 ⟨1, by kernel_rfl⟩)
def tabF (s : List UInt8) : Inf × Bool := match lookT tableT s with | some x => (x, true) | none => ((0, 0, false, false), false)
theorem tabFind_call (s : List UInt8) (L G : Hp) : callA (cfg Try.prog ann) 42 [.str s] L G = some (.val (.tup [infA (tabF s).1, .bool (tabF s).2]), L, G) := by
  suffices h : ∃ G', ev Try.prog ann 42 [.str s] [] = some (.val (.tup [infA (tabF s).1, .bool (tabF s).2]), G') by
    obtain ⟨G', h⟩ := h
    exact call_pure rfl rfl rfl rfl h
  rw [fun_some Try.func42 rfl rfl]
  obtain ⟨r, h1, h2⟩ := findA_look infA s tableT 0
  have hc := fun L => all_call L
  unfold tabF
  generalize tableT.map (fun x => (AV.str x.1, infA x.2)) = tb at h1 hc
  have hk : keyT Try.prog 9 (.str s) = true := by unfold keyT; rw [Try.underlying9]
  cases hl : lookT tableT s with
  | none =>
    rw [hl] at h2
    have hr : r = none := by cases r <;> simp_all
    subst hr
    refine ⟨_, by simp only [go_sem, ↓reduceIte, Nat.reduceEqDiff, Nat.reduceAdd, Nat.reduceLeDiff, hc, lookupA, mapAt, hk, h1, infA] <;> rfl⟩
  | some x =>
    rw [hl] at h2
    obtain ⟨i, rfl⟩ : ∃ i, r = some (i, infA x) := by
      rcases r with _ | ⟨i, v⟩
      · cases h2
      · simp only [Option.map_some, Option.some.injEq] at h2; exact ⟨i, by rw [h2]⟩
    simp only [infA] at h1
    refine ⟨_, by simp only [go_sem, ↓reduceIte, Nat.reduceEqDiff, Nat.reduceAdd, Nat.reduceLeDiff, hc, lookupA, mapAt, hk, h1, infA] <;> rfl⟩
theorem lookT_none {α : Type} {s : List UInt8} : ∀ {l : List (List UInt8 × α)}, s ∉ l.map (·.1) → lookT l s = none
  | [], _ => rfl
  | (k, v) :: l, h => by
    simp only [List.map_cons, List.mem_cons, not_or] at h
    have : (s == k) = false := by simpa using h.1
    simp only [lookT, this, Bool.false_eq_true, if_false]
    exact lookT_none h.2
theorem inF_false {s all : List UInt8} (h : s ∉ tableT.map (·.1)) (hall : ∀ w ∈ splitL all, w ∈ tableT.map (·.1)) : inF s all = false := by
  unfold inF
  rw [List.any_eq_false]
  intro w hw e
  have : w = s := by simpa using e
  subst this
  exact h (hall w hw)
/-- both say the same -/
theorem find_tab (s : List UInt8) : findF s = tabF s := by
  by_cases h : s ∈ tableT.map (·.1)
  · have : ∀ s ∈ tableT.map (·.1), findF s = tabF s := by decide +kernel
    exact this s h
  · unfold findF tabF
    rw [lookT_none h]
    rw [inF_false (all := [115, 116, 114, 105, 112, 32, 115, 111, 114, 116, 32, 119, 111, 114, 100, 115, 32, 102, 105, 114, 115, 116, 119, 111, 114, 100, 32, 108, 97, 115, 116, 119, 111, 114, 100, 32, 100, 105, 114, 32, 110, 111, 116, 100, 105, 114, 32, 115, 117, 102, 102, 105, 120, 32, 98, 97, 115, 101, 110, 97, 109, 101, 32, 97, 98, 115, 112, 97, 116, 104, 32, 119, 105, 108, 100, 99, 97, 114, 100]) h (by decide +kernel)]
    rw [inF_false (all := [102, 105, 110, 100, 115, 116, 114, 105, 110, 103, 32, 102, 105, 108, 116, 101, 114, 32, 102, 105, 108, 116, 101, 114, 45, 111, 117, 116, 32, 119, 111, 114, 100, 32, 97, 100, 100, 115, 117, 102, 102, 105, 120, 32, 97, 100, 100, 112, 114, 101, 102, 105, 120, 32, 106, 111, 105, 110]) h (by decide +kernel)]
    rw [inF_false (all := [115, 117, 98, 115, 116, 32, 112, 97, 116, 115, 117, 98, 115, 116, 32, 119, 111, 114, 100, 108, 105, 115, 116]) h (by decide +kernel)]
    have q4 : (s == [105, 102]) = false := by simp only [beq_eq_false_iff_ne, ne_eq]; intro e; subst e; exact h (by decide +kernel)
    rw [inF_false (all := [111, 114, 32, 97, 110, 100]) h (by decide +kernel)]
    have q6 : (s == [105, 110, 116, 99, 109, 112]) = false := by simp only [beq_eq_false_iff_ne, ne_eq]; intro e; subst e; exact h (by decide +kernel)
    rw [inF_false (all := [102, 111, 114, 101, 97, 99, 104, 32, 108, 101, 116]) h (by decide +kernel)]
    have q8 : (s == [99, 97, 108, 108]) = false := by simp only [beq_eq_false_iff_ne, ne_eq]; intro e; subst e; exact h (by decide +kernel)
    rw [inF_false (all := [101, 118, 97, 108, 32, 118, 97, 108, 117, 101, 32, 111, 114, 105, 103, 105, 110, 32, 102, 108, 97, 118, 111, 114, 32, 101, 114, 114, 111, 114, 32, 119, 97, 114, 110, 105, 110, 103, 32, 105, 110, 102, 111]) h (by decide +kernel)]
    simp only [q4, q6, q8, Bool.false_eq_true, if_false, ite_self]
end Ev
