/- slices.Sort, slices.Compact: what is said of them by contract is what the evaluator says. -/
import Derived.Test.YtecflllnnbiheaaEvO
import Derived.Test.YtecflllnnbiheaaEv14
import Derived.Sort.EncStr
import Derived.Sort.Grow
import Derived.Lib.SlicesCompact
set_option maxHeartbeats 4000000
set_option linter.unusedVariables false
set_option linter.unusedSimpArgs false
namespace Ev
open Go Go.Sort
/-! ### texts in order -/
theorem bytesLt_iff : ∀ (a b : List UInt8), bytesLt a b = true ↔ a < b
  | [], [] => by simp [bytesLt]
  | [], b :: y => by simp [bytesLt]
  | a :: x, [] => by simp [bytesLt]
  | a :: x, b :: y => by
    rw [bytesLt, List.cons_lt_cons_iff, ← bytesLt_iff x y]
    simp
theorem blt_irrefl : ∀ a : List UInt8, bytesLt a a = false
  | [] => rfl
  | a :: x => by simp [bytesLt, blt_irrefl x]
theorem blt_trans : ∀ {a b c : List UInt8}, bytesLt a b = true → bytesLt b c = true → bytesLt a c = true
  | [], [], _, h, _ => by cases h
  | _ :: _, [], _, h, _ => by cases h
  | _, _ :: _, [], _, k => by cases k
  | [], b :: y, c :: z, _, _ => rfl
  | a :: x, b :: y, c :: z, h, k => by
    simp only [bytesLt, Bool.or_eq_true, decide_eq_true_eq, Bool.and_eq_true, beq_iff_eq] at h k ⊢
    rcases h with h | ⟨rfl, h⟩ <;> rcases k with k | ⟨rfl, k⟩
    · exact .inl (UInt8.lt_trans h k)
    · exact .inl h
    · exact .inl k
    · exact .inr ⟨rfl, blt_trans h k⟩
theorem blt_tri : ∀ {a b : List UInt8}, bytesLt a b = false → bytesLt b a = false → a = b
  | [], [], _, _ => rfl
  | [], _ :: _, h, _ => by cases h
  | _ :: _, [], _, k => by cases k
  | a :: x, b :: y, h, k => by
    simp only [bytesLt, Bool.or_eq_false_iff, decide_eq_false_iff_not, Bool.and_eq_false_iff, beq_eq_false_iff_ne, ne_eq] at h k
    have e : a = b := by
      apply UInt8.toNat_inj.1
      have h1 := h.1
      have k1 := k.1
      rw [UInt8.lt_iff_toNat_lt] at h1 k1
      omega
    subst e
    rw [blt_tri (h.2.resolve_left (fun n => n rfl)) (k.2.resolve_left (fun n => n rfl))]
def SortedS (l : List (List UInt8)) : Prop := l.Pairwise fun x y => bytesLt y x = false
theorem insS_perm (x : List UInt8) : ∀ l, (insS x l).Perm (x :: l)
  | [] => .refl _
  | y :: l => by
    rw [insS]
    split
    · exact ((insS_perm x l).cons y).trans (.swap x y l)
    · exact .refl _
theorem sortS_perm : ∀ l, (sortS l).Perm l
  | [] => .refl _
  | x :: l => (insS_perm x _).trans ((sortS_perm l).cons x)
theorem insS_sorted {x : List UInt8} : ∀ {l}, SortedS l → SortedS (insS x l)
  | [], _ => by simp [insS, SortedS]
  | y :: l, h => by
    rw [insS]
    obtain ⟨h1, h2⟩ := List.pairwise_cons.1 h
    by_cases hc : bytesLt y x = true
    · rw [if_pos hc]
      refine List.pairwise_cons.2 ⟨fun z hz => ?_, insS_sorted h2⟩
      rcases List.mem_cons.1 ((insS_perm x l).mem_iff.1 hz) with rfl | hz
      · cases hh : bytesLt z y with
        | false => rfl
        | true => have := blt_trans hc hh; rw [blt_irrefl] at this; cases this
      · exact h1 z hz
    · rw [if_neg hc]
      have hc' : bytesLt y x = false := by simpa using hc
      refine List.pairwise_cons.2 ⟨fun z hz => ?_, h⟩
      rcases List.mem_cons.1 hz with rfl | hz
      · exact hc'
      · cases hh : bytesLt z x with
        | false => rfl
        | true =>
          have hy := h1 z hz
          cases hxy : bytesLt x y with
          | true => have := blt_trans hh hxy; rw [this] at hy; cases hy
          | false => rw [blt_tri hxy hc'] at hh; rw [hh] at hy; cases hy
theorem sortS_sorted : ∀ l, SortedS (sortS l)
  | [] => List.Pairwise.nil
  | x :: l => insS_sorted (sortS_sorted l)
theorem sorted_unique : ∀ {l m : List (List UInt8)}, SortedS l → SortedS m → l.Perm m → l = m
  | [], m, _, _, p => (List.nil_perm.1 p).symm
  | x :: l, m, hl, hm, p => by
    cases m with
    | nil => exact absurd (List.perm_nil.1 p) (by simp)
    | cons y m =>
      obtain ⟨h1, h2⟩ := List.pairwise_cons.1 hl
      obtain ⟨k1, k2⟩ := List.pairwise_cons.1 hm
      have e : x = y := by
        rcases List.mem_cons.1 (p.mem_iff.1 List.mem_cons_self) with h | h
        · exact h
        · rcases List.mem_cons.1 (p.mem_iff.2 (List.mem_cons_self (a := y) (l := m))) with h' | h'
          · exact h'.symm
          · exact blt_tri (k1 x h) (h1 y h') |>.symm ▸ rfl
      subst e
      rw [sorted_unique h2 k2 ((List.perm_cons x).1 p)]
theorem sortS_merge (l : List (List UInt8)) : l.mergeSort (fun x y => decide (x ≤ y)) = sortS l := by
  have hle : ∀ x y : List UInt8, decide (x ≤ y) = !bytesLt y x := fun x y => by
    have := bytesLt_iff y x
    cases h : bytesLt y x with
    | true => rw [h] at this; simp [List.not_le.2 (this.1 rfl)]
    | false => rw [h] at this; simp; exact List.not_lt.1 fun hh => by simpa using this.2 hh
  refine sorted_unique ?_ (sortS_sorted l) ((List.mergeSort_perm _ _).trans (sortS_perm l).symm)
  have := List.pairwise_mergeSort (le := fun x y : List UInt8 => decide (x ≤ y)) (fun a b c h k => by
    rw [hle, Bool.not_eq_true'] at h k ⊢
    cases hh : bytesLt c a with
    | false => rfl
    | true =>
      cases hab : bytesLt a b with
      | true => have := blt_trans hh hab; rw [this] at k; cases k
      | false => rw [blt_tri hab h] at hh; rw [hh] at k; cases k) (fun a b => by
    rw [hle, hle]
    cases h1 : bytesLt b a with
    | false => rfl
    | true => cases h2 : bytesLt a b with
      | false => rfl
      | true => have := blt_trans h1 h2; rw [blt_irrefl] at this; cases this) l
  refine this.imp fun {x y} h => ?_
  rw [hle] at h
  simpa using h
theorem compS_snoc (x y : List UInt8) : ∀ l, compS (l ++ [y] ++ [x]) = compS (l ++ [y]) ++ if x ≠ y then [x] else []
  | [] => by
    by_cases h : x = y
    · subst h; simp [compS]
    · have h' : ¬ y = x := fun e => h e.symm
      simp [compS, h, h']
  | [z] => by
    by_cases h : x = y <;> by_cases k : z = y
    · subst h; subst k; simp [compS]
    · subst h; simp [compS, k]
    · subst k; have h' : ¬ z = x := fun e => h e.symm; simp [compS, h, h']
    · have h' : ¬ y = x := fun e => h e.symm; simp [compS, h, h', k]
  | z :: u :: l => by
    have ih := compS_snoc x y (u :: l)
    simp only [List.cons_append] at ih ⊢
    by_cases k : z = u
    · simp only [compS, if_pos k]; exact ih
    · simp only [compS, if_neg k, List.cons_append]; rw [ih]
theorem compact_eq : ∀ l : List (List UInt8), Lib.compact l = compS l := fun l => by
  have key : ∀ n, n ≤ l.length → Lib.compactUpTo l.toArray n = compS (l.take n) := fun n => by
    induction n with
    | zero => intro _; rfl
    | succ n ih =>
      intro hn
      rw [Lib.compactUpTo_succ, ih (by omega), List.take_succ_eq_append_getElem (by omega)]
      have e1 : l.toArray[n]! = l[n] := by rw [getElem!_pos _ n (by simpa using (by omega : n < l.length))]; rfl
      rw [e1]
      cases n with
      | zero => simp [Lib.keeps, compS]
      | succ m =>
        have e2 : l.toArray[m]! = l[m] := by rw [getElem!_pos _ m (by simpa using (by omega : m < l.length))]; rfl
        rw [List.take_succ_eq_append_getElem (show m < l.length by omega), compS_snoc]
        congr 1
        have hk : Lib.keeps l.toArray (m + 1) = decide (l[m + 1] ≠ l[m]) := by
          unfold Lib.keeps
          rw [e1, show m + 1 - 1 = m from rfl, e2]
          simp
        rw [hk]
        by_cases h : l[m + 1] = l[m] <;> simp [h]
  have := key l.length (Nat.le_refl _)
  rw [List.take_length] at this
  exact this
theorem insS_len (x : List UInt8) (l) : (insS x l).length = l.length + 1 := (insS_perm x l).length_eq
theorem sortS_len (l) : (sortS l).length = l.length := (sortS_perm l).length_eq
theorem compS_len : ∀ l, (compS l).length ≤ l.length
  | [] => Nat.le_refl _
  | [x] => Nat.le_refl _
  | x :: y :: l => by
    have := compS_len (y :: l)
    rw [compS]
    split
    · simp only [List.length_cons] at this ⊢; omega
    · simp only [List.length_cons] at this ⊢; omega
end Ev
