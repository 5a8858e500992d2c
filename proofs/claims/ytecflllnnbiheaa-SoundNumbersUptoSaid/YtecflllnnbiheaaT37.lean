/- What is compiled may be. -/
import Derived.Test.YtecflllnnbiheaaT36
import Derived.Test.YtecflllnnbiheaaT31
set_option maxHeartbeats 4000000
set_option linter.unusedVariables false
set_option linter.unusedSimpArgs false
namespace Ev
open Go Go.Proofs
set_option maxRecDepth 10000
/-- instructions that leave so many more -/
def Leaves (ops : List OpT) (b m : Int) (n : Nat) : Prop := ∀ (rest : List OpT) (p most : Int), 0 ≤ p → ∃ most', pileF (ops ++ rest) b m p most = pileF rest b m (p + n) most'
theorem leaves_app {x y : List OpT} {b m : Int} {i j : Nat} (hx : Leaves x b m i) (hy : Leaves y b m j) : Leaves (x ++ y) b m (i + j) := fun rest p most hp => by
  obtain ⟨m1, h1⟩ := hx (y ++ rest) p most hp
  obtain ⟨m2, h2⟩ := hy rest (p + i) m1 (by omega)
  refine ⟨m2, ?_⟩
  rw [List.append_assoc, h1, h2]
  congr 1
  omega
theorem leaves_op {ops : List OpT} {o : OpT} {b m : Int} {n : Nat} (h : Leaves ops b m n) (ht : takesF o b m = some (n : Int)) : Leaves (ops ++ [o]) b m 1 := fun rest p most hp => by
  obtain ⟨m1, h1⟩ := h (o :: rest) p most hp
  refine ⟨max m1 (p + n - n + 1), ?_⟩
  rw [List.append_assoc, List.singleton_append, h1, pileF, ht]
  simp only
  rw [if_neg (by omega)]
  congr 1
  omega
theorem leaves_nil {b m : Int} : Leaves [] b m 0 := fun rest p most _ => ⟨most, by simp⟩
theorem leaves_one {o : OpT} {b m : Int} (ht : takesF o b m = some 0) : Leaves [o] b m 1 := leaves_op (ops := []) leaves_nil ht
theorem leaves_some {ops : List OpT} {b m : Int} (h : Leaves ops b m 1) : ∃ d, pileF ops b m 0 0 = some d := by
  obtain ⟨m1, h1⟩ := h [] 0 0 (Int.le_refl _)
  rw [List.append_nil] at h1
  exact ⟨m1, by rw [h1, pileF]; rfl⟩
/-- a block that may be -/
def BlkOkAt (C : CodeT) (m : Int) (i : Nat) : Prop := ∃ b d, C[i]? = some b ∧ pileF b i m 0 0 = some d
theorem callOk_fits {s : List UInt8} {n : Nat} (h : callOk s n = true) : fitsF s n (lazyB s) = true := by
  unfold callOk at h
  unfold fitsF fitsI lazyB
  simp only [Bool.and_eq_true, Bool.or_eq_true, decide_eq_true_eq, beq_iff_eq] at h ⊢
  exact ⟨h.1, trivial, h.2.1, h.2.2⟩
theorem wf_of {k : Int} {s : List UInt8} {l : List NodeT} (h : badW k s l < 2 ^ 40) : wf k s l.length = true := by
  unfold badW at h
  split at h
  · assumption
  · omega
mutual
theorem comp_leaves : ∀ (n : NodeT) (B : CodeT) (b : Nat) (m : Int), slen n < 2 ^ 40 → b < B.length → ((comp n B).2.length : Int) ≤ m → Leaves (comp n B).1 b m 1
  | .mk k s l, B, b, m, hs, hb, hm => by
    rw [slen] at hs
    have hw := wf_of (k := k) (s := s) (l := l) (by omega)
    rw [comp] at hm ⊢
    by_cases h1 : k = 1
    · rw [if_pos h1]
      exact leaves_one (by simp [takesF])
    rw [if_neg h1] at hm ⊢
    by_cases h4 : k = 4 ∧ lazyB s = true
    · rw [if_pos h4] at hm ⊢
      obtain ⟨rfl, hz⟩ := h4
      have hc : callOk s l.length = true := by simpa [wf] using hw
      have hf := callOk_fits hc
      rw [hz] at hf
      have hlen := compL_len l B.length (B ++ List.replicate l.length [])
      simp only [List.length_append, List.length_replicate] at hlen
      refine leaves_one ?_
      have hall : ((List.range l.length).map fun i => ((B.length + i : Nat) : Int)).all (fun x => decide ((b : Int) < x) && decide (x < m)) = true := by
        rw [List.all_eq_true]
        intro x hx
        obtain ⟨i, hi, rfl⟩ := List.mem_map.1 hx
        have := List.mem_range.1 hi
        simp only at hm
        simp only [Bool.and_eq_true, decide_eq_true_eq]
        omega
      have hl : ((List.range l.length).map fun i => ((B.length + i : Nat) : Int)).length = l.length := by simp
      unfold takesF
      simp only
      rw [if_neg (by decide), if_neg (by decide), if_neg (by decide), if_neg (by decide), if_neg (by decide), if_pos trivial, if_pos ⟨trivial, hall, by rw [hl]; exact hf⟩]
    · rw [if_neg h4] at hm ⊢
      have hcs := comps_leaves l B b m (by omega) hb hm
      refine leaves_op hcs ?_
      unfold lastOp
      by_cases h2 : k = 2
      · subst h2
        have : l.length = 1 := by simpa [wf] using hw
        rw [if_pos rfl, this]
        simp [takesF]
      by_cases h3 : k = 3
      · subst h3
        have : l.length = 3 := by simpa [wf] using hw
        rw [if_neg (by decide), if_pos rfl, this]
        simp [takesF]
      by_cases h5 : k = 4
      · subst h5
        have hc : callOk s l.length = true := by simpa [wf] using hw
        have hf := callOk_fits hc
        have hz : lazyB s = false := by
          cases hz : lazyB s with
          | true => exact absurd ⟨rfl, hz⟩ h4
          | false => rfl
        rw [hz] at hf
        rw [if_neg (by decide), if_neg (by decide), if_pos rfl]
        simp [takesF, hf]
      · rw [if_neg h2, if_neg h3, if_neg h5]
        simp [takesF]
theorem comps_leaves : ∀ (l : List NodeT) (B : CodeT) (b : Nat) (m : Int), slens l < 2 ^ 40 → b < B.length → ((comps l B).2.length : Int) ≤ m → Leaves (comps l B).1 b m l.length
  | [], B, b, m, _, _, _ => by rw [comps]; exact leaves_nil
  | n :: l, B, b, m, hs, hb, hm => by
    rw [slens] at hs
    rw [comps] at hm ⊢
    have hl := comp_len n B
    have hl2 := comps_len l (comp n B).2
    have h1 := comp_leaves n B b m (by omega) hb (by simp only at hm; omega)
    have h2 := comps_leaves l (comp n B).2 b m (by omega) (by omega) hm
    have := leaves_app h1 h2
    rw [List.length_cons, Nat.add_comm]
    exact this
end
mutual
theorem comp_blks : ∀ (n : NodeT) (B : CodeT) (m : Int), slen n < 2 ^ 40 → 0 < B.length → ((comp n B).2.length : Int) ≤ m → ∀ i, B.length ≤ i → i < (comp n B).2.length → BlkOkAt (comp n B).2 m i
  | .mk k s l, B, m, hs, hB, hm, i, hi, hi2 => by
    rw [slen] at hs
    rw [comp] at hm hi2 ⊢
    by_cases h1 : k = 1
    · rw [if_pos h1] at hi2
      simp only at hi2
      omega
    rw [if_neg h1] at hm hi2 ⊢
    by_cases h4 : k = 4 ∧ lazyB s = true
    · rw [if_pos h4] at hm hi2 ⊢
      exact compL_blks l B.length (B ++ List.replicate l.length []) m (by omega) (by simp) hm i (by simp only [List.length_append, List.length_replicate]; omega) hi2
    · rw [if_neg h4] at hm hi2 ⊢
      exact comps_blks l B m (by omega) hB hm i hi hi2
theorem comps_blks : ∀ (l : List NodeT) (B : CodeT) (m : Int), slens l < 2 ^ 40 → 0 < B.length → ((comps l B).2.length : Int) ≤ m → ∀ i, B.length ≤ i → i < (comps l B).2.length → BlkOkAt (comps l B).2 m i
  | [], B, m, _, _, _, i, hi, hi2 => by rw [comps] at hi2; simp only at hi2; omega
  | n :: l, B, m, hs, hB, hm, i, hi, hi2 => by
    rw [slens] at hs
    rw [comps] at hm hi2 ⊢
    have hl := comp_len n B
    have hl2 := comps_len l (comp n B).2
    by_cases hin : i < (comp n B).2.length
    · obtain ⟨b, d, h1, h2⟩ := comp_blks n B m (by omega) hB (by simp only at hm; omega) i hi hin
      exact ⟨b, d, by rw [comps_keep l _ i hin]; exact h1, h2⟩
    · exact comps_blks l (comp n B).2 m (by omega) (by omega) hm i (by omega) hi2
theorem compL_blks : ∀ (l : List NodeT) (i0 : Nat) (B : CodeT) (m : Int), slens l < 2 ^ 40 → i0 + l.length ≤ B.length → ((compL l i0 B).length : Int) ≤ m → ∀ i, (i0 ≤ i ∧ i < i0 + l.length ∨ B.length ≤ i) → i < (compL l i0 B).length → BlkOkAt (compL l i0 B) m i
  | [], i0, B, m, _, _, _, i, hi, hi2 => by rw [compL] at hi2; simp only [List.length_nil] at hi; omega
  | n :: l, i0, B, m, hs, hB, hm, i, hi, hi2 => by
    rw [slens] at hs
    rw [compL] at hm hi2 ⊢
    simp only [List.length_cons] at hB hi
    have hl := comp_len n B
    have hl2 := compL_len l (i0 + 1) ((comp n B).2.set i0 (comp n B).1)
    rw [List.length_set] at hl2
    by_cases h0 : i = i0
    · subst h0
      obtain ⟨d, hd⟩ := leaves_some (comp_leaves n B i m (by omega) (by omega) (by omega))
      refine ⟨(comp n B).1, d, ?_, hd⟩
      rw [compL_keep l (i + 1) _ i (by omega) (by rw [List.length_set]; omega), List.getElem?_set, if_pos rfl, if_pos (by omega)]
    by_cases hnew : B.length ≤ i ∧ i < (comp n B).2.length
    · obtain ⟨b, d, h1, h2⟩ := comp_blks n B m (by omega) (by omega) (by omega) i hnew.1 hnew.2
      by_cases hlt : i < i0 + 1 + l.length
      · omega
      · have hkeep : (compL l (i0 + 1) ((comp n B).2.set i0 (comp n B).1))[i]? = ((comp n B).2.set i0 (comp n B).1)[i]? := compL_keep2 l (i0 + 1) _ i (by omega) (by rw [List.length_set]; omega)
        exact ⟨b, d, by rw [hkeep, List.getElem?_set_ne (by omega)]; exact h1, h2⟩
    · exact compL_blks l (i0 + 1) ((comp n B).2.set i0 (comp n B).1) m (by omega) (by rw [List.length_set]; omega) hm i (by rw [List.length_set]; omega) hi2
/-- behind the blocks that are set, what is there stays -/
theorem compL_keep2 : ∀ (l : List NodeT) (i0 : Nat) (B : CodeT) (j : Nat), i0 + l.length ≤ j → j < B.length → (compL l i0 B)[j]? = B[j]?
  | [], i0, B, j, _, _ => by rw [compL]
  | n :: l, i0, B, j, h, hB => by
    simp only [List.length_cons] at h
    rw [compL, compL_keep2 l (i0 + 1) _ j (by omega) (by rw [List.length_set]; exact Nat.lt_of_lt_of_le hB (comp_len n B)), List.getElem?_set_ne (by omega), comp_keep n B j hB]
end
theorem depthL_some {m : Int} : ∀ (r : List (List OpT)) (i : Nat) (most : Int), (∀ j b, r[j]? = some b → ∃ d, pileF b ((i + j : Nat) : Int) m 0 0 = some d) → ∃ d, depthL m r i most = some d
  | [], i, most, _ => ⟨most, by rw [depthL]⟩
  | l :: r, i, most, h => by
    obtain ⟨d, hd⟩ := h 0 l rfl
    rw [depthL]
    simp only [Nat.add_zero] at hd
    rw [hd]
    exact depthL_some r (i + 1) (max most d) fun j b hb => by
      have := h (j + 1) b (by simpa using hb)
      rw [show i + 1 + j = i + (j + 1) by omega]
      exact this
/-- what is compiled may be -/
theorem compile_sound (n : NodeT) (h1 : slen n ≤ 2 ^ 29) (h2 : tsz n ≤ 16384) : soundF (compile n) = true := by
  obtain ⟨k1, k2⟩ := compile_ok n h1 (by omega)
  have hl := comp_len n [[]]
  have hlen : (compile n).length = (comp n [[]]).2.length := by unfold compile; rw [List.length_set]
  simp only [List.length_cons, List.length_nil] at hl
  have hne : compile n ≠ [] := by intro e; rw [e] at hlen; simp only [List.length_nil] at hlen; omega
  have ho := opsF_sum (compile n) 0 (by omega)
  obtain ⟨d, hd⟩ := depthL_some (m := (compile n).length) (compile n) 0 0 fun j b hb => by
    rw [Nat.zero_add]
    unfold compile at hb
    rw [List.getElem?_set] at hb
    by_cases hj : 0 = j
    · subst hj
      rw [if_pos rfl, if_pos (by omega)] at hb
      cases hb
      exact leaves_some (comp_leaves n [[]] 0 _ (by omega) (by simp) (by rw [hlen]; exact Int.le_refl _))
    · rw [if_neg hj] at hb
      have hjl := (List.getElem?_eq_some_iff.1 hb).1
      obtain ⟨b', d, e1, e2⟩ := comp_blks n [[]] ((compile n).length) (by omega) (by simp) (by rw [hlen]; exact Int.le_refl _) j (by simp; omega) hjl
      rw [hb] at e1
      cases e1
      exact ⟨d, e2⟩
  unfold soundF depthF
  rw [if_neg (by
    rintro (h | h)
    · exact hne h
    · have hz : opsF (compile n) 0 = (opsum (compile n) : Int) := by simpa using ho
      rw [hz, k2] at h
      omega), hd]
  rfl
end Ev
