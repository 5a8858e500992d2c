/- Codes of nodes: what both ways come to. -/
import Derived.Test.YtecflllnnbiheaaT18
import Derived.Test.YtecflllnnbiheaaR12
set_option maxHeartbeats 4000000
set_option linter.unusedVariables false
set_option linter.unusedSimpArgs false
namespace Ev
open Go Go.Proofs
set_option maxRecDepth 10000
def lazyB (s : List UInt8) : Bool := (findF s).1.2.2.1
def lastOp (k : Int) (s : List UInt8) (n : Nat) : OpT := if k = 2 then ⟨2, 0, [], []⟩ else if k = 3 then ⟨3, 0, [], []⟩ else if k = 4 then ⟨5, n, s, []⟩ else ⟨4, n, [], []⟩
mutual
/-- a node's instructions, the blocks behind them -/
def comp : NodeT → CodeT → List OpT × CodeT
  | .mk k s l, B =>
    if k = 1 then ([⟨1, 0, s, []⟩], B)
    else if k = 4 ∧ lazyB s = true then ([⟨6, 0, s, (List.range l.length).map fun i => ((B.length + i : Nat) : Int)⟩], compL l B.length (B ++ List.replicate l.length []))
    else ((comps l B).1 ++ [lastOp k s l.length], (comps l B).2)
def comps : List NodeT → CodeT → List OpT × CodeT
  | [], B => ([], B)
  | n :: l, B => ((comp n B).1 ++ (comps l (comp n B).2).1, (comps l (comp n B).2).2)
/-- blocks of a lazy call, from a place on -/
def compL : List NodeT → Nat → CodeT → CodeT
  | [], _, B => B
  | n :: l, i, B => compL l (i + 1) ((comp n B).2.set i (comp n B).1)
end
/-- how many instructions the blocks have -/
def opsum : CodeT → Nat
  | [] => 0
  | b :: c => b.length + opsum c
theorem opsum_app : ∀ a b, opsum (a ++ b) = opsum a + opsum b
  | [], b => by simp [opsum]
  | x :: a, b => by rw [List.cons_append, opsum, opsum, opsum_app a b]; omega
theorem opsum_rep : ∀ n, opsum (List.replicate n []) = 0
  | 0 => rfl
  | n + 1 => by rw [List.replicate_succ, opsum, opsum_rep n]; rfl
theorem opsum_set : ∀ {B : CodeT} {i : Nat} (o : List OpT), B[i]? = some [] → opsum (B.set i o) = opsum B + o.length
  | [], i, o, h => by simp at h
  | b :: B, 0, o, h => by simp at h; subst h; simp [opsum]; omega
  | b :: B, i + 1, o, h => by
    have := opsum_set (B := B) (i := i) o (by simpa using h)
    rw [List.set_cons_succ, opsum, opsum, this]; omega
mutual
theorem comp_len : ∀ (n : NodeT) (B : CodeT), B.length ≤ (comp n B).2.length
  | .mk k s l, B => by
    rw [comp]
    split
    · exact Nat.le_refl _
    · split
      · have := compL_len l B.length (B ++ List.replicate l.length [])
        simp only [List.length_append, List.length_replicate] at this ⊢
        omega
      · exact comps_len l B
theorem comps_len : ∀ (l : List NodeT) (B : CodeT), B.length ≤ (comps l B).2.length
  | [], B => by rw [comps]; exact Nat.le_refl _
  | n :: l, B => by rw [comps]; exact Nat.le_trans (comp_len n B) (comps_len l _)
theorem compL_len : ∀ (l : List NodeT) (i : Nat) (B : CodeT), B.length ≤ (compL l i B).length
  | [], i, B => by rw [compL]; exact Nat.le_refl _
  | n :: l, i, B => by
    rw [compL]
    have h1 := comp_len n B
    have h2 := compL_len l (i + 1) ((comp n B).2.set i (comp n B).1)
    rw [List.length_set] at h2
    omega
end
mutual
/-- what is there stays -/
theorem comp_keep : ∀ (n : NodeT) (B : CodeT) (j : Nat), j < B.length → (comp n B).2[j]? = B[j]?
  | .mk k s l, B, j, h => by
    rw [comp]
    split
    · rfl
    · split
      · rw [compL_keep l B.length (B ++ List.replicate l.length []) j h (by simp; omega), List.getElem?_append_left h]
      · exact comps_keep l B j h
theorem comps_keep : ∀ (l : List NodeT) (B : CodeT) (j : Nat), j < B.length → (comps l B).2[j]? = B[j]?
  | [], B, j, h => by rw [comps]
  | n :: l, B, j, h => by rw [comps, comps_keep l _ j (Nat.lt_of_lt_of_le h (comp_len n B)), comp_keep n B j h]
theorem compL_keep : ∀ (l : List NodeT) (i : Nat) (B : CodeT) (j : Nat), j < i → j < B.length → (compL l i B)[j]? = B[j]?
  | [], i, B, j, _, _ => by rw [compL]
  | n :: l, i, B, j, h, hB => by
    rw [compL, compL_keep l (i + 1) _ j (by omega) (by rw [List.length_set]; exact Nat.lt_of_lt_of_le hB (comp_len n B)), List.getElem?_set_ne (by omega), comp_keep n B j hB]
end
/-- instructions put behind a block's -/
def appB (b : Nat) (o : List OpT) (B : CodeT) : CodeT := B.modify b (· ++ o)
theorem appB_len (b : Nat) (o : List OpT) (B : CodeT) : (appB b o B).length = B.length := by simp [appB]
theorem appB_app (b : Nat) (o p : List OpT) (B : CodeT) : appB b p (appB b o B) = appB b (o ++ p) B := by
  unfold appB
  rw [List.modify_modify_eq]
  congr 1
  funext x
  simp
theorem appB_get (b : Nat) (o : List OpT) (B : CodeT) (j : Nat) : (appB b o B)[j]? = if b = j then (B[j]?).map (· ++ o) else B[j]? := by
  unfold appB
  rw [List.getElem?_modify]
  split
  · rfl
  · simp
theorem appB_more (b : Nat) (o : List OpT) (B C : CodeT) (h : b < B.length) : appB b o B ++ C = appB b o (B ++ C) := List.ext_getElem? fun j => by
  rw [appB_get, List.getElem?_append, List.getElem?_append, appB_len, appB_get]
  by_cases h1 : j < B.length
  · rw [if_pos h1, if_pos h1]
  · rw [if_neg h1, if_neg h1, if_neg (by omega)]
theorem appB_set (b i : Nat) (o p : List OpT) (B : CodeT) (h : b ≠ i) : (appB b o B).set i p = appB b o (B.set i p) := List.ext_getElem? fun j => by
  rw [appB_get, List.getElem?_set, List.getElem?_set, appB_len, appB_get]
  by_cases h1 : i = j
  · subst h1
    rw [if_pos rfl, if_pos rfl, if_neg h]
  · rw [if_neg h1, if_neg h1]
mutual
theorem comp_mod : ∀ (n : NodeT) (B : CodeT) (b : Nat) (o : List OpT), b < B.length → comp n (appB b o B) = ((comp n B).1, appB b o (comp n B).2)
  | .mk k s l, B, b, o, h => by
    rw [comp, comp, appB_len]
    split
    · rfl
    · split
      · rw [appB_more b o B _ h, compL_mod l B.length (B ++ List.replicate l.length []) b o h (by simp; omega)]
      · rw [comps_mod l B b o h]
theorem comps_mod : ∀ (l : List NodeT) (B : CodeT) (b : Nat) (o : List OpT), b < B.length → comps l (appB b o B) = ((comps l B).1, appB b o (comps l B).2)
  | [], B, b, o, h => by rw [comps, comps]
  | n :: l, B, b, o, h => by rw [comps, comps, comp_mod n B b o h, comps_mod l _ b o (Nat.lt_of_lt_of_le h (comp_len n B))]
theorem compL_mod : ∀ (l : List NodeT) (i : Nat) (B : CodeT) (b : Nat) (o : List OpT), b < i → b < B.length → compL l i (appB b o B) = appB b o (compL l i B)
  | [], i, B, b, o, h, hB => by rw [compL, compL]
  | n :: l, i, B, b, o, h, hB => by
    rw [compL, compL, comp_mod n B b o hB, appB_set b i o _ _ (by omega), compL_mod l (i + 1) _ b o (by omega) (by rw [List.length_set]; exact Nat.lt_of_lt_of_le hB (comp_len n B))]
end
mutual
theorem comp_sum : ∀ (n : NodeT) (B : CodeT), slen n < 2 ^ 40 → (comp n B).1.length + opsum (comp n B).2 = opsum B + tsz n
  | .mk k s l, B, hs => by
    rw [slen] at hs
    rw [comp, tsz]
    split
    · next h =>
      subst h
      cases l with
      | nil => simp only [tszs, List.length_cons, List.length_nil]; omega
      | cons x l => simp [badW, wf] at hs; omega
    · split
      · have := compL_sum l B.length (B ++ List.replicate l.length []) (by omega) (by simp) fun j h1 h2 => by rw [List.getElem?_append_right h1, List.getElem?_replicate, if_pos (by omega)]
        rw [this, opsum_app, opsum_rep]
        simp only [List.length_cons, List.length_nil]
        omega
      · have := comps_sum l B (by omega)
        simp only [List.length_append, List.length_cons, List.length_nil]
        omega
theorem comps_sum : ∀ (l : List NodeT) (B : CodeT), slens l < 2 ^ 40 → (comps l B).1.length + opsum (comps l B).2 = opsum B + tszs l
  | [], B, _ => by rw [comps, tszs]; simp
  | n :: l, B, hs => by
    rw [slens] at hs
    rw [comps, tszs]
    have h1 := comp_sum n B (by omega)
    have h2 := comps_sum l (comp n B).2 (by omega)
    simp only [List.length_append]
    omega
theorem compL_sum : ∀ (l : List NodeT) (i : Nat) (B : CodeT), slens l < 2 ^ 40 → i + l.length ≤ B.length → (∀ j, i ≤ j → j < i + l.length → B[j]? = some []) → opsum (compL l i B) = opsum B + tszs l
  | [], i, B, _, _, _ => by rw [compL, tszs]; rfl
  | n :: l, i, B, hs, hi, h => by
    rw [slens] at hs
    rw [compL, tszs]
    simp only [List.length_cons] at hi h
    have h1 := comp_sum n B (by omega)
    have hl := comp_len n B
    have h0 : (comp n B).2[i]? = some [] := by rw [comp_keep n B i (by omega)]; exact h i (by omega) (by omega)
    have h2 := compL_sum l (i + 1) ((comp n B).2.set i (comp n B).1) (by omega) (by rw [List.length_set]; omega) fun j h1 h2 => by
      rw [List.getElem?_set_ne (by omega), comp_keep n B j (by omega)]; exact h j (by omega) (by omega)
    rw [h2, opsum_set _ h0]
    omega
end
end Ev
