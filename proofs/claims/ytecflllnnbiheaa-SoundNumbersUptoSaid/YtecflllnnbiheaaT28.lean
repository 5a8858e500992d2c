/- Compile, the document's way: its state. -/
import Derived.Test.YtecflllnnbiheaaT27
set_option maxHeartbeats 4000000
set_option linter.unusedVariables false
set_option linter.unusedSimpArgs false
namespace Ev
open Go Go.Proofs
set_option maxRecDepth 10000
theorem opsum_le : ∀ {B : CodeT} {i : Nat} {b : List OpT}, B[i]? = some b → b.length ≤ opsum B
  | [], i, b, h => by simp at h
  | x :: B, 0, b, h => by simp at h; subst h; rw [opsum]; omega
  | x :: B, i + 1, b, h => by have := opsum_le (B := B) (i := i) (b := b) (by simpa using h); rw [opsum]; omega
theorem opsum_set_le : ∀ (B : CodeT) (i : Nat) (o : List OpT), opsum (B.set i o) ≤ opsum B + o.length
  | [], i, o => by simp [opsum]
  | b :: B, 0, o => by simp only [List.set_cons_zero, opsum]; omega
  | b :: B, i + 1, o => by have := opsum_set_le B i o; simp only [List.set_cons_succ, opsum]; omega
theorem opsum_appB : ∀ (B : CodeT) (i : Nat) (o : List OpT), opsum (appB i o B) ≤ opsum B + o.length
  | [], i, o => by simp [opsum, appB]
  | b :: B, 0, o => by simp only [appB, List.modify_zero_cons, opsum, List.length_append]; omega
  | b :: B, i + 1, o => by have := opsum_appB B i o; simp only [appB] at this; simp only [appB, List.modify_succ_cons, opsum]; omega
mutual
theorem comp_le : ∀ (n : NodeT) (B : CodeT), (comp n B).1.length + opsum (comp n B).2 ≤ opsum B + tsz n
  | .mk k s l, B => by
    rw [comp, tsz]
    split
    · simp only [List.length_cons, List.length_nil]; omega
    · split
      · have := compL_le l B.length (B ++ List.replicate l.length [])
        rw [opsum_app, opsum_rep] at this
        simp only [List.length_cons, List.length_nil]
        omega
      · have := comps_le l B
        simp only [List.length_append, List.length_cons, List.length_nil]
        omega
theorem comps_le : ∀ (l : List NodeT) (B : CodeT), (comps l B).1.length + opsum (comps l B).2 ≤ opsum B + tszs l
  | [], B => by rw [comps, tszs]; simp
  | n :: l, B => by
    rw [comps, tszs]
    have h1 := comp_le n B
    have h2 := comps_le l (comp n B).2
    simp only [List.length_append]
    omega
theorem compL_le : ∀ (l : List NodeT) (i : Nat) (B : CodeT), opsum (compL l i B) ≤ opsum B + tszs l
  | [], i, B => by rw [compL, tszs]; exact Nat.le_refl _
  | n :: l, i, B => by
    rw [compL, tszs]
    have h1 := comp_le n B
    have h2 := compL_le l (i + 1) ((comp n B).2.set i (comp n B).1)
    have h3 := opsum_set_le (comp n B).2 i (comp n B).1
    omega
end
theorem appB_nil {B : CodeT} {i : Nat} (o : List OpT) (h : B[i]? = some []) : appB i o B = B.set i o := List.ext_getElem? fun j => by
  rw [appB_get, List.getElem?_set]
  by_cases hij : i = j
  · subst hij
    rw [if_pos rfl, if_pos rfl, h, if_pos (List.getElem?_eq_some_iff.1 h).1]; rfl
  · rw [if_neg hij, if_neg hij]
def st12 (g : Nat) (rows : List AV) (ag : Bool) (toks : Hp) : Hp := .row g rows :: .row 0 [cellC ag (.hs false 0 g 0 rows.length)] :: toks
/-- rows and what grows behind them -/
def Rows12 (rows : List AV) (toks : Hp) (B : CodeT) : Prop := rows.length = B.length ∧
  (∀ (i : Nat) (b : List OpT), B[i]? = some b → (b = [] ∧ rows[i]? = some (AV.sl [] .full)) ∨ ∃ a : Nat, rows[i]? = some (AV.sl (b.map opA) (.own false (a + 2))) ∧ toks[a]? = some (Blk.tok b.length 4) ∧ b ≠ []) ∧
  ∀ (i j : Nat) (b b' : List AV) (a : Nat), rows[i]? = some (AV.sl b (.own false (a + 2))) → rows[j]? = some (AV.sl b' (.own false (a + 2))) → i = j
def St12 (G : Hp) (B : CodeT) : Prop := ∃ g rows ag toks, G = st12 g rows ag toks ∧ B ≠ [] ∧ Rows12 rows toks B
/-- an instruction behind a block's -/
theorem app12 {g : Nat} {rows : List AV} {ag : Bool} {toks : Hp} {B : CodeT} (h : Rows12 rows toks B) {b : Nat} (hb : b < B.length) (o : OpT) (hbd : opsum B ≤ 2 ^ 30) : ∃ (es : List AV) (t : Tok) (es' : List AV) (a : Nat) (toks' : Hp), rows[b]? = some (.sl es t) ∧ ((t = .full) ∨ ∃ a, t = .own false a) ∧
    (∀ (f d : Nat) (sl : Option Nat) (L : Hp), ann.rows f d = false → ann.glob f d = true → appendA Try.prog ann f d 44 sl (.sl es t) [opA o] L (.row g rows :: .row 0 [cellC ag (.hs false 0 g 0 rows.length)] :: toks) = some (.sl es' (.own false a), L, .row g rows :: .row 0 [cellC ag (.hs false 0 g 0 rows.length)] :: toks')) ∧
    Rows12 (rows.set b (.sl es' (.own false a))) toks' (appB b [o] B) ∧ refss (fun loc _ => !loc) es' = true := by
  obtain ⟨h1, h2, h3⟩ := h
  obtain ⟨b0, hb0⟩ : ∃ b0 : List OpT, B[b]? = some b0 := ⟨_, List.getElem?_eq_getElem hb⟩
  have hlen := opsum_le hb0
  have hX : handX [opA o] = [opA o] := handX_map opA hand_op [o]
  have hok := szOk_ops [o]
  simp only [List.map_cons, List.map_nil] at hok
  rcases h2 b b0 hb0 with ⟨rfl, hr⟩ | ⟨a, hr, ht, hne⟩
  · refine ⟨[], .full, [opA o], toks.length + 2, toks ++ [.tok 1 4], hr, .inl rfl, fun f d sl L hrw hgl => ?_, ⟨by simp [h1, appB_len], fun i c hc => ?_, fun i j x x' c hi hj => ?_⟩, refs_ops [o]⟩
    · rw [app_gtok0 elKop hrw hgl hX rfl hok (by simp) (by rw [ty44]; simp [mostBytes]), tz44]; rfl
    · rw [appB_get] at hc
      rw [List.getElem?_set]
      by_cases hbi : b = i
      · subst hbi
        rw [if_pos rfl, hb0] at hc
        cases hc
        rw [if_pos rfl, if_pos (by omega)]
        exact .inr ⟨toks.length, rfl, by simp, by simp⟩
      · rw [if_neg hbi] at hc ⊢
        rcases h2 i c hc with h | ⟨a, e1, e2, e3⟩
        · exact .inl h
        · exact .inr ⟨a, e1, by rw [List.getElem?_append_left (List.getElem?_eq_some_iff.1 e2).1]; exact e2, e3⟩
    · have old : ∀ {i : Nat} {x : List AV}, rows[i]? = some (AV.sl x (.own false (c + 2))) → c < toks.length := fun {i x} hi => by
        obtain ⟨c0, hc0⟩ : ∃ c0 : List OpT, B[i]? = some c0 := ⟨_, List.getElem?_eq_getElem (by rw [← h1]; exact (List.getElem?_eq_some_iff.1 hi).1)⟩
        rcases h2 i c0 hc0 with ⟨_, e⟩ | ⟨a, e1, e2, _⟩
        · rw [hi] at e; cases e
        · rw [hi] at e1; cases e1; exact (List.getElem?_eq_some_iff.1 e2).1
      rw [List.getElem?_set] at hi hj
      by_cases hbi : b = i <;> by_cases hbj : b = j
      · omega
      · rw [if_pos hbi] at hi
        rw [if_neg hbj] at hj
        split at hi
        · cases hi; have := old hj; omega
        · cases hi
      · rw [if_neg hbi] at hi
        rw [if_pos hbj] at hj
        split at hj
        · cases hj; have := old hi; omega
        · cases hj
      · rw [if_neg hbi] at hi
        rw [if_neg hbj] at hj
        exact h3 i j x x' c hi hj
  · have hlt := (List.getElem?_eq_some_iff.1 ht).1
    refine ⟨b0.map opA, .own false (a + 2), (b0 ++ [o]).map opA, a + 2, toks.set a (.tok (b0.length + 1) 4), hr, .inr ⟨_, rfl⟩, fun f d sl L hrw hgl => ?_, ⟨by simp [h1, appB_len], fun i c hc => ?_, fun i j x x' c hi hj => ?_⟩, refs_ops _⟩
    · rw [app_gtok1 elKop (a := a + 2) (by show toks[a]? = _; rw [ht, tz44, List.length_map]) hX rfl hok (by simp) (by rw [ty44, List.length_map]; simp only [mostBytes, List.length_cons, List.length_nil]; omega), tz44]
      simp
    · rw [appB_get] at hc
      rw [List.getElem?_set]
      by_cases hbi : b = i
      · subst hbi
        rw [if_pos rfl, hb0] at hc
        cases hc
        rw [if_pos rfl, if_pos (by omega)]
        exact .inr ⟨a, rfl, by rw [List.getElem?_set, if_pos rfl, if_pos hlt]; simp, by simp⟩
      · rw [if_neg hbi] at hc ⊢
        rcases h2 i c hc with h | ⟨a', e1, e2, e3⟩
        · exact .inl h
        · refine .inr ⟨a', e1, ?_, e3⟩
          rw [List.getElem?_set_ne]
          · exact e2
          · intro e; subst e; exact hbi (h3 b i _ _ _ hr e1)
    · have toOld : ∀ {i : Nat} {x : List AV}, (rows.set b (AV.sl ((b0 ++ [o]).map opA) (.own false (a + 2))))[i]? = some (AV.sl x (.own false (c + 2))) → ∃ y, rows[i]? = some (AV.sl y (.own false (c + 2))) := fun {i x} hi => by
        rw [List.getElem?_set] at hi
        by_cases hbi : b = i
        · subst hbi
          rw [if_pos rfl] at hi
          split at hi
          · cases hi; exact ⟨_, hr⟩
          · cases hi
        · rw [if_neg hbi] at hi; exact ⟨_, hi⟩
      obtain ⟨y, hy⟩ := toOld hi
      obtain ⟨y', hy'⟩ := toOld hj
      exact h3 i j y y' c hy hy'
theorem rows12_rep {rows : List AV} {toks : Hp} {B : CodeT} (h : Rows12 rows toks B) (n : Nat) : Rows12 (rows ++ List.replicate n (.sl [] .full)) toks (B ++ List.replicate n []) := by
  obtain ⟨h1, h2, h3⟩ := h
  have old : ∀ {i : Nat} {x : List AV} {c : Nat}, (rows ++ List.replicate n (AV.sl [] .full))[i]? = some (AV.sl x (.own false c)) → rows[i]? = some (AV.sl x (.own false c)) := fun {i x c} hi => by
    rw [List.getElem?_append] at hi
    split at hi
    · exact hi
    · rw [List.getElem?_replicate] at hi; split at hi <;> cases hi
  refine ⟨by simp [h1], fun i b hb => ?_, fun i j x x' c hi hj => h3 i j x x' c (old hi) (old hj)⟩
  rw [List.getElem?_append] at hb ⊢
  rw [h1]
  split at hb
  · next hi => rw [if_pos hi]; exact h2 i b hb
  · next hi =>
    rw [if_neg hi]
    rw [List.getElem?_replicate] at hb ⊢
    split at hb
    · next hj => cases hb; rw [if_pos hj]; exact .inl ⟨rfl, rfl⟩
    · cases hb
end Ev
