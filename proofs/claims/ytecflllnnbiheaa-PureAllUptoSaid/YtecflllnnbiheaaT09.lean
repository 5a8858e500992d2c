/- Texts by numbers: a call of another function. -/
import Derived.Test.YtecflllnnbiheaaT04
set_option maxHeartbeats 4000000
set_option linter.unusedVariables false
set_option linter.unusedSimpArgs false
namespace Ev
open Go Go.Proofs
set_option maxRecDepth 10000
theorem text_step {d : Int} {B E : Nat} (h : TextAt d B E) {G : Hp} {b : Nat} {l : List Int} {k : Nat} (hb : b < G.length) (hl : l.length < 2 ^ 40) (hi : okInts l) (hk : k ≤ l.length) :
    ∃ s k', (s.length ≤ B ∧ k ≤ k' ∧ k' ≤ l.length) ∧ ((k < l.length → k' < l.length → s.length + 12 ≤ 16 * (k' - k) + 0) ∧ s.length ≤ 16 * (k' - k) + E ∧ (l.length ≤ k → s.length ≤ 1)) ∧ callA (cfg Try.prog ann) 33 [.ptr false b 0 0 0, .int .i64 d] [] (G.set b (tRow l k)) = some (.val (.str s), [], G.set b (tRow l k')) := by
  obtain ⟨s, k', ⟨h1, h2, h3, h5, h6, h7⟩, h4⟩ := h [] G b l k hb hl hi hk
  exact ⟨s, k', ⟨h1, h2, h3⟩, ⟨h5, h6, h7⟩, h4⟩
theorem name_step {G : Hp} {b : Nat} {l : List Int} {k : Nat} (hb : b < G.length) (hl : l.length < 2 ^ 40) :
    ∃ s, s.length ≤ 2 ∧ callA (cfg Try.prog ann) 79 [.ptr false b 0 0 0] [] (G.set b (tRow l k)) = some (.val (.str s), [], G.set b (tRow l (numK l k))) := by
  obtain ⟨s, _, h2, h⟩ := name_at G hb hl
  exact ⟨s, h2, h []⟩
theorem control_26 {d : Int} {B E : Nat} (hd : 0 < d ∧ d < 100) (hB : B ≤ 2 ^ 40) (hE : 40 ≤ E) (h : TextAt (d - 1) B E) : TextC 81 [.int .i64 26, .int .i64 d] (3 * B + 60) 0 20 (E + 34) 100 := by
  refine text_of rfl (fun b => ⟨rfl, rfl⟩) fun G b l k0 hb hl hi hk0 => ?_
  obtain ⟨s1, k1, ⟨a1, b1, c1⟩, ⟨f1, g1, w1⟩, h1⟩ := text_step h (G := G) hb hl hi hk0
  have hw : IntKind.i64.wrap (d - 1) = d - 1 := by rw [wrap_in] <;> omega
  obtain ⟨s2, k2, ⟨a2, b2, c2⟩, ⟨f2, g2, w2⟩, h2⟩ := text_step h (G := G) hb hl hi c1
  obtain ⟨s3, k3, ⟨a3, b3, c3⟩, ⟨f3, g3, w3⟩, h3⟩ := text_step h (G := G) hb hl hi c2
  rw [fun_some Try.func81 rfl rfl]
  simp only [go_sem, ↓reduceIte, Nat.reduceEqDiff, hw, h1, h2, h3, Int.reduceEq, Int.reduceBEq, Nat.reduceAdd, Nat.reduceMul, Nat.reduceLeDiff]
  rw [if_pos (by first | omega | (simp; omega)), if_pos (by first | omega | (simp; omega)), if_pos (by first | omega | (simp; omega)), if_pos (by first | omega | (simp; omega)), if_pos (by first | omega | (simp; omega)), if_pos (by first | omega | (simp; omega))]
  exact ⟨_, k3, by simp only [Fits, List.length_append, List.length_cons, List.length_nil]; omega, rfl⟩
theorem control_27 {d : Int} {B E : Nat} (hd : 0 < d ∧ d < 100) (hB : B ≤ 2 ^ 40) (hE : 40 ≤ E) (h : TextAt (d - 1) B E) : TextC 81 [.int .i64 27, .int .i64 d] (3 * B + 60) 0 20 (E + 34) 100 := by
  refine text_of rfl (fun b => ⟨rfl, rfl⟩) fun G b l k0 hb hl hi hk0 => ?_
  obtain ⟨s1, k1, ⟨a1, b1, c1⟩, ⟨f1, g1, w1⟩, h1⟩ := text_step h (G := G) hb hl hi hk0
  have hw : IntKind.i64.wrap (d - 1) = d - 1 := by rw [wrap_in] <;> omega
  obtain ⟨s2, k2, ⟨a2, b2, c2⟩, ⟨f2, g2, w2⟩, h2⟩ := text_step h (G := G) hb hl hi c1
  obtain ⟨s3, k3, ⟨a3, b3, c3⟩, ⟨f3, g3, w3⟩, h3⟩ := text_step h (G := G) hb hl hi c2
  rw [fun_some Try.func81 rfl rfl]
  simp only [go_sem, ↓reduceIte, Nat.reduceEqDiff, hw, h1, h2, h3, Int.reduceEq, Int.reduceBEq, Nat.reduceAdd, Nat.reduceMul, Nat.reduceLeDiff]
  rw [if_pos (by first | omega | (simp; omega)), if_pos (by first | omega | (simp; omega)), if_pos (by first | omega | (simp; omega)), if_pos (by first | omega | (simp; omega)), if_pos (by first | omega | (simp; omega)), if_pos (by first | omega | (simp; omega))]
  exact ⟨_, k3, by simp only [Fits, List.length_append, List.length_cons, List.length_nil]; omega, rfl⟩
theorem control_28 {d : Int} {B E : Nat} (hd : 0 < d ∧ d < 100) (hB : B ≤ 2 ^ 40) (hE : 40 ≤ E) (h : TextAt (d - 1) B E) : TextC 81 [.int .i64 28, .int .i64 d] (3 * B + 60) 0 20 (E + 34) 100 := by
  refine text_of rfl (fun b => ⟨rfl, rfl⟩) fun G b l k0 hb hl hi hk0 => ?_
  obtain ⟨s1, k1, ⟨a1, b1, c1⟩, ⟨f1, g1, w1⟩, h1⟩ := text_step h (G := G) hb hl hi hk0
  have hw : IntKind.i64.wrap (d - 1) = d - 1 := by rw [wrap_in] <;> omega
  obtain ⟨s2, k2, ⟨a2, b2, c2⟩, ⟨f2, g2, w2⟩, h2⟩ := text_step h (G := G) hb hl hi c1
  rw [fun_some Try.func81 rfl rfl]
  simp only [go_sem, ↓reduceIte, Nat.reduceEqDiff, hw, h1, h2, Int.reduceEq, Int.reduceBEq, Nat.reduceAdd, Nat.reduceMul, Nat.reduceLeDiff]
  rw [if_pos (by first | omega | (simp; omega)), if_pos (by first | omega | (simp; omega)), if_pos (by first | omega | (simp; omega)), if_pos (by first | omega | (simp; omega))]
  exact ⟨_, k2, by simp only [Fits, List.length_append, List.length_cons, List.length_nil]; omega, rfl⟩
theorem control_29 {d : Int} {B E : Nat} (hd : 0 < d ∧ d < 100) (hB : B ≤ 2 ^ 40) (hE : 40 ≤ E) (h : TextAt (d - 1) B E) : TextC 81 [.int .i64 29, .int .i64 d] (3 * B + 60) 0 20 (E + 34) 100 := by
  refine text_of rfl (fun b => ⟨rfl, rfl⟩) fun G b l k0 hb hl hi hk0 => ?_
  obtain ⟨s1, k1, ⟨a1, b1, c1⟩, ⟨f1, g1, w1⟩, h1⟩ := text_step h (G := G) hb hl hi hk0
  have hw : IntKind.i64.wrap (d - 1) = d - 1 := by rw [wrap_in] <;> omega
  obtain ⟨s2, k2, ⟨a2, b2, c2⟩, ⟨f2, g2, w2⟩, h2⟩ := text_step h (G := G) hb hl hi c1
  rw [fun_some Try.func81 rfl rfl]
  simp only [go_sem, ↓reduceIte, Nat.reduceEqDiff, hw, h1, h2, Int.reduceEq, Int.reduceBEq, Nat.reduceAdd, Nat.reduceMul, Nat.reduceLeDiff]
  rw [if_pos (by first | omega | (simp; omega)), if_pos (by first | omega | (simp; omega)), if_pos (by first | omega | (simp; omega)), if_pos (by first | omega | (simp; omega))]
  exact ⟨_, k2, by simp only [Fits, List.length_append, List.length_cons, List.length_nil]; omega, rfl⟩
theorem control_30 {d : Int} {B E : Nat} (hd : 0 < d ∧ d < 100) (hB : B ≤ 2 ^ 40) (hE : 40 ≤ E) (h : TextAt (d - 1) B E) : TextC 81 [.int .i64 30, .int .i64 d] (3 * B + 60) 0 20 (E + 34) 100 := by
  refine text_of rfl (fun b => ⟨rfl, rfl⟩) fun G b l k0 hb hl hi hk0 => ?_
  obtain ⟨s1, k1, ⟨a1, b1, c1⟩, ⟨f1, g1, w1⟩, h1⟩ := text_step h (G := G) hb hl hi hk0
  have hw : IntKind.i64.wrap (d - 1) = d - 1 := by rw [wrap_in] <;> omega
  obtain ⟨s2, k2, ⟨a2, b2, c2⟩, ⟨f2, g2, w2⟩, h2⟩ := text_step h (G := G) hb hl hi c1
  rw [fun_some Try.func81 rfl rfl]
  simp only [go_sem, ↓reduceIte, Nat.reduceEqDiff, hw, h1, h2, Int.reduceEq, Int.reduceBEq, Nat.reduceAdd, Nat.reduceMul, Nat.reduceLeDiff]
  rw [if_pos (by first | omega | (simp; omega)), if_pos (by first | omega | (simp; omega)), if_pos (by first | omega | (simp; omega)), if_pos (by first | omega | (simp; omega))]
  exact ⟨_, k2, by simp only [Fits, List.length_append, List.length_cons, List.length_nil]; omega, rfl⟩
theorem control_31 {d : Int} {B E : Nat} (hd : 0 < d ∧ d < 100) (hB : B ≤ 2 ^ 40) (hE : 40 ≤ E) (h : TextAt (d - 1) B E) : TextC 81 [.int .i64 31, .int .i64 d] (3 * B + 60) 0 20 (E + 34) 100 := by
  refine text_of rfl (fun b => ⟨rfl, rfl⟩) fun G b l k0 hb hl hi hk0 => ?_
  obtain ⟨s1, k1, ⟨a1, b1, c1⟩, ⟨f1, g1, w1⟩, h1⟩ := text_step h (G := G) hb hl hi hk0
  have hw : IntKind.i64.wrap (d - 1) = d - 1 := by rw [wrap_in] <;> omega
  obtain ⟨s2, k2, ⟨a2, b2, c2⟩, ⟨f2, g2, w2⟩, h2⟩ := text_step h (G := G) hb hl hi c1
  rw [fun_some Try.func81 rfl rfl]
  simp only [go_sem, ↓reduceIte, Nat.reduceEqDiff, hw, h1, h2, Int.reduceEq, Int.reduceBEq, Nat.reduceAdd, Nat.reduceMul, Nat.reduceLeDiff]
  rw [if_pos (by first | omega | (simp; omega)), if_pos (by first | omega | (simp; omega)), if_pos (by first | omega | (simp; omega)), if_pos (by first | omega | (simp; omega))]
  exact ⟨_, k2, by simp only [Fits, List.length_append, List.length_cons, List.length_nil]; omega, rfl⟩
theorem control_32 {d : Int} {B E : Nat} (hd : 0 < d ∧ d < 100) (hB : B ≤ 2 ^ 40) (hE : 40 ≤ E) (h : TextAt (d - 1) B E) : TextC 81 [.int .i64 32, .int .i64 d] (3 * B + 60) 0 20 (E + 34) 100 := by
  refine text_of rfl (fun b => ⟨rfl, rfl⟩) fun G b l k0 hb hl hi hk0 => ?_
  obtain ⟨s1, k1, ⟨a1, b1, c1⟩, ⟨f1, g1, w1⟩, h1⟩ := text_step h (G := G) hb hl hi hk0
  have hw : IntKind.i64.wrap (d - 1) = d - 1 := by rw [wrap_in] <;> omega
  obtain ⟨s2, k2, ⟨a2, b2, c2⟩, ⟨f2, g2, w2⟩, h2⟩ := text_step h (G := G) hb hl hi c1
  rw [fun_some Try.func81 rfl rfl]
  simp only [go_sem, ↓reduceIte, Nat.reduceEqDiff, hw, h1, h2, Int.reduceEq, Int.reduceBEq, Nat.reduceAdd, Nat.reduceMul, Nat.reduceLeDiff]
  rw [if_pos (by first | omega | (simp; omega)), if_pos (by first | omega | (simp; omega)), if_pos (by first | omega | (simp; omega)), if_pos (by first | omega | (simp; omega))]
  exact ⟨_, k2, by simp only [Fits, List.length_append, List.length_cons, List.length_nil]; omega, rfl⟩
theorem control_33 {d : Int} {B E : Nat} (hd : 0 < d ∧ d < 100) (hB : B ≤ 2 ^ 40) (hE : 40 ≤ E) (h : TextAt (d - 1) B E) : TextC 81 [.int .i64 33, .int .i64 d] (3 * B + 60) 0 20 (E + 34) 100 := by
  refine text_of rfl (fun b => ⟨rfl, rfl⟩) fun G b l k0 hb hl hi hk0 => ?_
  obtain ⟨s1, k1, ⟨a1, b1, c1⟩, ⟨f1, g1, w1⟩, h1⟩ := text_step h (G := G) hb hl hi hk0
  have hw : IntKind.i64.wrap (d - 1) = d - 1 := by rw [wrap_in] <;> omega
  rw [fun_some Try.func81 rfl rfl]
  simp only [go_sem, ↓reduceIte, Nat.reduceEqDiff, hw, h1, Int.reduceEq, Int.reduceBEq, Nat.reduceAdd, Nat.reduceMul, Nat.reduceLeDiff]
  rw [if_pos (by first | omega | (simp; omega)), if_pos (by first | omega | (simp; omega))]
  exact ⟨_, k1, by simp only [Fits, List.length_append, List.length_cons, List.length_nil]; omega, rfl⟩
theorem control_34 {d : Int} {B E : Nat} (hd : 0 < d ∧ d < 100) (hB : B ≤ 2 ^ 40) (hE : 40 ≤ E) (h : TextAt (d - 1) B E) : TextC 81 [.int .i64 34, .int .i64 d] (3 * B + 60) 0 20 (E + 34) 100 := by
  refine text_of rfl (fun b => ⟨rfl, rfl⟩) fun G b l k0 hb hl hi hk0 => ?_
  obtain ⟨s1, k1, ⟨a1, b1, c1⟩, ⟨f1, g1, w1⟩, h1⟩ := text_step h (G := G) hb hl hi hk0
  have hw : IntKind.i64.wrap (d - 1) = d - 1 := by rw [wrap_in] <;> omega
  obtain ⟨s2, a2, h2⟩ := name_step (k := k1) (G := G) hb hl
  obtain ⟨c2, b2⟩ := numK_le c1
  obtain ⟨t2, u2⟩ := numK_at l k1
  generalize hk2 : numK l k1 = k2 at c2 b2 t2 u2 h2
  obtain ⟨s3, k3, ⟨a3, b3, c3⟩, ⟨f3, g3, w3⟩, h3⟩ := text_step h (G := G) hb hl hi c2
  rw [fun_some Try.func81 rfl rfl]
  simp only [go_sem, ↓reduceIte, Nat.reduceEqDiff, hw, h1, h2, h3, Int.reduceEq, Int.reduceBEq, Nat.reduceAdd, Nat.reduceMul, Nat.reduceLeDiff]
  rw [if_pos (by first | omega | (simp; omega)), if_pos (by first | omega | (simp; omega)), if_pos (by first | omega | (simp; omega)), if_pos (by first | omega | (simp; omega)), if_pos (by first | omega | (simp; omega)), if_pos (by first | omega | (simp; omega))]
  exact ⟨_, k3, by simp only [Fits, List.length_append, List.length_cons, List.length_nil]; omega, rfl⟩
theorem control_35 {d : Int} {B E : Nat} (hd : 0 < d ∧ d < 100) (hB : B ≤ 2 ^ 40) (hE : 40 ≤ E) (h : TextAt (d - 1) B E) : TextC 81 [.int .i64 35, .int .i64 d] (3 * B + 60) 0 20 (E + 34) 100 := by
  refine text_of rfl (fun b => ⟨rfl, rfl⟩) fun G b l k0 hb hl hi hk0 => ?_
  obtain ⟨s1, k1, ⟨a1, b1, c1⟩, ⟨f1, g1, w1⟩, h1⟩ := text_step h (G := G) hb hl hi hk0
  have hw : IntKind.i64.wrap (d - 1) = d - 1 := by rw [wrap_in] <;> omega
  obtain ⟨s2, a2, h2⟩ := name_step (k := k1) (G := G) hb hl
  obtain ⟨c2, b2⟩ := numK_le c1
  obtain ⟨t2, u2⟩ := numK_at l k1
  generalize hk2 : numK l k1 = k2 at c2 b2 t2 u2 h2
  obtain ⟨s3, k3, ⟨a3, b3, c3⟩, ⟨f3, g3, w3⟩, h3⟩ := text_step h (G := G) hb hl hi c2
  rw [fun_some Try.func81 rfl rfl]
  simp only [go_sem, ↓reduceIte, Nat.reduceEqDiff, hw, h1, h2, h3, Int.reduceEq, Int.reduceBEq, Nat.reduceAdd, Nat.reduceMul, Nat.reduceLeDiff]
  rw [if_pos (by first | omega | (simp; omega)), if_pos (by first | omega | (simp; omega)), if_pos (by first | omega | (simp; omega)), if_pos (by first | omega | (simp; omega)), if_pos (by first | omega | (simp; omega)), if_pos (by first | omega | (simp; omega))]
  exact ⟨_, k3, by simp only [Fits, List.length_append, List.length_cons, List.length_nil]; omega, rfl⟩
theorem control_36 {d : Int} {B E : Nat} (hd : 0 < d ∧ d < 100) (hB : B ≤ 2 ^ 40) (hE : 40 ≤ E) (h : TextAt (d - 1) B E) : TextC 81 [.int .i64 36, .int .i64 d] (3 * B + 60) 0 20 (E + 34) 100 := by
  refine text_of rfl (fun b => ⟨rfl, rfl⟩) fun G b l k0 hb hl hi hk0 => ?_
  obtain ⟨s1, k1, ⟨a1, b1, c1⟩, ⟨f1, g1, w1⟩, h1⟩ := text_step h (G := G) hb hl hi hk0
  have hw : IntKind.i64.wrap (d - 1) = d - 1 := by rw [wrap_in] <;> omega
  obtain ⟨n2, m2⟩ := numV_lt (l := l) (k := k1) (n := 3) (by omega)
  have h2 := fun L => num_at L G (l := l) (k := k1) 3 hb hl (by omega) (by omega)
  obtain ⟨c2, b2⟩ := numK_le c1
  obtain ⟨t2, u2⟩ := numK_at l k1
  generalize hk2 : numK l k1 = k2 at c2 b2 t2 u2 h2
  generalize hv2 : numV l k1 3 = v2 at n2 m2 h2
  have z2 : ¬ v2 < 0 := by omega
  have y2 : v2.toNat < 3 := by omega
  obtain ⟨s3, a3, h3⟩ := name_step (k := k2) (G := G) hb hl
  obtain ⟨c3, b3⟩ := numK_le c2
  obtain ⟨t3, u3⟩ := numK_at l k2
  generalize hk3 : numK l k2 = k3 at c3 b3 t3 u3 h3
  rw [fun_some Try.func81 rfl rfl]
  simp only [go_sem, ↓reduceIte, Nat.reduceEqDiff, hw, h1, h2, z2, y2, h3, Int.reduceEq, Int.reduceBEq, Nat.reduceAdd, Nat.reduceMul, Nat.reduceLeDiff]
  generalize hq : (_ : List AV)[v2.toNat]? = q
  obtain ⟨u, rfl, hul⟩ : ∃ u, q = some (.str u) ∧ u.length ≤ 20 := by rw [← hq]; exact lits_at _ 20 _ (by decide) y2
  clear hq
  simp only [go_sem, ↓reduceIte, Nat.reduceEqDiff, h1, h2, h3, Nat.reduceAdd, Nat.reduceMul, Nat.reduceLeDiff]
  rw [if_pos (by first | omega | (simp; omega)), if_pos (by first | omega | (simp; omega)), if_pos (by first | omega | (simp; omega)), if_pos (by first | omega | (simp; omega))]
  exact ⟨_, k3, by simp only [Fits, List.length_append, List.length_cons, List.length_nil]; omega, rfl⟩
theorem control_37 {d : Int} {B E : Nat} (hd : 0 < d ∧ d < 100) (hB : B ≤ 2 ^ 40) (hE : 40 ≤ E) (h : TextAt (d - 1) B E) : TextC 81 [.int .i64 37, .int .i64 d] (3 * B + 60) 0 20 (E + 34) 100 := by
  refine text_of rfl (fun b => ⟨rfl, rfl⟩) fun G b l k0 hb hl hi hk0 => ?_
  obtain ⟨s1, k1, ⟨a1, b1, c1⟩, ⟨f1, g1, w1⟩, h1⟩ := text_step h (G := G) hb hl hi hk0
  have hw : IntKind.i64.wrap (d - 1) = d - 1 := by rw [wrap_in] <;> omega
  rw [fun_some Try.func81 rfl rfl]
  simp only [go_sem, ↓reduceIte, Nat.reduceEqDiff, hw, h1, Int.reduceEq, Int.reduceBEq, Nat.reduceAdd, Nat.reduceMul, Nat.reduceLeDiff]
  rw [if_pos (by first | omega | (simp; omega)), if_pos (by first | omega | (simp; omega))]
  exact ⟨_, k1, by simp only [Fits, List.length_append, List.length_cons, List.length_nil]; omega, rfl⟩
theorem control_38 {d : Int} {B E : Nat} (hd : 0 < d ∧ d < 100) (hB : B ≤ 2 ^ 40) (hE : 40 ≤ E) (h : TextAt (d - 1) B E) : TextC 81 [.int .i64 38, .int .i64 d] (3 * B + 60) 0 20 (E + 34) 100 := by
  refine text_of rfl (fun b => ⟨rfl, rfl⟩) fun G b l k0 hb hl hi hk0 => ?_
  obtain ⟨s1, k1, ⟨a1, b1, c1⟩, ⟨f1, g1, w1⟩, h1⟩ := text_step h (G := G) hb hl hi hk0
  have hw : IntKind.i64.wrap (d - 1) = d - 1 := by rw [wrap_in] <;> omega
  obtain ⟨s2, a2, h2⟩ := name_step (k := k1) (G := G) hb hl
  obtain ⟨c2, b2⟩ := numK_le c1
  obtain ⟨t2, u2⟩ := numK_at l k1
  generalize hk2 : numK l k1 = k2 at c2 b2 t2 u2 h2
  obtain ⟨n3, m3⟩ := numV_lt (l := l) (k := k2) (n := 3) (by omega)
  have h3 := fun L => num_at L G (l := l) (k := k2) 3 hb hl (by omega) (by omega)
  obtain ⟨c3, b3⟩ := numK_le c2
  obtain ⟨t3, u3⟩ := numK_at l k2
  generalize hk3 : numK l k2 = k3 at c3 b3 t3 u3 h3
  generalize hv3 : numV l k2 3 = v3 at n3 m3 h3
  have z3 : ¬ v3 < 0 := by omega
  have y3 : v3.toNat < 3 := by omega
  rw [fun_some Try.func81 rfl rfl]
  simp only [go_sem, ↓reduceIte, Nat.reduceEqDiff, hw, h1, h2, h3, z3, y3, Int.reduceEq, Int.reduceBEq, Nat.reduceAdd, Nat.reduceMul, Nat.reduceLeDiff]
  generalize hq : (_ : List AV)[v3.toNat]? = q
  obtain ⟨u, rfl, hul⟩ : ∃ u, q = some (.str u) ∧ u.length ≤ 20 := by rw [← hq]; exact lits_at _ 20 _ (by decide) y3
  clear hq
  simp only [go_sem, ↓reduceIte, Nat.reduceEqDiff, h1, h2, h3, Nat.reduceAdd, Nat.reduceMul, Nat.reduceLeDiff]
  rw [if_pos (by first | omega | (simp; omega)), if_pos (by first | omega | (simp; omega)), if_pos (by first | omega | (simp; omega)), if_pos (by first | omega | (simp; omega))]
  exact ⟨_, k3, by simp only [Fits, List.length_append, List.length_cons, List.length_nil]; omega, rfl⟩
theorem control_k {d : Int} {B E : Nat} (hd : 0 < d ∧ d < 100) (hB : B ≤ 2 ^ 40) (hE : 40 ≤ E) (h : TextAt (d - 1) B E) {k : Int} (hk : k < 26 ∨ 38 < k) : TextC 81 [.int .i64 k, .int .i64 d] (3 * B + 60) 0 20 (E + 34) 100 := by
  refine text_of rfl (fun b => ⟨rfl, rfl⟩) fun G b l k0 hb hl hi hk0 => ?_
  obtain ⟨s1, k1, ⟨a1, b1, c1⟩, ⟨f1, g1, w1⟩, h1⟩ := text_step h (G := G) hb hl hi hk0
  have hw : IntKind.i64.wrap (d - 1) = d - 1 := by rw [wrap_in] <;> omega
  obtain ⟨n2, m2⟩ := numV_lt (l := l) (k := k1) (n := 4) (by omega)
  have h2 := fun L => num_at L G (l := l) (k := k1) 4 hb hl (by omega) (by omega)
  obtain ⟨c2, b2⟩ := numK_le c1
  obtain ⟨t2, u2⟩ := numK_at l k1
  generalize hk2 : numK l k1 = k2 at c2 b2 t2 u2 h2
  generalize hv2 : numV l k1 4 = v2 at n2 m2 h2
  have z2 : ¬ v2 < 0 := by omega
  have y2 : v2.toNat < 4 := by omega
  have e26 : (k == 26) = false := by simp; omega
  have e27 : (k == 27) = false := by simp; omega
  have e28 : (k == 28) = false := by simp; omega
  have e29 : (k == 29) = false := by simp; omega
  have e30 : (k == 30) = false := by simp; omega
  have e31 : (k == 31) = false := by simp; omega
  have e32 : (k == 32) = false := by simp; omega
  have e33 : (k == 33) = false := by simp; omega
  have e34 : (k == 34) = false := by simp; omega
  have e35 : (k == 35) = false := by simp; omega
  have e36 : (k == 36) = false := by simp; omega
  have e37 : (k == 37) = false := by simp; omega
  have e38 : (k == 38) = false := by simp; omega
  rw [fun_some Try.func81 rfl rfl]
  simp only [go_sem, ↓reduceIte, Nat.reduceEqDiff, hw, h1, h2, z2, y2, e26, e27, e28, e29, e30, e31, e32, e33, e34, e35, e36, e37, e38, Int.reduceEq, Int.reduceBEq, Nat.reduceAdd, Nat.reduceMul, Nat.reduceLeDiff]
  generalize hq : (_ : List AV)[v2.toNat]? = q
  obtain ⟨u, rfl, hul⟩ : ∃ u, q = some (.str u) ∧ u.length ≤ 20 := by rw [← hq]; exact lits_at _ 20 _ (by decide) y2
  clear hq
  simp only [go_sem, ↓reduceIte, Nat.reduceEqDiff, h1, h2, Nat.reduceAdd, Nat.reduceMul, Nat.reduceLeDiff]
  exact ⟨_, k2, by simp only [Fits, List.length_append, List.length_cons, List.length_nil]; omega, rfl⟩
theorem control_ok {d : Int} {B E : Nat} (hd : 0 < d ∧ d < 100) (hB : B ≤ 2 ^ 40) (hE : 40 ≤ E) (h : TextAt (d - 1) B E) {k : Int} : TextC 81 [.int .i64 k, .int .i64 d] (3 * B + 60) 0 20 (E + 34) 100 := by
  by_cases hk : k < 26 ∨ 38 < k
  · exact control_k hd hB hE h hk
  have : k = 26 ∨ k = 27 ∨ k = 28 ∨ k = 29 ∨ k = 30 ∨ k = 31 ∨ k = 32 ∨ k = 33 ∨ k = 34 ∨ k = 35 ∨ k = 36 ∨ k = 37 ∨ k = 38 := by omega
  rcases this with rfl | rfl | rfl | rfl | rfl | rfl | rfl | rfl | rfl | rfl | rfl | rfl | rfl
  · exact control_26 hd hB hE h
  · exact control_27 hd hB hE h
  · exact control_28 hd hB hE h
  · exact control_29 hd hB hE h
  · exact control_30 hd hB hE h
  · exact control_31 hd hB hE h
  · exact control_32 hd hB hE h
  · exact control_33 hd hB hE h
  · exact control_34 hd hB hE h
  · exact control_35 hd hB hE h
  · exact control_36 hd hB hE h
  · exact control_37 hd hB hE h
  · exact control_38 hd hB hE h
end Ev
