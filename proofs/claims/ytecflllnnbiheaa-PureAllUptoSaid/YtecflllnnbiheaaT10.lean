/- Texts by numbers: a thing of a text. -/
import Derived.Test.YtecflllnnbiheaaT09
set_option maxHeartbeats 4000000
set_option linter.unusedVariables false
set_option linter.unusedSimpArgs false
namespace Ev
open Go Go.Proofs
set_option maxRecDepth 10000
theorem one_a {d : Int} {B E : Nat} (hd : 0 < d ∧ d < 100) (hB : B ≤ 2 ^ 40) (hE : 40 ≤ E) (h : TextAt (d - 1) B E) {G : Hp} {b : Nat} {l : List Int} {k0 : Nat} (hb : b < G.length) (hl : l.length < 2 ^ 40) (hi : okInts l) (hk : k0 ≤ l.length) (hend : ¬ l.length ≤ numK l k0) (hv : numV l k0 40 < 6) : ∃ s k', Fits (3 * B + 60) 0 4 (E + 34) 20 l.length k0 s k' ∧ ev Try.prog ann 60 [.ptr false b 0 0 0, .int .i64 d] (G.set b (tRow l k0)) = some (.val (.str s), G.set b (tRow l k')) := by
  obtain ⟨n1, n2⟩ := numV_lt (l := l) (k := k0) (n := 40) (by omega)
  have h1 := fun L => num_at L G (l := l) (k := k0) 40 hb hl (by omega) (by omega)
  obtain ⟨c1, b1⟩ := numK_le hk
  obtain ⟨t1, u1⟩ := numK_at l k0
  have hrow : (G.set b (tRow l (numK l k0)))[b]? = some (.row 0 [.agg [.sl (l.map (.int .i64)) .no, .int .i64 (numK l k0)]]) := set_at hb
  have hge : ((l.length : Int) ≤ (numK l k0 : Int)) = False := by simp; omega
  have e0 : (d == 0) = false := by simp; omega
  generalize numK l k0 = k1 at c1 b1 t1 u1 h1 hrow hge hend
  generalize numV l k0 40 = v at n1 n2 h1 hv
  have f0 : (v < 6) = True := by simp; omega
  obtain ⟨n2, m2⟩ := numV_lt (l := l) (k := k1) (n := 99) (by omega)
  have h2 := fun L => num_at L G (l := l) (k := k1) 99 hb hl (by omega) (by omega)
  obtain ⟨c2, b2⟩ := numK_le c1
  obtain ⟨t2, u2⟩ := numK_at l k1
  generalize numK l k1 = k2 at c2 b2 t2 u2 h2
  generalize numV l k1 99 = v2 at n2 m2 h2
  have z2 : ¬ v2 < 0 := by omega
  have y2 : v2.toNat < 99 := by omega
  obtain ⟨n3, m3⟩ := numV_lt (l := l) (k := k2) (n := 99) (by omega)
  have h3 := fun L => num_at L G (l := l) (k := k2) 99 hb hl (by omega) (by omega)
  obtain ⟨c3, b3⟩ := numK_le c2
  obtain ⟨t3, u3⟩ := numK_at l k2
  generalize numK l k2 = k3 at c3 b3 t3 u3 h3
  generalize numV l k2 99 = v3 at n3 m3 h3
  have z3 : ¬ v3 < 0 := by omega
  have y3 : v3.toNat < 99 := by omega
  obtain ⟨sw, hsw, hw⟩ := words2 v2 v3 (by omega) (by omega)
  rw [fun_some Try.func60 rfl rfl]
  simp only [go_sem, ↓reduceIte, Nat.reduceEqDiff, h1, hrow, hge, e0, f0, h2, z2, y2, h3, z3, y3, hw, Int.reduceEq, Int.reduceBEq, Int.reduceLE, Int.reduceToNat, Nat.sub_zero, Nat.reduceAdd, Nat.reduceMul, Nat.reduceLeDiff, show (0:Nat) < 2 from by decide, show (1:Nat) < 2 from by decide, show (2:Nat) ≤ 2 ^ 20 from by decide, listA, List.set_cons_zero, List.set_cons_succ]
  exact ⟨_, k3, by simp only [Fits, List.length_append, List.length_cons, List.length_nil, List.length_take]; omega, rfl⟩
theorem one_b {d : Int} {B E : Nat} (hd : 0 < d ∧ d < 100) (hB : B ≤ 2 ^ 40) (hE : 40 ≤ E) (h : TextAt (d - 1) B E) {G : Hp} {b : Nat} {l : List Int} {k0 : Nat} (hb : b < G.length) (hl : l.length < 2 ^ 40) (hi : okInts l) (hk : k0 ≤ l.length) (hend : ¬ l.length ≤ numK l k0) (hv : 6 ≤ numV l k0 40 ∧ numV l k0 40 < 14) : ∃ s k', Fits (3 * B + 60) 0 4 (E + 34) 20 l.length k0 s k' ∧ ev Try.prog ann 60 [.ptr false b 0 0 0, .int .i64 d] (G.set b (tRow l k0)) = some (.val (.str s), G.set b (tRow l k')) := by
  obtain ⟨n1, n2⟩ := numV_lt (l := l) (k := k0) (n := 40) (by omega)
  have h1 := fun L => num_at L G (l := l) (k := k0) 40 hb hl (by omega) (by omega)
  obtain ⟨c1, b1⟩ := numK_le hk
  obtain ⟨t1, u1⟩ := numK_at l k0
  have hrow : (G.set b (tRow l (numK l k0)))[b]? = some (.row 0 [.agg [.sl (l.map (.int .i64)) .no, .int .i64 (numK l k0)]]) := set_at hb
  have hge : ((l.length : Int) ≤ (numK l k0 : Int)) = False := by simp; omega
  have e0 : (d == 0) = false := by simp; omega
  generalize numK l k0 = k1 at c1 b1 t1 u1 h1 hrow hge hend
  generalize numV l k0 40 = v at n1 n2 h1 hv
  have f0 : (v < 6) = False := by simp; omega
  have f1 : (v < 14) = True := by simp; omega
  obtain ⟨s2, d2, a2, hh2⟩ := name_at (k := k1) G hb hl
  obtain ⟨c2, b2⟩ := numK_le c1
  obtain ⟨t2, u2⟩ := numK_at l k1
  generalize numK l k1 = k2 at c2 b2 t2 u2 hh2
  rw [fun_some Try.func60 rfl rfl]
  simp only [go_sem, ↓reduceIte, Nat.reduceEqDiff, h1, hrow, hge, e0, f0, f1, hh2, Int.reduceEq, Int.reduceBEq, Int.reduceLE, Int.reduceToNat, Nat.sub_zero, Nat.reduceAdd, Nat.reduceMul, Nat.reduceLeDiff, show (0:Nat) < 2 from by decide, show (1:Nat) < 2 from by decide, show (2:Nat) ≤ 2 ^ 20 from by decide, listA, List.set_cons_zero, List.set_cons_succ]
  rw [if_pos (by first | omega | (simp; omega)), if_pos (by first | omega | (simp; omega))]
  exact ⟨_, k2, by simp only [Fits, List.length_append, List.length_cons, List.length_nil, List.length_take]; omega, rfl⟩
theorem one_14 {d : Int} {B E : Nat} (hd : 0 < d ∧ d < 100) (hB : B ≤ 2 ^ 40) (hE : 40 ≤ E) (h : TextAt (d - 1) B E) {G : Hp} {b : Nat} {l : List Int} {k0 : Nat} (hb : b < G.length) (hl : l.length < 2 ^ 40) (hi : okInts l) (hk : k0 ≤ l.length) (hend : ¬ l.length ≤ numK l k0) (hv : numV l k0 40 = 14) : ∃ s k', Fits (3 * B + 60) 0 4 (E + 34) 20 l.length k0 s k' ∧ ev Try.prog ann 60 [.ptr false b 0 0 0, .int .i64 d] (G.set b (tRow l k0)) = some (.val (.str s), G.set b (tRow l k')) := by
  obtain ⟨n1, n2⟩ := numV_lt (l := l) (k := k0) (n := 40) (by omega)
  have h1 := fun L => num_at L G (l := l) (k := k0) 40 hb hl (by omega) (by omega)
  obtain ⟨c1, b1⟩ := numK_le hk
  obtain ⟨t1, u1⟩ := numK_at l k0
  have hrow : (G.set b (tRow l (numK l k0)))[b]? = some (.row 0 [.agg [.sl (l.map (.int .i64)) .no, .int .i64 (numK l k0)]]) := set_at hb
  have hge : ((l.length : Int) ≤ (numK l k0 : Int)) = False := by simp; omega
  have e0 : (d == 0) = false := by simp; omega
  generalize numK l k0 = k1 at c1 b1 t1 u1 h1 hrow hge hend
  generalize numV l k0 40 = v at n1 n2 h1 hv
  have f0 : (v < 6) = False := by simp; omega
  have f1 : (v < 14) = False := by simp; omega
  have f2 : (v == 14) = true := by simp; omega
  obtain ⟨s2, d2, a2, hh2⟩ := name_at (k := k1) G hb hl
  obtain ⟨c2, b2⟩ := numK_le c1
  obtain ⟨t2, u2⟩ := numK_at l k1
  generalize numK l k1 = k2 at c2 b2 t2 u2 hh2
  rw [fun_some Try.func60 rfl rfl]
  simp only [go_sem, ↓reduceIte, Nat.reduceEqDiff, h1, hrow, hge, e0, f0, f1, f2, hh2, Int.reduceEq, Int.reduceBEq, Int.reduceLE, Int.reduceToNat, Nat.sub_zero, Nat.reduceAdd, Nat.reduceMul, Nat.reduceLeDiff, show (0:Nat) < 2 from by decide, show (1:Nat) < 2 from by decide, show (2:Nat) ≤ 2 ^ 20 from by decide, listA, List.set_cons_zero, List.set_cons_succ]
  rw [if_pos (by first | omega | (simp; omega)), if_pos (by first | omega | (simp; omega))]
  exact ⟨_, k2, by simp only [Fits, List.length_append, List.length_cons, List.length_nil, List.length_take]; omega, rfl⟩
theorem one_15 {d : Int} {B E : Nat} (hd : 0 < d ∧ d < 100) (hB : B ≤ 2 ^ 40) (hE : 40 ≤ E) (h : TextAt (d - 1) B E) {G : Hp} {b : Nat} {l : List Int} {k0 : Nat} (hb : b < G.length) (hl : l.length < 2 ^ 40) (hi : okInts l) (hk : k0 ≤ l.length) (hend : ¬ l.length ≤ numK l k0) (hv : numV l k0 40 = 15) : ∃ s k', Fits (3 * B + 60) 0 4 (E + 34) 20 l.length k0 s k' ∧ ev Try.prog ann 60 [.ptr false b 0 0 0, .int .i64 d] (G.set b (tRow l k0)) = some (.val (.str s), G.set b (tRow l k')) := by
  obtain ⟨n1, n2⟩ := numV_lt (l := l) (k := k0) (n := 40) (by omega)
  have h1 := fun L => num_at L G (l := l) (k := k0) 40 hb hl (by omega) (by omega)
  obtain ⟨c1, b1⟩ := numK_le hk
  obtain ⟨t1, u1⟩ := numK_at l k0
  have hrow : (G.set b (tRow l (numK l k0)))[b]? = some (.row 0 [.agg [.sl (l.map (.int .i64)) .no, .int .i64 (numK l k0)]]) := set_at hb
  have hge : ((l.length : Int) ≤ (numK l k0 : Int)) = False := by simp; omega
  have e0 : (d == 0) = false := by simp; omega
  generalize numK l k0 = k1 at c1 b1 t1 u1 h1 hrow hge hend
  generalize numV l k0 40 = v at n1 n2 h1 hv
  have f0 : (v < 6) = False := by simp; omega
  have f1 : (v < 14) = False := by simp; omega
  have f2 : (v == 14) = false := by simp; omega
  have f3 : (v == 15) = true := by simp; omega
  obtain ⟨s2, d2, a2, hh2⟩ := name_at (k := k1) G hb hl
  obtain ⟨c2, b2⟩ := numK_le c1
  obtain ⟨t2, u2⟩ := numK_at l k1
  generalize numK l k1 = k2 at c2 b2 t2 u2 hh2
  have g1 : (1 : Int) ≤ (s2.length : Int) := by omega
  rw [fun_some Try.func60 rfl rfl]
  simp only [go_sem, ↓reduceIte, Nat.reduceEqDiff, h1, hrow, hge, e0, f0, f1, f2, f3, hh2, g1, Int.reduceEq, Int.reduceBEq, Int.reduceLE, Int.reduceToNat, Nat.sub_zero, Nat.reduceAdd, Nat.reduceMul, Nat.reduceLeDiff, show (0:Nat) < 2 from by decide, show (1:Nat) < 2 from by decide, show (2:Nat) ≤ 2 ^ 20 from by decide, listA, List.set_cons_zero, List.set_cons_succ]
  rw [if_pos (by first | omega | (simp; omega))]
  exact ⟨_, k2, by simp only [Fits, List.length_append, List.length_cons, List.length_nil, List.length_take]; omega, rfl⟩
theorem one_16 {d : Int} {B E : Nat} (hd : 0 < d ∧ d < 100) (hB : B ≤ 2 ^ 40) (hE : 40 ≤ E) (h : TextAt (d - 1) B E) {G : Hp} {b : Nat} {l : List Int} {k0 : Nat} (hb : b < G.length) (hl : l.length < 2 ^ 40) (hi : okInts l) (hk : k0 ≤ l.length) (hend : ¬ l.length ≤ numK l k0) (hv : numV l k0 40 = 16) : ∃ s k', Fits (3 * B + 60) 0 4 (E + 34) 20 l.length k0 s k' ∧ ev Try.prog ann 60 [.ptr false b 0 0 0, .int .i64 d] (G.set b (tRow l k0)) = some (.val (.str s), G.set b (tRow l k')) := by
  obtain ⟨n1, n2⟩ := numV_lt (l := l) (k := k0) (n := 40) (by omega)
  have h1 := fun L => num_at L G (l := l) (k := k0) 40 hb hl (by omega) (by omega)
  obtain ⟨c1, b1⟩ := numK_le hk
  obtain ⟨t1, u1⟩ := numK_at l k0
  have hrow : (G.set b (tRow l (numK l k0)))[b]? = some (.row 0 [.agg [.sl (l.map (.int .i64)) .no, .int .i64 (numK l k0)]]) := set_at hb
  have hge : ((l.length : Int) ≤ (numK l k0 : Int)) = False := by simp; omega
  have e0 : (d == 0) = false := by simp; omega
  generalize numK l k0 = k1 at c1 b1 t1 u1 h1 hrow hge hend
  generalize numV l k0 40 = v at n1 n2 h1 hv
  have f0 : (v < 6) = False := by simp; omega
  have f1 : (v < 14) = False := by simp; omega
  have f2 : (v == 14) = false := by simp; omega
  have f3 : (v == 15) = false := by simp; omega
  have f4 : (v == 16) = true := by simp; omega
  obtain ⟨s2, d2, a2, hh2⟩ := name_at (k := k1) G hb hl
  obtain ⟨c2, b2⟩ := numK_le c1
  obtain ⟨t2, u2⟩ := numK_at l k1
  generalize numK l k1 = k2 at c2 b2 t2 u2 hh2
  rw [fun_some Try.func60 rfl rfl]
  simp only [go_sem, ↓reduceIte, Nat.reduceEqDiff, h1, hrow, hge, e0, f0, f1, f2, f3, f4, hh2, Int.reduceEq, Int.reduceBEq, Int.reduceLE, Int.reduceToNat, Nat.sub_zero, Nat.reduceAdd, Nat.reduceMul, Nat.reduceLeDiff, show (0:Nat) < 2 from by decide, show (1:Nat) < 2 from by decide, show (2:Nat) ≤ 2 ^ 20 from by decide, listA, List.set_cons_zero, List.set_cons_succ]
  rw [if_pos (by first | omega | (simp; omega))]
  exact ⟨_, k2, by simp only [Fits, List.length_append, List.length_cons, List.length_nil, List.length_take]; omega, rfl⟩
theorem one_17 {d : Int} {B E : Nat} (hd : 0 < d ∧ d < 100) (hB : B ≤ 2 ^ 40) (hE : 40 ≤ E) (h : TextAt (d - 1) B E) {G : Hp} {b : Nat} {l : List Int} {k0 : Nat} (hb : b < G.length) (hl : l.length < 2 ^ 40) (hi : okInts l) (hk : k0 ≤ l.length) (hend : ¬ l.length ≤ numK l k0) (hv : numV l k0 40 = 17) : ∃ s k', Fits (3 * B + 60) 0 4 (E + 34) 20 l.length k0 s k' ∧ ev Try.prog ann 60 [.ptr false b 0 0 0, .int .i64 d] (G.set b (tRow l k0)) = some (.val (.str s), G.set b (tRow l k')) := by
  obtain ⟨n1, n2⟩ := numV_lt (l := l) (k := k0) (n := 40) (by omega)
  have h1 := fun L => num_at L G (l := l) (k := k0) 40 hb hl (by omega) (by omega)
  obtain ⟨c1, b1⟩ := numK_le hk
  obtain ⟨t1, u1⟩ := numK_at l k0
  have hrow : (G.set b (tRow l (numK l k0)))[b]? = some (.row 0 [.agg [.sl (l.map (.int .i64)) .no, .int .i64 (numK l k0)]]) := set_at hb
  have hge : ((l.length : Int) ≤ (numK l k0 : Int)) = False := by simp; omega
  have e0 : (d == 0) = false := by simp; omega
  generalize numK l k0 = k1 at c1 b1 t1 u1 h1 hrow hge hend
  generalize numV l k0 40 = v at n1 n2 h1 hv
  have f0 : (v < 6) = False := by simp; omega
  have f1 : (v < 14) = False := by simp; omega
  have f2 : (v == 14) = false := by simp; omega
  have f3 : (v == 15) = false := by simp; omega
  have f4 : (v == 16) = false := by simp; omega
  have f5 : (v == 17) = true := by simp; omega
  obtain ⟨s2, d2, a2, hh2⟩ := name_at (k := k1) G hb hl
  obtain ⟨c2, b2⟩ := numK_le c1
  obtain ⟨t2, u2⟩ := numK_at l k1
  generalize numK l k1 = k2 at c2 b2 t2 u2 hh2
  obtain ⟨n3, m3⟩ := numV_lt (l := l) (k := k2) (n := 3) (by omega)
  have h3 := fun L => num_at L G (l := l) (k := k2) 3 hb hl (by omega) (by omega)
  obtain ⟨c3, b3⟩ := numK_le c2
  obtain ⟨t3, u3⟩ := numK_at l k2
  generalize numK l k2 = k3 at c3 b3 t3 u3 h3
  generalize numV l k2 3 = v3 at n3 m3 h3
  have z3 : ¬ v3 < 0 := by omega
  have y3 : v3.toNat < 3 := by omega
  rw [fun_some Try.func60 rfl rfl]
  simp only [go_sem, ↓reduceIte, Nat.reduceEqDiff, h1, hrow, hge, e0, f0, f1, f2, f3, f4, f5, hh2, h3, z3, y3, Int.reduceEq, Int.reduceBEq, Int.reduceLE, Int.reduceToNat, Nat.sub_zero, Nat.reduceAdd, Nat.reduceMul, Nat.reduceLeDiff, show (0:Nat) < 2 from by decide, show (1:Nat) < 2 from by decide, show (2:Nat) ≤ 2 ^ 20 from by decide, listA, List.set_cons_zero, List.set_cons_succ]
  generalize hq : (_ : List AV)[v3.toNat]? = q
  obtain ⟨u, rfl, hul⟩ : ∃ u, q = some (.str u) ∧ u.length ≤ 20 := by rw [← hq]; exact lits_at _ 20 _ (by decide) y3
  clear hq
  simp only [go_sem, ↓reduceIte, Nat.reduceEqDiff, h1, hrow, hge, hh2, h3, Nat.reduceAdd, Nat.reduceMul, Nat.reduceLeDiff]
  rw [if_pos (by first | omega | (simp; omega)), if_pos (by first | omega | (simp; omega)), if_pos (by first | omega | (simp; omega)), if_pos (by first | omega | (simp; omega))]
  exact ⟨_, k3, by simp only [Fits, List.length_append, List.length_cons, List.length_nil, List.length_take]; omega, rfl⟩
theorem one_18 {d : Int} {B E : Nat} (hd : 0 < d ∧ d < 100) (hB : B ≤ 2 ^ 40) (hE : 40 ≤ E) (h : TextAt (d - 1) B E) {G : Hp} {b : Nat} {l : List Int} {k0 : Nat} (hb : b < G.length) (hl : l.length < 2 ^ 40) (hi : okInts l) (hk : k0 ≤ l.length) (hend : ¬ l.length ≤ numK l k0) (hv : numV l k0 40 = 18) : ∃ s k', Fits (3 * B + 60) 0 4 (E + 34) 20 l.length k0 s k' ∧ ev Try.prog ann 60 [.ptr false b 0 0 0, .int .i64 d] (G.set b (tRow l k0)) = some (.val (.str s), G.set b (tRow l k')) := by
  obtain ⟨n1, n2⟩ := numV_lt (l := l) (k := k0) (n := 40) (by omega)
  have h1 := fun L => num_at L G (l := l) (k := k0) 40 hb hl (by omega) (by omega)
  obtain ⟨c1, b1⟩ := numK_le hk
  obtain ⟨t1, u1⟩ := numK_at l k0
  have hrow : (G.set b (tRow l (numK l k0)))[b]? = some (.row 0 [.agg [.sl (l.map (.int .i64)) .no, .int .i64 (numK l k0)]]) := set_at hb
  have hge : ((l.length : Int) ≤ (numK l k0 : Int)) = False := by simp; omega
  have e0 : (d == 0) = false := by simp; omega
  generalize numK l k0 = k1 at c1 b1 t1 u1 h1 hrow hge hend
  generalize numV l k0 40 = v at n1 n2 h1 hv
  have f0 : (v < 6) = False := by simp; omega
  have f1 : (v < 14) = False := by simp; omega
  have f2 : (v == 14) = false := by simp; omega
  have f3 : (v == 15) = false := by simp; omega
  have f4 : (v == 16) = false := by simp; omega
  have f5 : (v == 17) = false := by simp; omega
  have f6 : (v == 18) = true := by simp; omega
  obtain ⟨s2, d2, a2, hh2⟩ := name_at (k := k1) G hb hl
  obtain ⟨c2, b2⟩ := numK_le c1
  obtain ⟨t2, u2⟩ := numK_at l k1
  generalize numK l k1 = k2 at c2 b2 t2 u2 hh2
  rw [fun_some Try.func60 rfl rfl]
  simp only [go_sem, ↓reduceIte, Nat.reduceEqDiff, h1, hrow, hge, e0, f0, f1, f2, f3, f4, f5, f6, hh2, Int.reduceEq, Int.reduceBEq, Int.reduceLE, Int.reduceToNat, Nat.sub_zero, Nat.reduceAdd, Nat.reduceMul, Nat.reduceLeDiff, show (0:Nat) < 2 from by decide, show (1:Nat) < 2 from by decide, show (2:Nat) ≤ 2 ^ 20 from by decide, listA, List.set_cons_zero, List.set_cons_succ]
  rw [if_pos (by first | omega | (simp; omega)), if_pos (by first | omega | (simp; omega))]
  exact ⟨_, k2, by simp only [Fits, List.length_append, List.length_cons, List.length_nil, List.length_take]; omega, rfl⟩
theorem one_c {d : Int} {B E : Nat} (hd : 0 < d ∧ d < 100) (hB : B ≤ 2 ^ 40) (hE : 40 ≤ E) (h : TextAt (d - 1) B E) {G : Hp} {b : Nat} {l : List Int} {k0 : Nat} (hb : b < G.length) (hl : l.length < 2 ^ 40) (hi : okInts l) (hk : k0 ≤ l.length) (hend : ¬ l.length ≤ numK l k0) (hv : 18 < numV l k0 40 ∧ numV l k0 40 < 26) : ∃ s k', Fits (3 * B + 60) 0 4 (E + 34) 20 l.length k0 s k' ∧ ev Try.prog ann 60 [.ptr false b 0 0 0, .int .i64 d] (G.set b (tRow l k0)) = some (.val (.str s), G.set b (tRow l k')) := by
  obtain ⟨n1, n2⟩ := numV_lt (l := l) (k := k0) (n := 40) (by omega)
  have h1 := fun L => num_at L G (l := l) (k := k0) 40 hb hl (by omega) (by omega)
  obtain ⟨c1, b1⟩ := numK_le hk
  obtain ⟨t1, u1⟩ := numK_at l k0
  have hrow : (G.set b (tRow l (numK l k0)))[b]? = some (.row 0 [.agg [.sl (l.map (.int .i64)) .no, .int .i64 (numK l k0)]]) := set_at hb
  have hge : ((l.length : Int) ≤ (numK l k0 : Int)) = False := by simp; omega
  have e0 : (d == 0) = false := by simp; omega
  generalize numK l k0 = k1 at c1 b1 t1 u1 h1 hrow hge hend
  generalize numV l k0 40 = v at n1 n2 h1 hv
  have f0 : (v < 6) = False := by simp; omega
  have f1 : (v < 14) = False := by simp; omega
  have f2 : (v == 14) = false := by simp; omega
  have f3 : (v == 15) = false := by simp; omega
  have f4 : (v == 16) = false := by simp; omega
  have f5 : (v == 17) = false := by simp; omega
  have f6 : (v == 18) = false := by simp; omega
  have f7 : (v < 26) = True := by simp; omega
  obtain ⟨s2, k2, ⟨p1, p2, p3, p5, p6, p7⟩, p4⟩ := plain_ok hd hB hE h [] G b l k1 hb hl hi c1
  rw [fun_some Try.func60 rfl rfl]
  simp only [go_sem, ↓reduceIte, Nat.reduceEqDiff, h1, hrow, hge, e0, f0, f1, f2, f3, f4, f5, f6, f7, p4, Int.reduceEq, Int.reduceBEq, Int.reduceLE, Int.reduceToNat, Nat.sub_zero, Nat.reduceAdd, Nat.reduceMul, Nat.reduceLeDiff, show (0:Nat) < 2 from by decide, show (1:Nat) < 2 from by decide, show (2:Nat) ≤ 2 ^ 20 from by decide, listA, List.set_cons_zero, List.set_cons_succ]
  exact ⟨_, k2, by simp only [Fits, List.length_append, List.length_cons, List.length_nil, List.length_take]; omega, rfl⟩
theorem one_d {d : Int} {B E : Nat} (hd : 0 < d ∧ d < 100) (hB : B ≤ 2 ^ 40) (hE : 40 ≤ E) (h : TextAt (d - 1) B E) {G : Hp} {b : Nat} {l : List Int} {k0 : Nat} (hb : b < G.length) (hl : l.length < 2 ^ 40) (hi : okInts l) (hk : k0 ≤ l.length) (hend : ¬ l.length ≤ numK l k0) (hv : 25 < numV l k0 40) : ∃ s k', Fits (3 * B + 60) 0 4 (E + 34) 20 l.length k0 s k' ∧ ev Try.prog ann 60 [.ptr false b 0 0 0, .int .i64 d] (G.set b (tRow l k0)) = some (.val (.str s), G.set b (tRow l k')) := by
  obtain ⟨n1, n2⟩ := numV_lt (l := l) (k := k0) (n := 40) (by omega)
  have h1 := fun L => num_at L G (l := l) (k := k0) 40 hb hl (by omega) (by omega)
  obtain ⟨c1, b1⟩ := numK_le hk
  obtain ⟨t1, u1⟩ := numK_at l k0
  have hrow : (G.set b (tRow l (numK l k0)))[b]? = some (.row 0 [.agg [.sl (l.map (.int .i64)) .no, .int .i64 (numK l k0)]]) := set_at hb
  have hge : ((l.length : Int) ≤ (numK l k0 : Int)) = False := by simp; omega
  have e0 : (d == 0) = false := by simp; omega
  generalize numK l k0 = k1 at c1 b1 t1 u1 h1 hrow hge hend
  generalize numV l k0 40 = v at n1 n2 h1 hv
  have f0 : (v < 6) = False := by simp; omega
  have f1 : (v < 14) = False := by simp; omega
  have f2 : (v == 14) = false := by simp; omega
  have f3 : (v == 15) = false := by simp; omega
  have f4 : (v == 16) = false := by simp; omega
  have f5 : (v == 17) = false := by simp; omega
  have f6 : (v == 18) = false := by simp; omega
  have f7 : (v < 26) = False := by simp; omega
  obtain ⟨s2, k2, ⟨p1, p2, p3, p5, p6, p7⟩, p4⟩ := control_ok hd hB hE h (k := v) [] G b l k1 hb hl hi c1
  rw [fun_some Try.func60 rfl rfl]
  simp only [go_sem, ↓reduceIte, Nat.reduceEqDiff, h1, hrow, hge, e0, f0, f1, f2, f3, f4, f5, f6, f7, p4, Int.reduceEq, Int.reduceBEq, Int.reduceLE, Int.reduceToNat, Nat.sub_zero, Nat.reduceAdd, Nat.reduceMul, Nat.reduceLeDiff, show (0:Nat) < 2 from by decide, show (1:Nat) < 2 from by decide, show (2:Nat) ≤ 2 ^ 20 from by decide, listA, List.set_cons_zero, List.set_cons_succ]
  exact ⟨_, k2, by simp only [Fits, List.length_append, List.length_cons, List.length_nil, List.length_take]; omega, rfl⟩
theorem one_ok {d : Int} {B E : Nat} (hd : 0 < d ∧ d < 100) (hB : B ≤ 2 ^ 40) (hE : 40 ≤ E) (h : TextAt (d - 1) B E) : TextC 60 [.int .i64 d] (3 * B + 60) 0 4 (E + 34) 20 := by
  intro L G b l k0 hb hl hi hk
  by_cases hend : l.length ≤ numK l k0
  · obtain ⟨s, h1, h2⟩ := one_words d G (k := k0) hb hl hk (.inr hend)
    obtain ⟨c1, b1⟩ := numK_le hk
    obtain ⟨t1, u1⟩ := numK_at l k0
    exact ⟨s, _, by simp only [Fits]; omega, h2 L⟩
  · have : ∃ s k', Fits (3 * B + 60) 0 4 (E + 34) 20 l.length k0 s k' ∧ ev Try.prog ann 60 [.ptr false b 0 0 0, .int .i64 d] (G.set b (tRow l k0)) = some (.val (.str s), G.set b (tRow l k')) := by
      have e : numV l k0 40 < 6 ∨ (6 ≤ numV l k0 40 ∧ numV l k0 40 < 14) ∨ numV l k0 40 = 14 ∨ numV l k0 40 = 15 ∨ numV l k0 40 = 16 ∨ numV l k0 40 = 17 ∨ numV l k0 40 = 18 ∨ (18 < numV l k0 40 ∧ numV l k0 40 < 26) ∨ 25 < numV l k0 40 := by omega
      rcases e with e | e | e | e | e | e | e | e | e
      · exact one_a hd hB hE h hb hl hi hk hend e
      · exact one_b hd hB hE h hb hl hi hk hend e
      · exact one_14 hd hB hE h hb hl hi hk hend e
      · exact one_15 hd hB hE h hb hl hi hk hend e
      · exact one_16 hd hB hE h hb hl hi hk hend e
      · exact one_17 hd hB hE h hb hl hi hk hend e
      · exact one_18 hd hB hE h hb hl hi hk hend e
      · exact one_c hd hB hE h hb hl hi hk hend e
      · exact one_d hd hB hE h hb hl hi hk hend e
    obtain ⟨s, k', h1, h4⟩ := this
    exact ⟨s, k', h1, call_get rfl rfl rfl h4⟩
end Ev

