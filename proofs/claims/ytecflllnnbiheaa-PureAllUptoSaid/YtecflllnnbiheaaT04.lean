/- Texts by numbers: the next number. -/
import Derived.Test.YtecflllnnbiheaaT01
set_option maxHeartbeats 4000000
set_option linter.unusedVariables false
set_option linter.unusedSimpArgs false
namespace Ev
open Go Go.Proofs
set_option maxRecDepth 10000
/-- a text under way: its numbers, which is next -/
def tRow (l : List Int) (k : Nat) : Blk := .row 0 [.agg [.sl (l.map (.int .i64)) .no, .int .i64 k]]
theorem num_stop (G : Hp) (b : Nat) (l : List Int) (k : Nat) (n : Int) (hb : G[b]? = some (tRow l k)) (hk : l.length ≤ k) : ev Try.prog ann 61 [.ptr false b 0 0 0, .int .i64 n] G = some (.val (.int .i64 0), G) := by
  rw [fun_some Try.func61 rfl rfl]
  unfold tRow at hb
  have h1 : ((l.length : Int) ≤ (k : Int)) := by omega
  simp only [go_sem, Nat.reduceEqDiff, hb, h1, Nat.reduceAdd, Nat.reduceLeDiff]
theorem num_go (G : Hp) (b : Nat) (l : List Int) (k : Nat) (n : Int) (hb : G[b]? = some (tRow l k)) (hk : k < l.length) (hl : l.length < 2 ^ 40) (hn : 0 < n) (hn2 : n < 2 ^ 40) :
    ev Try.prog ann 61 [.ptr false b 0 0 0, .int .i64 n] G = some (.val (.int .i64 (l.getD k 0 % n)), G.set b (tRow l (k + 1))) := by
  rw [fun_some Try.func61 rfl rfl]
  unfold tRow at hb ⊢
  have h1 : ¬ ((l.length : Int) ≤ (k : Int)) := by omega
  have hlt : b < G.length := (List.getElem?_eq_some_iff.1 hb).1
  have hw : IntKind.i64.wrap ((k : Int) + 1) = ((k + 1 : Nat) : Int) := by rw [wrap_in] <;> omega
  have hw2 : IntKind.i64.wrap (((k + 1 : Nat) : Int) - 1) = (k : Int) := by rw [wrap_in] <;> omega
  have hx : (l.map (AV.int .i64))[k]? = some (.int .i64 (l.getD k 0)) := by rw [List.getElem?_map, List.getElem?_eq_getElem hk]; simp [List.getD, hk]
  simp only [go_sem, Nat.reduceEqDiff, hb, h1, hw, hw2, hx, Nat.reduceAdd, Nat.reduceLeDiff, AV.put, List.set_cons_zero, List.getElem?_set, hlt, place_call, hn, hn2]
end Ev

/- Texts by numbers: names. -/
namespace Ev
open Go Go.Proofs
set_option maxRecDepth 10000
/-- the next number's value, where it stands then -/
def numV (l : List Int) (k : Nat) (n : Int) : Int := if k < l.length then l.getD k 0 % n else 0
def numK (l : List Int) (k : Nat) : Nat := if k < l.length then k + 1 else k
theorem numV_lt {l : List Int} {k : Nat} {n : Int} (hn : 0 < n) : 0 ≤ numV l k n ∧ numV l k n < n := by
  unfold numV
  split
  · exact ⟨Int.emod_nonneg _ (by omega), Int.emod_lt_of_pos _ hn⟩
  · omega
theorem numK_le {l : List Int} {k : Nat} (h : k ≤ l.length) : numK l k ≤ l.length ∧ k ≤ numK l k := by unfold numK; split <;> omega
theorem numK_at (l : List Int) (k : Nat) : (k < l.length → numK l k = k + 1) ∧ (l.length ≤ k → numK l k = k) := by
  unfold numK
  split <;> omega
theorem num_call (L G : Hp) (b : Nat) (l : List Int) (k : Nat) (n : Int) (hb : G[b]? = some (tRow l k)) (hl : l.length < 2 ^ 40) (hn : 0 < n) (hn2 : n < 2 ^ 40) :
    callA (cfg Try.prog ann) 61 [.ptr false b 0 0 0, .int .i64 n] L G = some (.val (.int .i64 (numV l k n)), L, G.set b (tRow l (numK l k))) := by
  refine call_sees rfl rfl rfl rfl ?_
  show ev Try.prog ann _ [.ptr false b 0 0 0, .int .i64 n] G = _
  unfold numV numK
  by_cases hk : k < l.length
  · rw [if_pos hk, if_pos hk]
    exact num_go G b l k n hb hk hl hn hn2
  · rw [if_neg hk, if_neg hk, num_stop G b l k n hb (by omega)]
    have : G.set b (tRow l k) = G := List.ext_getElem? fun i => by
      rw [List.getElem?_set]
      by_cases h : b = i
      · subst h; rw [if_pos rfl, hb, if_pos (List.getElem?_eq_some_iff.1 hb).1]
      · rw [if_neg h]
    rw [this]
theorem name_call (G : Hp) (b : Nat) (l : List Int) (k : Nat) (hb : G[b]? = some (tRow l k)) (hl : l.length < 2 ^ 40) :
    ∃ s, 1 ≤ s.length ∧ s.length ≤ 2 ∧ ∀ L, callA (cfg Try.prog ann) 79 [.ptr false b 0 0 0] L G = some (.val (.str s), L, G.set b (tRow l (numK l k))) := by
  obtain ⟨h1, h2⟩ := numV_lt (l := l) (k := k) (n := 8) (by omega)
  have hk : (numV l k 8).toNat < 8 := by omega
  have h0 : ¬ numV l k 8 < 0 := by omega
  have : ∀ j : Fin 8, ∃ s, 1 ≤ s.length ∧ s.length ≤ 2 ∧ [AV.str [97], AV.str [98], AV.str [99], AV.str [100], AV.str [101], AV.str [102], AV.str [103], AV.str [118, 49]][j.1]? = some (.str s) := by
    intro j
    match j with
    | 0 => exact ⟨_, by decide, by decide, rfl⟩
    | 1 => exact ⟨_, by decide, by decide, rfl⟩
    | 2 => exact ⟨_, by decide, by decide, rfl⟩
    | 3 => exact ⟨_, by decide, by decide, rfl⟩
    | 4 => exact ⟨_, by decide, by decide, rfl⟩
    | 5 => exact ⟨_, by decide, by decide, rfl⟩
    | 6 => exact ⟨_, by decide, by decide, rfl⟩
    | 7 => exact ⟨_, by decide, by decide, rfl⟩
  obtain ⟨s, s1, s2, hs⟩ := this ⟨_, hk⟩
  simp only at hs
  refine ⟨s, s1, s2, fun L => call_sees rfl rfl rfl rfl ?_⟩
  show ev Try.prog ann _ [.ptr false b 0 0 0] G = _
  rw [fun_some Try.func79 rfl rfl]
  have hc := fun L => num_call L G b l k 8 hb hl (by omega) (by omega)
  simp only [go_sem, Nat.reduceEqDiff, hc, h0, hk, hs, Nat.reduceMul, Nat.reduceAdd, Nat.reduceLeDiff]
end Ev

/- Texts by numbers: some text, not too long. -/
namespace Ev
open Go Go.Proofs
set_option maxRecDepth 10000
/-- some text: so long at most; 'lo', 'hi': against the numbers taken, while numbers last; 'E': in any case; 'X': where there are none left; the place goes on -/
def Fits (B lo hi E X n k : Nat) (s : List UInt8) (k' : Nat) : Prop := s.length ≤ B ∧ k ≤ k' ∧ k' ≤ n ∧ (k < n → k' < n → s.length + lo ≤ 16 * (k' - k) + hi) ∧ s.length ≤ 16 * (k' - k) + E ∧ (n ≤ k → s.length ≤ X)
/-- a method of the text under way -/
def TextC (f : Nat) (args : List AV) (B lo hi E X : Nat) : Prop := ∀ (L G : Hp) (b : Nat) (l : List Int) (k : Nat), b < G.length → l.length < 2 ^ 40 → okInts l → k ≤ l.length →
  ∃ s k', Fits B lo hi E X l.length k s k' ∧ callA (cfg Try.prog ann) f (.ptr false b 0 0 0 :: args) L (G.set b (tRow l k)) = some (.val (.str s), L, G.set b (tRow l k'))
theorem set_at {G : Hp} {b : Nat} {x : Blk} (h : b < G.length) : (G.set b x)[b]? = some x := by simp [h]
theorem num_at (L G : Hp) {b : Nat} {l : List Int} {k : Nat} (n : Int) (hb : b < G.length) (hl : l.length < 2 ^ 40) (hn : 0 < n) (hn2 : n < 2 ^ 40) :
    callA (cfg Try.prog ann) 61 [.ptr false b 0 0 0, .int .i64 n] L (G.set b (tRow l k)) = some (.val (.int .i64 (numV l k n)), L, G.set b (tRow l (numK l k))) := by
  rw [num_call L _ b l k n (set_at hb) hl hn hn2, List.set_set]
theorem name_at (G : Hp) {b : Nat} {l : List Int} {k : Nat} (hb : b < G.length) (hl : l.length < 2 ^ 40) :
    ∃ s, 1 ≤ s.length ∧ s.length ≤ 2 ∧ ∀ L, callA (cfg Try.prog ann) 79 [.ptr false b 0 0 0] L (G.set b (tRow l k)) = some (.val (.str s), L, G.set b (tRow l (numK l k))) := by
  obtain ⟨s, h1, h2, h⟩ := name_call _ b l k (set_at (G := G) (x := tRow l k) hb) hl
  exact ⟨s, h1, h2, fun L => by rw [h L, List.set_set]⟩
theorem words2 (x y : Int) (hx : -9223372036854775808 ≤ x ∧ x ≤ 9223372036854775807) (hy : -9223372036854775808 ≤ y ∧ y ≤ 9223372036854775807) :
    ∃ s, s.length ≤ 20 ∧ ∀ (L G : Hp) (t : Tok), callA (cfg Try.prog ann) 78 [.sl [.int .i64 x, .int .i64 y] t] L G = some (.val (.str s), L, G) := by
  obtain ⟨s, _, _, hs, h⟩ := words_ok [x, y] (fun n hn => by rcases List.mem_cons.1 hn with rfl | hn; exact hx; rcases List.mem_cons.1 hn with rfl | hn; exact hy; cases hn)
  exact ⟨s, by simp only [List.length_cons, List.length_nil] at hs; omega, fun L G t => call_pure rfl rfl rfl rfl h⟩
end Ev

/- Texts by numbers: one thing of a text. -/
namespace Ev
open Go Go.Proofs
set_option maxRecDepth 10000
theorem call_get {k : Nat} {args : List AV} {L G G' : Hp} {v : AV} (hs : ann.sees k = true) (ha : noLs (handAs false args) = true) (hv : v.noL = true) (h : ev Try.prog ann k (handAs false args) G = some (.val v, G')) (ho : ann.orc k = none := by rfl) : callA (cfg Try.prog ann) k args L G = some (.val v, L, G') :=
  call_sees ho hs ha hv h
theorem numV_in {l : List Int} {k : Nat} {n : Int} (hn : 0 < n) (hn2 : n < 2 ^ 40) : -9223372036854775808 ≤ numV l k n ∧ numV l k n ≤ 9223372036854775807 := by
  have := numV_lt (l := l) (k := k) hn
  omega
theorem wrap_range (n : Int) : -9223372036854775808 ≤ IntKind.i64.wrap n ∧ IntKind.i64.wrap n ≤ 9223372036854775807 := by
  unfold IntKind.wrap
  simp [IntKind.bits, IntKind.signed]
  constructor <;> split <;> omega
/-- no text under way any more, or no depth: two words -/
theorem one_words (d : Int) (G : Hp) {b : Nat} {l : List Int} {k : Nat} (hb : b < G.length) (hl : l.length < 2 ^ 40) (hk : k ≤ l.length) (h : d = 0 ∨ l.length ≤ numK l k) :
    ∃ s, s.length ≤ 20 ∧ ∀ L, callA (cfg Try.prog ann) 60 [.ptr false b 0 0 0, .int .i64 d] L (G.set b (tRow l k)) = some (.val (.str s), L, G.set b (tRow l (numK l k))) := by
  obtain ⟨s, hs, hw⟩ := words2 (numV l k 40) (IntKind.i64.wrap ((numV l k 40).tdiv 3)) (numV_in (by omega) (by omega)) (wrap_range _)
  refine ⟨s, hs, fun L => call_get rfl rfl rfl ?_⟩
  show ev Try.prog ann _ [.ptr false b 0 0 0, .int .i64 d] _ = _
  rw [fun_some Try.func60 rfl rfl]
  have hc := fun L => num_at L G (l := l) (k := k) 40 hb hl (by omega) (by omega)
  by_cases h0 : d = 0
  · subst h0
    simp only [go_sem, ↓reduceIte, Nat.reduceEqDiff, hc, hw, Int.reduceEq, Int.reduceBEq, Nat.reduceMul, Nat.reduceAdd, Nat.reduceLeDiff, Nat.reduceLT, Nat.reducePow, Nat.lt_succ_self, show (0:Nat) < 2 from by decide, show (1:Nat) < 2 from by decide, show (2:Nat) ≤ 2 ^ 20 from by decide, listA, List.set_cons_zero, List.set_cons_succ]
  · have h1 : l.length ≤ numK l k := h.resolve_left h0
    have e0 : (d == 0) = false := by simpa using h0
    have hrow : (G.set b (tRow l (numK l k)))[b]? = some (.row 0 [.agg [.sl (l.map (.int .i64)) .no, .int .i64 (numK l k)]]) := set_at hb
    have hge : ((l.length : Int) ≤ (numK l k : Int)) := by omega
    simp only [go_sem, ↓reduceIte, Nat.reduceEqDiff, hc, hw, e0, hrow, hge, Int.reduceEq, Nat.reduceAdd, Nat.reduceLeDiff, show (0:Nat) < 2 from by decide, show (1:Nat) < 2 from by decide, show (2:Nat) ≤ 2 ^ 20 from by decide, listA, List.set_cons_zero, List.set_cons_succ]
end Ev

/- Texts by numbers: a call of a function of texts. -/
namespace Ev
open Go Go.Proofs
set_option maxRecDepth 10000
def strLe (B : Nat) : AV → Bool
  | .str s => decide (s.length ≤ B)
  | _ => false
theorem lits_at (cs : List AV) (B i : Nat) (hB : cs.all (strLe B) = true) (hi : i < cs.length) : ∃ u, cs[i]? = some (.str u) ∧ u.length ≤ B := by
  have h := List.all_eq_true.1 hB cs[i] (List.getElem_mem hi)
  rw [List.getElem?_eq_getElem hi]
  cases hc : cs[i] with
  | str s => rw [hc] at h; exact ⟨s, rfl, by simpa [strLe] using h⟩
  | _ => rw [hc] at h; cases h
theorem text_of {f : Nat} {args : List AV} {B lo hi E X : Nat} (hs : ann.sees f = true) (ha : ∀ b, handAs false (.ptr false b 0 0 0 :: args) = .ptr false b 0 0 0 :: args ∧ noLs (.ptr false b 0 0 0 :: args) = true)
    (h : ∀ (G : Hp) (b : Nat) (l : List Int) (k : Nat), b < G.length → l.length < 2 ^ 40 → okInts l → k ≤ l.length →
      ∃ s k', Fits B lo hi E X l.length k s k' ∧ ev Try.prog ann f (.ptr false b 0 0 0 :: args) (G.set b (tRow l k)) = some (.val (.str s), G.set b (tRow l k'))) (ho : ann.orc f = none := by rfl) : TextC f args B lo hi E X := by
  intro L G b l k hb hl hi hk
  obtain ⟨s, k', h1, h4⟩ := h G b l k hb hl hi hk
  exact ⟨s, k', h1, call_get hs (by rw [(ha b).1]; exact (ha b).2) rfl (by rw [(ha b).1]; exact h4) ho⟩
def TextAt (d : Int) (B E : Nat) : Prop := TextC 33 [.int .i64 d] B 12 0 E 1
theorem plain_ok {d : Int} {B E : Nat} (hd : 0 < d ∧ d < 100) (hB : B ≤ 2 ^ 40) (hE : 40 ≤ E) (h : TextAt (d - 1) B E) : TextC 80 [.int .i64 d] (B + 40) 0 20 (E + 34) 100 := by
  refine text_of rfl (fun b => ⟨rfl, rfl⟩) fun G b l k hb hl hi hk => ?_
  obtain ⟨s, k1, ⟨h1, h2, h3, f1, f2, f3⟩, h4⟩ := h [] G b l k hb hl hi hk
  obtain ⟨n1, n2⟩ := numV_lt (l := l) (k := k1) (n := 22) (by omega)
  obtain ⟨m1, m2⟩ := numK_le h3
  obtain ⟨m3, m4⟩ := numK_at l k1
  have hw : IntKind.i64.wrap (d - 1) = d - 1 := by rw [wrap_in] <;> omega
  have hc := fun L => num_at L G (l := l) (k := k1) 22 hb hl (by omega) (by omega)
  have h0 : ¬ numV l k1 22 < 0 := by omega
  have hlt : (numV l k1 22).toNat < 22 := by omega
  rw [fun_some Try.func80 rfl rfl]
  simp only [go_sem, ↓reduceIte, Nat.reduceEqDiff, hw, h4, hc, h0, hlt, Int.reduceEq, Nat.reduceAdd, Nat.reduceMul, Nat.reduceLeDiff]
  generalize hq : (_ : List AV)[(numV l k1 22).toNat]? = q
  obtain ⟨u, rfl, hul⟩ : ∃ u, q = some (.str u) ∧ u.length ≤ 20 := by rw [← hq]; exact lits_at _ 20 _ (by decide) hlt
  clear hq
  simp only [go_sem, ↓reduceIte, Nat.reduceEqDiff]
  rw [if_pos (by simp; omega), if_pos (by simp; omega), if_pos (by simp; omega)]
  exact ⟨_, _, by simp only [Fits, List.length_append, List.length_cons, List.length_nil]; omega, rfl⟩
end Ev
