/- PureAll: the law's own code. -/
import Derived.Test.YtecflllnnbiheaaT46
import Derived.Test.YtecflllnnbiheaaT40
import Derived.Test.YtecflllnnbiheaaT23
import Derived.Test.YtecflllnnbiheaaT11
import Derived.Test.YtecflllnnbiheaaR12
import Derived.Test.YtecflllnnbiheaaEv18
import Derived.KernelRfl
set_option maxHeartbeats 4000000
set_option linter.unusedVariables false
set_option linter.unusedSimpArgs false
set_option maxHeartbeats 4000000
namespace Ev
open Go Go.Proofs
set_option maxRecDepth 100000
theorem awake16 : ∃ G', ev Try.prog ann 25 [] [] = some (.val (.bool true), G') := true_of_fuel 300 40 _ (by kernel_rfl)
theorem awake16_call (L G : Hp) : callA (cfg Try.prog ann) 25 [] L G = some (.val (.bool true), L, G) := by
  obtain ⟨G', h⟩ := awake16
  exact call_pure rfl rfl rfl rfl h
theorem Names_len (n : NodeT) (hb : tsz n ≤ 2 ^ 30) : (Names n).length < 2 ^ 40 := by
  have h1 := compS_len (sortS (namesF n))
  have h2 := sortS_len (namesF n)
  have h3 := namesF_len n
  unfold Names
  omega
theorem evP_true (x : NodeT) (l : List Int) (hx : tsz x ≤ 2 ^ 30) (hi : okInts l) (hl : l.length ≤ 1048576) : ∃ G', ev Try.prog ann 5 [nodeA x, intsA l] [] = some (.val (.bool true), G') := by
  have haw := awake16_call
  obtain ⟨s0, hs0, hgen⟩ := gen_call l hi (by omega)
  obtain ⟨n, e, hpar, hne⟩ := parse_call s0 (by omega)
  obtain ⟨fb, hfew⟩ := fewNode_call x (by omega)
  have x1 := fun L G => pureNames_call x hx L G
  have x2 := fun L G => refNames16_call x hx L G
  have x3 := closed_all _ x (Nat.le_refl _) hx
  have x4 := refClosed_all _ x (Nat.le_refl _) hx
  have x5 := fun L G => sameS_call (Names x) (Names x) (Names_len x hx) (Names_len x hx) L G
  rw [beq_self_eq_true] at x5
  generalize closedF x = cx at x3 x4
  generalize Names x = nx at x1 x2 x5
  obtain ⟨kx, sx, lx, hxn⟩ : ∃ k s l, nodeA x = .agg [.int .i64 k, .str s, .sl (nodesA l) .no] := by obtain ⟨k, s, l⟩ := x; exact ⟨k, s, l, by rw [nodeA]⟩
  rw [hxn] at hfew x1 x2 x3 x4 ⊢
  rw [fun_some Try.func5 rfl rfl]
  simp only [intsA, strsA] at x1 x2 x5 ⊢
  cases fb with
  | false => exact ⟨_, by simp only [go_sem, Nat.reduceEqDiff, hfew, haw, refs_ints, refs_nodes, Nat.reduceAdd, Nat.reduceLeDiff, Nat.reduceLT, Nat.one_ne_zero, show ((3 : Nat) = 0) = False from by decide] <;> rfl⟩
  | true =>
    by_cases e0 : e = 0
    · subst e0
      obtain ⟨n1, n2⟩ := hne rfl
      have hn : tsz n ≤ 2 ^ 30 := by omega
      have c1 := fun L G => pureNames_call n hn L G
      have c2 := fun L G => refNames16_call n hn L G
      have c3 := closed_all _ n (Nat.le_refl _) hn
      have c4 := refClosed_all _ n (Nat.le_refl _) hn
      have c5 := fun L G => sameS_call (Names n) (Names n) (Names_len n hn) (Names_len n hn) L G
      rw [beq_self_eq_true] at c5
      generalize closedF n = cn at c3 c4
      generalize Names n = nn at c1 c2 c5
      obtain ⟨kn, sn, ln, hnn⟩ : ∃ k s l, nodeA n = .agg [.int .i64 k, .str s, .sl (nodesA l) .no] := by obtain ⟨k, s, l⟩ := n; exact ⟨k, s, l, by rw [nodeA]⟩
      rw [hnn] at hpar c1 c2 c3 c4
      simp only [strsA] at c1 c2 c5
      have e9 : ((0 : Int) != 0) = false := rfl
      exact ⟨_, by simp only [go_sem, Nat.reduceEqDiff, hfew, haw, hgen, hpar, e9, x1, x2, x3, x4, x5, c1, c2, c3, c4, c5, refs_ints, refs_nodes, refs_strs', bne_self_eq_false, Nat.reduceAdd, Nat.reduceLeDiff, Nat.reduceLT, Nat.one_ne_zero, show ((3 : Nat) = 0) = False from by decide] <;> rfl⟩
    · have e9 : (e != 0) = true := by simpa using e0
      obtain ⟨kn, sn, ln, hnn⟩ : ∃ k s l, nodeA n = .agg [.int .i64 k, .str s, .sl (nodesA l) .no] := by obtain ⟨k, s, l⟩ := n; exact ⟨k, s, l, by rw [nodeA]⟩
      rw [hnn] at hpar
      exact ⟨_, by simp only [go_sem, Nat.reduceEqDiff, hfew, haw, hgen, hpar, e9, x1, x2, x3, x4, x5, refs_ints, refs_nodes, refs_strs', bne_self_eq_false, Nat.reduceAdd, Nat.reduceLeDiff, Nat.reduceLT, Nat.one_ne_zero, show ((3 : Nat) = 0) = False from by decide] <;> rfl⟩
end Ev
