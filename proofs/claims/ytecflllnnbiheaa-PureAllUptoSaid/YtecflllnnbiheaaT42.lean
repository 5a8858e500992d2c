/- Names: sorted, each once (the program's way). -/
import Derived.Test.YtecflllnnbiheaaT41
import Derived.Test.YtecflllnnbiheaaEvP
set_option maxHeartbeats 4000000
set_option linter.unusedVariables false
set_option linter.unusedSimpArgs false
namespace Ev
open Go Go.Proofs
set_option maxRecDepth 10000
theorem names_all : ∀ (N : Nat) (n : NodeT), tsz n ≤ N → NamesOk n
  | 0, n, h => by have := tsz_pos n; omega
  | N + 1, .mk k s l, h => names_step k s l fun x hx => names_all N x (by
      rw [tsz] at h
      obtain ⟨i, hi⟩ := List.getElem?_of_mem hx
      have := tszs_get hi
      omega)
def strsA (l : List (List UInt8)) : AV := .sl (l.map .str) .no
theorem strsOf_map : ∀ l : List (List UInt8), strsOf (l.map .str) = some l
  | [] => rfl
  | x :: l => by rw [List.map_cons, strsOf, strsOf_map l]; rfl
theorem noHs_strs (l : List (List UInt8)) : ∀ v ∈ l.map AV.str, hasHs v = false := fun v hv => by
  obtain ⟨x, _, rfl⟩ := List.mem_map.1 hv
  rfl
theorem handAs_strs : ∀ l : List (List UInt8), handAs true (l.map .str) = l.map .str
  | [] => rfl
  | x :: l => by rw [List.map_cons, handAs, handAs_strs l]; rfl
theorem deep_strs (L G : Hp) (both : Bool) (n : Nat) (l : List (List UInt8)) : deepS both L G n (l.map .str) = l.map .str := by rw [deepS_no (noHs_strs l), handAs_strs]
/-- the names, sorted, each once -/
def Names (n : NodeT) : List (List UInt8) := compS (sortS (namesF n))
theorem pureNames_call (n : NodeT) (hb : tsz n ≤ 2 ^ 30) (L G : Hp) : callA (cfg Try.prog ann) 27 [nodeA n] L G = some (.val (strsA (Names n)), L, G) := by
  suffices hh : ∃ G', ev Try.prog ann 27 [nodeA n] [] = some (.val (strsA (Names n)), G') by
    obtain ⟨G', h⟩ := hh
    obtain ⟨k, s, l⟩ := n
    refine call_pure rfl rfl ?_ ?_ (G' := G') ?_
    · simp only [nodeA, handAs, handA, pfs, refss, AV.refs, Tok.refs, Tok.drop, if_true, refs_nodes, Bool.and_self]
    · simp only [strsA, AV.pf, AV.refs, Tok.refs, refs_strs', Bool.and_self]
    · simp only [nodeA, handAs, handA, Tok.drop, if_true] at h ⊢
      exact h
  obtain ⟨v, G1, c1, c2, c3⟩ := names_all _ n (Nat.le_refl _) hb []
  have hlen := namesF_len n
  unfold Names
  generalize namesF n = l at c2 hlen
  have hn : ∃ k s l, nodeA n = .agg [.int .i64 k, .str s, .sl l .no] := by obtain ⟨k, s, l⟩ := n; exact ⟨k, s, _, by rw [nodeA]⟩
  obtain ⟨k, s, ln, hn⟩ := hn
  rw [fun_some Try.func27 rfl rfl]
  rw [hn] at c1 ⊢
  have hsort : ∀ args L G, callA (cfg Try.prog ann) 48 args L G = (sortA args L G).map fun (v, L', G') => (.val v, L', G') := fun _ _ _ => rfl
  have hcomp : ∀ args L G, callA (cfg Try.prog ann) 49 args L G = (compactA args L G).map fun (v, L', G') => (.val v, L', G') := fun _ _ _ => rfl
  rcases c2 with ⟨rfl, rfl⟩ | ⟨hne, b, g, hb1, rfl, hrow⟩
  · exact ⟨_, by simp only [go_sem, Nat.reduceEqDiff, Nat.reduceAdd, Nat.reduceLeDiff, c1, hsort, hcomp, sortA, compactA, show ((3 : Nat) = 0) = False from by decide] <;> rfl⟩
  · have hl0 : l.length ≠ 0 := by simpa using hne
    have hbl := (List.getElem?_eq_some_iff.1 hrow).1
    have s1 : ∀ L, sortA [.hs false b g 0 l.length] L G1 = some (.tup [], L, G1.set b (.row g ((sortS l).map .str))) := fun L => by
      have hlen' := sortS_len l
      simp only [sortA, rowStrA, hpOf, Bool.false_eq_true, if_false, hrow, true_and, Nat.zero_add, List.length_map, List.drop_zero, setHp, List.take_zero, List.nil_append]
      rw [if_pos ⟨Nat.le_refl _, hl0, by omega⟩, List.take_of_length_le (by simp), strsOf_map]
      simp only [Option.map_some]
      rw [List.drop_of_length_le (by simp [hlen']), List.append_nil]
    have hrow2 : (G1.set b (.row g ((sortS l).map AV.str)))[b]? = some (.row g ((sortS l).map .str)) := by rw [List.getElem?_set, if_pos rfl, if_pos hbl]
    generalize G1.set b (.row g ((sortS l).map AV.str)) = G2 at s1 hrow2
    have hlen' := sortS_len l
    have s2 : ∀ L, compactA [.hs false b g 0 l.length] L G2 = some (.hs false b g 0 (compS (sortS l)).length, L, G2.set b (.row g ((compS (sortS l) ++ List.replicate ((sortS l).length - (compS (sortS l)).length) []).map .str))) := fun L => by
      have hc := compS_len (sortS l)
      simp only [compactA, rowStrA, hpOf, Bool.false_eq_true, if_false, hrow2, true_and, Nat.zero_add, List.length_map, List.drop_zero, setHp, List.take_zero, List.nil_append]
      rw [if_pos ⟨by omega, hl0, by omega⟩, List.take_of_length_le (by simp [hlen']), strsOf_map]
      simp only [Option.map_some]
      rw [List.drop_of_length_le (by simp; omega), List.append_nil]
    have hrow3 : (G2.set b (.row g ((compS (sortS l) ++ List.replicate ((sortS l).length - (compS (sortS l)).length) []).map AV.str)))[b]? = some (.row g ((compS (sortS l) ++ List.replicate ((sortS l).length - (compS (sortS l)).length) []).map .str)) := by
      rw [List.getElem?_set, if_pos rfl, if_pos (List.getElem?_eq_some_iff.1 hrow2).1]
    generalize G2.set b (.row g ((compS (sortS l) ++ List.replicate ((sortS l).length - (compS (sortS l)).length) []).map AV.str)) = G3 at s2 hrow3
    have hlv : ∀ L, leave true L G3 (.hs false b g 0 (compS (sortS l)).length) = strsA (compS (sortS l)) := fun L => by
      have he : elemsOf L G3 (.hs false b g 0 (compS (sortS l)).length) = some ((compS (sortS l)).map .str) := by
        simp only [elemsOf, hpOf, Bool.false_eq_true, if_false, hrow3, true_and, Nat.zero_add, List.length_map, List.drop_zero]
        rw [if_pos (by simp), List.map_append, List.take_append_of_le_length (by simp), List.take_of_length_le (by simp)]
      simp only [leave, Bool.or_true, if_true, he, deep_strs, strsA]
    exact ⟨_, by simp only [go_sem, Nat.reduceEqDiff, Nat.reduceAdd, Nat.reduceLeDiff, c1, hsort, hcomp, s1, s2, hlv, show ((3 : Nat) = 0) = False from by decide] <;> rfl⟩
end Ev
