/- Codes that may be: both ways say the same. -/
import Derived.Test.YtecflllnnbiheaaT35
set_option maxHeartbeats 4000000
set_option linter.unusedVariables false
set_option linter.unusedSimpArgs false
namespace Ev
open Go Go.Proofs
set_option maxRecDepth 10000
/-- whether a code may be; how deep its piles are -/
def soundF (c : CodeT) : Bool := (depthF c).isSome
def deepF (c : CodeT) : Int := (depthF c).getD 0
theorem soundCheck_call (c : CodeT) (hc : OkCode c) (L G : Hp) : callA (cfg Try.prog ann) 19 [codeA c] L G = some (.val (.bool (soundF c)), L, G) := by
  suffices hh : ∃ G', ev Try.prog ann 19 [codeA c] [] = some (.val (.bool (soundF c)), G') by
    obtain ⟨G', h2⟩ := hh
    refine call_pure rfl rfl ?_ rfl (G' := G') h2
    simp only [codeA, handAs, handA, pfs, refss, AV.refs, Tok.drop, Tok.refs, refs_blocks, if_true, Bool.and_self]
  have h := fun L G => check_call c hc L G
  unfold soundF
  simp only [codeA] at h ⊢
  rw [fun_some Try.func19 rfl rfl]
  exact ⟨_, by simp only [go_sem, Nat.reduceEqDiff, h, refs_blocks, Nat.reduceAdd, Nat.reduceLeDiff, Nat.one_ne_zero] <;> rfl⟩
theorem soundDepth_call (c : CodeT) (hc : OkCode c) (L G : Hp) : callA (cfg Try.prog ann) 20 [codeA c] L G = some (.val (.int .i64 (deepF c)), L, G) := by
  suffices hh : ∃ G', ev Try.prog ann 20 [codeA c] [] = some (.val (.int .i64 (deepF c)), G') by
    obtain ⟨G', h2⟩ := hh
    refine call_pure rfl rfl ?_ rfl (G' := G') h2
    simp only [codeA, handAs, handA, pfs, refss, AV.refs, Tok.drop, Tok.refs, refs_blocks, if_true, Bool.and_self]
  have h := fun L G => check_call c hc L G
  unfold deepF
  simp only [codeA] at h ⊢
  rw [fun_some Try.func20 rfl rfl]
  exact ⟨_, by simp only [go_sem, Nat.reduceEqDiff, h, refs_blocks, Nat.reduceAdd, Nat.reduceLeDiff, Nat.one_ne_zero] <;> rfl⟩
theorem refDepth_call (c : CodeT) (hc : OkCode c) (L G : Hp) : callA (cfg Try.prog ann) 21 [codeA c] L G = some (.val (.int .i64 (deepF c)), L, G) := by
  suffices hh : ∃ G', ev Try.prog ann 21 [codeA c] [] = some (.val (.int .i64 (deepF c)), G') by
    obtain ⟨G', h2⟩ := hh
    refine call_pure rfl rfl ?_ rfl (G' := G') h2
    simp only [codeA, handAs, handA, pfs, refss, AV.refs, Tok.drop, Tok.refs, refs_blocks, if_true, Bool.and_self]
  have hops := fun L G => refOps_call c hc.1 L G
  have hcl := hc.1
  simp only [codeA] at hops ⊢
  rw [fun_some Try.func21 rfl rfl]
  simp only [go_sem, Nat.reduceEqDiff, Nat.reduceAdd, Nat.reduceLeDiff, Nat.one_ne_zero]
  generalize hw : loopW _ _ _ _ _ _ = w
  obtain ⟨ou, rfl, hq⟩ : ∃ ou, w = some ou ∧ ((∃ (most : Int), ou = (.exit 0, [(1, .ptr true 0 0 0 0), (3, .int .i64 most)], [rowC c], []) ∧ depthL c.length c 0 0 = some most) ∨ (ou = (.ret, [(2, .int .i64 0)], [rowC c], []) ∧ depthL c.length c 0 0 = none)) := by
    rw [← hw]
    clear hw
    refine loop_ex (σ := Nat × Int) (fun q => [(1, .ptr true 0 0 0 0), (3, .int .i64 q.2), (4, .int .i64 q.1)]) (fun _ => [rowC c]) (fun _ => [])
      (fun q => q.1 ≤ c.length ∧ depthL c.length c 0 0 = depthL c.length (c.drop q.1) q.1 q.2) (fun q => c.length - q.1) _ ?_ (0, 0) ⟨Nat.zero_le _, by simp⟩
    rintro ⟨i, most⟩ ⟨q1, q2⟩
    simp only at q1 q2
    simp only [rowC]
    have hw : IntKind.i64.wrap ((i : Int) + 1) = ((i + 1 : Nat) : Int) := by rw [wrap_in] <;> omega
    by_cases hi : i < c.length
    · obtain ⟨x, hx⟩ : ∃ x, c[i]? = some x := ⟨_, List.getElem?_eq_getElem hi⟩
      obtain ⟨y, hy, hcall⟩ := block_call c hc i x hx
      rw [drop_blk hx, depthL] at q2
      have ht : ∀ (p r : Int), trim 1 [(1, .ptr true 0 0 0 0), (3, .int .i64 p), (4, .int .i64 r)] [Blk.row 0 [.agg [.sl (c.map blockA') .no]]] = [Blk.row 0 [.agg [.sl (c.map blockA') .no]]] := fun p r => trim_self (L := [Blk.row 0 [.agg [.sl (c.map blockA') .no]]])
      simp only [codeA] at hcall
      rcases hy with ⟨hp, rfl⟩ | ⟨hp, hpos⟩
      · rw [hp] at q2
        exact ⟨_, by simp only [go_sem, Nat.reduceEqDiff, hi, hcall, refs_blocks, Int.reduceLT, Nat.reduceAdd, Nat.reduceLeDiff, Nat.one_ne_zero] <;> rfl, .inr ⟨_, rfl, .inr ⟨rfl, q2⟩⟩⟩
      · rw [hp] at q2
        simp only at q2
        have e1 : (y < 0) = False := eq_false (by omega)
        by_cases hmx : y > most
        · rw [show max most y = y by omega] at q2
          refine ⟨_, by simp only [go_sem, Nat.reduceEqDiff, hi, hcall, e1, hmx, hw, ht, refs_blocks, Nat.reduceAdd, Nat.reduceLeDiff, Nat.one_ne_zero] <;> rfl, ?_⟩
          exact .inl ⟨(i + 1, y), ⟨by simp only; omega, q2⟩, by simp only; omega, rfl⟩
        · rw [show max most y = most by omega] at q2
          refine ⟨_, by simp only [go_sem, Nat.reduceEqDiff, hi, hcall, e1, hmx, hw, ht, refs_blocks, Nat.reduceAdd, Nat.reduceLeDiff, Nat.one_ne_zero] <;> rfl, ?_⟩
          exact .inl ⟨(i + 1, most), ⟨by simp only; omega, q2⟩, by simp only; omega, rfl⟩
    · have e : c.drop i = [] := List.drop_eq_nil_of_le (by omega)
      rw [e, depthL] at q2
      exact ⟨_, by simp only [go_sem, Nat.reduceEqDiff, hi] <;> rfl, .inr ⟨_, rfl, .inl ⟨most, rfl, q2⟩⟩⟩
  unfold deepF depthF
  by_cases h1 : 16384 < opsF c 0
  · rw [if_pos (.inr h1)]
    rcases hq with ⟨most, rfl, hp⟩ | ⟨rfl, hp⟩
    · exact ⟨_, by simp only [rowC, go_sem, Nat.reduceEqDiff, hops, h1, refs_blocks, Option.getD_none, Nat.reduceAdd, Nat.reduceLeDiff, Nat.one_ne_zero] <;> rfl⟩
    · exact ⟨_, by simp only [rowC, go_sem, Nat.reduceEqDiff, Option.getD_none] <;> rfl⟩
  · by_cases h0 : c = []
    · subst h0
      rw [if_pos (.inl rfl)]
      rcases hq with ⟨most, rfl, hp⟩ | ⟨rfl, hp⟩
      · rw [depthL] at hp
        cases hp
        simp only [List.map_nil, opsF] at hops
        exact ⟨_, by simp only [rowC, go_sem, Nat.reduceEqDiff, hops, Int.reduceLT, List.map_nil, Option.getD_none, Nat.reduceAdd, Nat.reduceLeDiff, Nat.one_ne_zero] <;> rfl⟩
      · rw [depthL] at hp; cases hp
    · rw [if_neg (by simp [h0, h1])]
      rcases hq with ⟨most, rfl, hp⟩ | ⟨rfl, hp⟩
      · rw [hp]
        exact ⟨_, by simp only [rowC, go_sem, Nat.reduceEqDiff, hops, h1, refs_blocks, Option.getD_some, Nat.reduceAdd, Nat.reduceLeDiff, Nat.one_ne_zero] <;> rfl⟩
      · rw [hp]
        exact ⟨_, by simp only [rowC, go_sem, Nat.reduceEqDiff, Option.getD_none] <;> rfl⟩
theorem refCheck_call (c : CodeT) (hc : OkCode c) (L G : Hp) : callA (cfg Try.prog ann) 23 [codeA c] L G = some (.val (.bool (soundF c)), L, G) := by
  suffices hh : ∃ G', ev Try.prog ann 23 [codeA c] [] = some (.val (.bool (soundF c)), G') by
    obtain ⟨G', h2⟩ := hh
    refine call_pure rfl rfl ?_ rfl (G' := G') h2
    simp only [codeA, handAs, handA, pfs, refss, AV.refs, Tok.drop, Tok.refs, refs_blocks, if_true, Bool.and_self]
  have h := fun L G => refDepth_call c hc L G
  have hd : decide (0 < deepF c) = soundF c := by
    unfold deepF soundF
    cases hd : depthF c with
    | none => rfl
    | some d =>
      have := depth_pos hd
      simp only [Option.getD_some, Option.isSome_some, decide_eq_true_eq]
      omega
  simp only [codeA] at h ⊢
  rw [fun_some Try.func23 rfl rfl]
  rw [← hd]
  exact ⟨_, by simp only [go_sem, Nat.reduceEqDiff, h, refs_blocks, Nat.reduceAdd, Nat.reduceLeDiff, Nat.one_ne_zero] <;> rfl⟩
end Ev
