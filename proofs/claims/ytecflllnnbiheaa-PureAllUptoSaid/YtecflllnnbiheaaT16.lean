/- Texts cut at their blanks; the document's table. -/
import Derived.Test.YtecflllnnbiheaaT12
import Derived.Test.YtecflllnnbiheaaEv16
set_option maxHeartbeats 4000000
set_option linter.unusedVariables false
set_option linter.unusedSimpArgs false
namespace Ev
open Go Go.Proofs
set_option maxRecDepth 10000
theorem elKstr : ElK Try.prog 9 := ⟨by rw [tz9]; decide, by rw [ty9]; decide, by rw [t09]; rfl, by rw [tn9, tz9]⟩
/-- a text cut at its blanks -/
def splitF (s : List UInt8) : Nat → Nat → Nat → List (List UInt8) → List (List UInt8)
  | 0, _, _, l => l
  | n + 1, i, j, l =>
    if i < s.length ∧ blankF ((s.getD i 0).toNat : Int) = false then splitF s n (i + 1) j l
    else splitF s n (i + 1) (i + 1) (if j < i then l ++ [(s.drop j).take (i - j)] else l)
def splitL (s : List UInt8) : List (List UInt8) := splitF s (s.length + 1) 0 0 []
theorem split_call (s : List UInt8) (hs : s.length < 2 ^ 30) (L G : Hp) : callA (cfg Try.prog ann) 95 [.str s] L G = some (.val (.sl ((splitL s).map .str) .no), L, G) := by
  have refs_strs : ∀ {Q : Bool → Nat → Bool} (l : List (List UInt8)), refss Q (l.map .str) = true := fun {Q} l => by
    induction l with
    | nil => rfl
    | cons x l ih => simp only [List.map_cons, refss, AV.refs, ih, Bool.and_self]
  suffices h : ∃ G', ev Try.prog ann 95 [.str s] [] = some (.val (.sl ((splitL s).map .str) .no), G') by
    obtain ⟨G', h⟩ := h
    exact call_pure rfl rfl rfl (by simp only [AV.pf, AV.refs, Tok.refs, refs_strs, Bool.and_self]) h
  rw [fun_some Try.func95 rfl rfl]
  simp only [go_sem, Nat.reduceEqDiff]
  generalize hw : loopW _ _ _ _ _ _ = w
  obtain ⟨o, rfl, hq⟩ : ∃ o, w = some o ∧ ∃ t L', o = (.exit 0, [(3, .sl ((splitL s).map .str) t)], L', []) := by
    rw [← hw]
    clear hw
    refine loop_ex (σ := Nat × Nat × List (List UInt8) × Tok × Hp) (fun q => [(0, .str s), (3, .sl (q.2.2.1.map .str) q.2.2.2.1), (4, .int .i64 q.2.1), (5, .int .i64 q.1)]) (fun q => q.2.2.2.2) (fun _ => [])
      (fun q => q.1 ≤ s.length + 1 ∧ q.2.1 ≤ q.1 ∧ q.2.2.1.length ≤ q.1 ∧ Acc 1 (q.2.2.1.map .str) q.2.2.2.1 q.2.2.2.2 ∧ splitF s (s.length + 1 - q.1) q.1 q.2.1 q.2.2.1 = splitL s) (fun q => s.length + 1 - q.1) _ ?_ (0, 0, [], .full, []) ⟨by simp, by simp, by simp, acc_nil, rfl⟩
    rintro ⟨i, j, l, t, L⟩ ⟨h1, h2, h3, h4, h5⟩
    simp only at h1 h2 h3 h4 h5
    have hw : IntKind.i64.wrap ((i : Int) + 1) = ((i + 1 : Nat) : Int) := by rw [wrap_in] <;> omega
    by_cases hi : i ≤ s.length
    · obtain ⟨n, hn⟩ : ∃ n, s.length + 1 - i = n + 1 := ⟨s.length - i, by omega⟩
      have hn' : s.length + 1 - (i + 1) = n := by omega
      rw [hn, splitF] at h5
      have hi' : ((i : Int) ≤ (s.length : Int)) = True := by simp; omega
      by_cases hb : i < s.length ∧ blankF ((s.getD i 0).toNat : Int) = false
      · rw [if_pos hb] at h5
        obtain ⟨hlt, hbl⟩ := hb
        have hx : s[i]? = some (s.getD i 0) := by simp [List.getD, List.getElem?_eq_getElem hlt]
        refine ⟨_, by simp only [go_sem, Nat.reduceEqDiff, hi', hlt, hx, blank_call, hbl, hw] <;> rfl, ?_⟩
        exact .inl ⟨(i + 1, j, l, t, _), ⟨by simp only; omega, by simp only; omega, by simp only; omega, acc_trim (i := 3) h4 (by simp), by simp only [hn']; exact h5⟩, by simp only; omega, rfl⟩
      · rw [if_neg hb] at h5
        have hjs : j ≤ s.length := by omega
        by_cases hji : j < i
        · rw [if_pos hji] at h5
          have hji' : ((j : Int) ≤ (i : Int)) = True := by simp; omega
          obtain ⟨t', L', happ, hacc⟩ := app_acc (P := Try.prog) (A := ann) (f := 95) (d := 32) (xs := [.str ((s.drop j).take (i - j))]) elKstr rfl rfl (by rw [tz9]; exact h4) rfl rfl (by simp only [szOk, tz9]; rfl) (by simp) (by rw [ty9, List.length_map]; simp only [mostBytes, List.length_cons, List.length_nil]; omega)
          rw [tz9] at hacc
          have ea : l.map AV.str ++ handX [.str ((s.drop j).take (i - j))] = (l ++ [(s.drop j).take (i - j)]).map AV.str := by simp [handX_str, handAs]
          rw [ea] at happ hacc
          by_cases hlt : i < s.length
          · have hbl : blankF ((s.getD i 0).toNat : Int) = true := by simpa [hlt] using hb
            have hx : s[i]? = some (s.getD i 0) := by simp [List.getD, List.getElem?_eq_getElem hlt]
            refine ⟨_, by simp only [go_sem, Nat.reduceEqDiff, hi', hlt, hx, blank_call, hbl, hw, hji, hji', happ, Nat.reduceMul, Nat.reduceLeDiff, Nat.reducePow, show ((0 : Nat) < 1) = True from by decide] <;> rfl, ?_⟩
            exact .inl ⟨(i + 1, i + 1, l ++ [(s.drop j).take (i - j)], t', _), ⟨by simp only; omega, by simp only; omega, by simp; omega, acc_trim (i := 3) hacc (by simp), by simp only [hn']; exact h5⟩, by simp only; omega, rfl⟩
          · refine ⟨_, by simp only [go_sem, Nat.reduceEqDiff, hi', hlt, hw, hji, hji', happ, Nat.reduceMul, Nat.reduceLeDiff, Nat.reducePow, show ((0 : Nat) < 1) = True from by decide] <;> rfl, ?_⟩
            exact .inl ⟨(i + 1, i + 1, l ++ [(s.drop j).take (i - j)], t', _), ⟨by simp only; omega, by simp only; omega, by simp; omega, acc_trim (i := 3) hacc (by simp), by simp only [hn']; exact h5⟩, by simp only; omega, rfl⟩
        · rw [if_neg hji] at h5
          by_cases hlt : i < s.length
          · have hbl : blankF ((s.getD i 0).toNat : Int) = true := by simpa [hlt] using hb
            have hx : s[i]? = some (s.getD i 0) := by simp [List.getD, List.getElem?_eq_getElem hlt]
            refine ⟨_, by simp only [go_sem, Nat.reduceEqDiff, hi', hlt, hx, blank_call, hbl, hw, hji] <;> rfl, ?_⟩
            exact .inl ⟨(i + 1, i + 1, l, t, _), ⟨by simp only; omega, by simp only; omega, by simp only; omega, acc_trim (i := 3) h4 (by simp), by simp only [hn']; exact h5⟩, by simp only; omega, rfl⟩
          · refine ⟨_, by simp only [go_sem, Nat.reduceEqDiff, hi', hlt, hw, hji] <;> rfl, ?_⟩
            exact .inl ⟨(i + 1, i + 1, l, t, _), ⟨by simp only; omega, by simp only; omega, by simp only; omega, acc_trim (i := 3) h4 (by simp), by simp only [hn']; exact h5⟩, by simp only; omega, rfl⟩
    · have hi' : ((i : Int) ≤ (s.length : Int)) = False := by simp; omega
      have hn : s.length + 1 - i = 0 := by omega
      rw [hn, splitF] at h5
      refine ⟨_, by simp only [go_sem, Nat.reduceEqDiff, hi'] <;> rfl, .inr ⟨_, rfl, t, L, by rw [h5]⟩⟩
  obtain ⟨t, L', rfl⟩ := hq
  exact ⟨_, by simp only [go_sem, Nat.reduceEqDiff, if_true] <;> rfl⟩
end Ev
