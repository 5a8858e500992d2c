/- A call's arguments; lists of texts, each read. -/
import Derived.Test.YtecflllnnbiheaaT19
set_option maxHeartbeats 4000000
set_option linter.unusedVariables false
set_option linter.unusedSimpArgs false
namespace Ev
open Go Go.Proofs
set_option maxRecDepth 10000
/-- how long texts are together, with a byte behind each -/
def wsum : List (List UInt8) → Nat
  | [] => 0
  | x :: l => x.length + 1 + wsum l
theorem wsum_app : ∀ a b, wsum (a ++ b) = wsum a + wsum b
  | [], b => by simp [wsum]
  | x :: a, b => by rw [List.cons_append, wsum, wsum, wsum_app a b]; omega
theorem wsum_len : ∀ l, l.length ≤ wsum l
  | [] => by simp
  | x :: l => by have := wsum_len l; rw [wsum, List.length_cons]; omega
theorem wsum_mem : ∀ {l : List (List UInt8)} {x}, x ∈ l → x.length + 1 ≤ wsum l
  | y :: l, x, h => by
    rw [wsum]
    rcases List.mem_cons.1 h with rfl | h
    · omega
    · have := wsum_mem h; omega
theorem args_ok (s : List UInt8) (most o c : Int) (hs : s.length < 2 ^ 30) (hm : 0 ≤ most ∧ most < 100) : ∃ l, (wsum l ≤ s.length + 1 ∧ (most = 0 ∨ (l.length : Int) ≤ max most 1)) ∧ ∀ L G, callA (cfg Try.prog ann) 74 [.str s, .int .i64 most, .int .u8 o, .int .u8 c] L G = some (.val (.sl (l.map .str) .no), L, G) := by
  suffices h : ∃ l G', (wsum l ≤ s.length + 1 ∧ (most = 0 ∨ (l.length : Int) ≤ max most 1)) ∧ ev Try.prog ann 74 [.str s, .int .i64 most, .int .u8 o, .int .u8 c] [] = some (.val (.sl (l.map .str) .no), G') by
    obtain ⟨l, G', h1, h⟩ := h
    exact ⟨l, h1, fun L G => call_pure rfl rfl rfl (by simp only [AV.pf, AV.refs, Tok.refs, refs_strs, Bool.and_self]) h⟩
  rw [fun_some Try.func74 rfl rfl]
  simp only [go_sem, Nat.reduceEqDiff]
  generalize hw : loopW _ _ _ _ _ _ = w
  obtain ⟨ou, rfl, l, t, L', j, rfl, hj, hl, hacc, hmo⟩ : ∃ ou, w = some ou ∧ ∃ (l : List (List UInt8)) (t : Tok) (L' : Hp) (j : Nat), ou = (.exit 0, [(0, .str s), (9, .sl (l.map .str) t), (11, .int .i64 j)], L', []) ∧ j ≤ s.length ∧ wsum l ≤ j ∧ Acc 1 (l.map .str) t L' ∧ (most = 0 ∨ (l.length : Int) + 1 ≤ max most 1) := by
    rw [← hw]
    clear hw
    refine loop_ex (σ := Nat × Int × Nat × List (List UInt8) × Tok × Hp) (fun q => [(0, .str s), (1, .int .i64 most), (2, .int .u8 o), (3, .int .u8 c), (9, .sl (q.2.2.2.1.map .str) q.2.2.2.2.1), (10, .int .i64 q.2.1), (11, .int .i64 q.2.2.1), (12, .int .i64 q.1)]) (fun q => q.2.2.2.2.2) (fun _ => [])
      (fun q => q.1 ≤ s.length ∧ 0 ≤ q.2.1 ∧ q.2.1 ≤ q.1 ∧ q.2.2.1 ≤ q.1 ∧ wsum q.2.2.2.1 ≤ q.2.2.1 ∧ Acc 1 (q.2.2.2.1.map .str) q.2.2.2.2.1 q.2.2.2.2.2 ∧ (most = 0 ∨ (q.2.2.2.1.length : Int) + 1 ≤ max most 1)) (fun q => s.length - q.1) _ ?_ (0, 0, 0, [], .full, []) ⟨by simp, by simp, by simp, by simp, by simp [wsum], acc_nil, .inr (by simp only [List.length_nil]; omega)⟩
    rintro ⟨i, d, j, l, t, L⟩ ⟨h1, h2, h3, h4, h5, h6, h7⟩
    simp only at h1 h2 h3 h4 h5 h6 h7
    have hlen := wsum_len l
    have hw : IntKind.i64.wrap ((i : Int) + 1) = ((i + 1 : Nat) : Int) := by rw [wrap_in] <;> omega
    have hd1 : IntKind.i64.wrap (d + 1) = d + 1 := by rw [wrap_in] <;> omega
    have hd2 : IntKind.i64.wrap (d - 1) = d - 1 := by rw [wrap_in] <;> omega
    have hl1 : IntKind.i64.wrap ((l.length : Int) + 1) = (l.length : Int) + 1 := by rw [wrap_in] <;> omega
    by_cases h : i < s.length
    · have hx : s[i]? = some (s.getD i 0) := by simp [List.getD, List.getElem?_eq_getElem h]
      generalize s.getD i 0 = b at hx
      have skip : ∀ d', 0 ≤ d' → d' ≤ d + 1 → (fun (q : Nat × Int × Nat × List (List UInt8) × Tok × Hp) => q.1 ≤ s.length ∧ 0 ≤ q.2.1 ∧ q.2.1 ≤ q.1 ∧ q.2.2.1 ≤ q.1 ∧ wsum q.2.2.2.1 ≤ q.2.2.1 ∧ Acc 1 (q.2.2.2.1.map .str) q.2.2.2.2.1 q.2.2.2.2.2 ∧ (most = 0 ∨ (q.2.2.2.1.length : Int) + 1 ≤ max most 1))
          (i + 1, d', j, l, t, trim 0 [(0, .str s), (1, .int .i64 most), (2, .int .u8 o), (3, .int .u8 c), (9, .sl (l.map .str) t), (10, .int .i64 d'), (11, .int .i64 (j : Int)), (12, .int .i64 ((i + 1 : Nat) : Int))] L) := fun d' g1 g2 =>
        ⟨by simp only; omega, by simp only; omega, by simp only; omega, by simp only; omega, h5, acc_trim (i := 9) h6 (by simp), h7⟩
      cases c1 : ((b.toNat : Int) == o) with
      | true => exact ⟨_, by simp only [go_sem, Nat.reduceEqDiff, h, hx, hw, hd1, c1] <;> rfl, .inl ⟨_, skip (d + 1) (by omega) (by omega), by simp only; omega, rfl⟩⟩
      | false =>
      cases c2 : ((b.toNat : Int) == c) with
      | true =>
        by_cases hd : 0 > d - 1
        · exact ⟨_, by simp only [go_sem, Nat.reduceEqDiff, h, hx, hw, hd2, c1, c2, hd] <;> rfl, .inl ⟨_, skip 0 (by omega) (by omega), by simp only; omega, rfl⟩⟩
        · exact ⟨_, by simp only [go_sem, Nat.reduceEqDiff, h, hx, hw, hd2, c1, c2, hd] <;> rfl, .inl ⟨_, skip (d - 1) (by omega) (by omega), by simp only; omega, rfl⟩⟩
      | false =>
      cases c3 : ((b.toNat : Int) == 44) with
      | false => exact ⟨_, by simp only [go_sem, Nat.reduceEqDiff, h, hx, hw, c1, c2, c3] <;> rfl, .inl ⟨_, skip d (by omega) (by omega), by simp only; omega, rfl⟩⟩
      | true =>
      cases c4 : (d == 0) with
      | false => exact ⟨_, by simp only [go_sem, Nat.reduceEqDiff, h, hx, hw, c1, c2, c3, c4] <;> rfl, .inl ⟨_, skip d (by omega) (by omega), by simp only; omega, rfl⟩⟩
      | true =>
      have hji' : ((j : Int) ≤ (i : Int)) = True := by simp; omega
      have hi' : ((i : Int) ≤ (s.length : Int)) = True := by simp; omega
      obtain ⟨t', L1, happ, hacc⟩ := app_acc (P := Try.prog) (A := ann) (f := 74) (d := 62) (xs := [.str ((s.drop j).take (i - j))]) elKstr rfl rfl (by rw [tz9]; exact h6) rfl rfl (by simp only [szOk, tz9]; rfl) (by simp) (by rw [ty9, List.length_map]; simp only [mostBytes, List.length_cons, List.length_nil]; omega)
      rw [tz9] at hacc
      have ea : l.map AV.str ++ handX [.str ((s.drop j).take (i - j))] = (l ++ [(s.drop j).take (i - j)]).map AV.str := by simp [handX_str, handAs]
      rw [ea] at happ hacc
      have cut : (most = 0 ∨ (l.length : Int) + 1 < most) → (fun (q : Nat × Int × Nat × List (List UInt8) × Tok × Hp) => q.1 ≤ s.length ∧ 0 ≤ q.2.1 ∧ q.2.1 ≤ q.1 ∧ q.2.2.1 ≤ q.1 ∧ wsum q.2.2.2.1 ≤ q.2.2.1 ∧ Acc 1 (q.2.2.2.1.map .str) q.2.2.2.2.1 q.2.2.2.2.2 ∧ (most = 0 ∨ (q.2.2.2.1.length : Int) + 1 ≤ max most 1))
          (i + 1, d, i + 1, l ++ [(s.drop j).take (i - j)], t', trim 0 [(0, .str s), (1, .int .i64 most), (2, .int .u8 o), (3, .int .u8 c), (9, .sl ((l ++ [(s.drop j).take (i - j)]).map .str) t'), (10, .int .i64 d), (11, .int .i64 ((i + 1 : Nat) : Int)), (12, .int .i64 ((i + 1 : Nat) : Int))] L1) := fun hcut =>
        ⟨by simp only; omega, by simp only; omega, by simp only; omega, by simp only; omega, by simp only [wsum_app, wsum, List.length_take, List.length_drop]; omega, acc_trim (i := 9) hacc (by simp), by simp only [List.length_append, List.length_cons, List.length_nil]; omega⟩
      cases c5 : (most == 0) with
      | true => exact ⟨_, by simp only [go_sem, Nat.reduceEqDiff, h, hx, hw, c1, c2, c3, c4, c5, hji', hi', happ, Nat.reduceMul, Nat.reduceLeDiff, Nat.reducePow, show ((0 : Nat) < 1) = True from by decide] <;> rfl, .inl ⟨_, cut (.inl (by simpa using c5)), by simp only; omega, rfl⟩⟩
      | false =>
        by_cases c6 : (l.length : Int) + 1 < most
        · exact ⟨_, by simp only [go_sem, Nat.reduceEqDiff, h, hx, hw, c1, c2, c3, c4, c5, c6, hl1, hji', hi', happ, Nat.reduceMul, Nat.reduceLeDiff, Nat.reducePow, show ((0 : Nat) < 1) = True from by decide] <;> rfl, .inl ⟨_, cut (.inr c6), by simp only; omega, rfl⟩⟩
        · exact ⟨_, by simp only [go_sem, Nat.reduceEqDiff, h, hx, hw, c1, c2, c3, c4, c5, c6, hl1] <;> rfl, .inl ⟨_, skip d (by omega) (by omega), by simp only; omega, rfl⟩⟩
    · exact ⟨_, by simp only [go_sem, Nat.reduceEqDiff, h] <;> rfl, .inr ⟨_, rfl, l, t, L, j, rfl, by omega, h5, h6, h7⟩⟩
  have hlen := wsum_len l
  obtain ⟨t', L1, happ, -⟩ := app_acc (P := Try.prog) (A := ann) (f := 74) (d := 70) (xs := [.str ((s.drop j).take (s.length - j))]) elKstr rfl rfl (by rw [tz9]; exact hacc) rfl rfl (by simp only [szOk, tz9]; rfl) (by simp) (by rw [ty9, List.length_map]; simp only [mostBytes, List.length_cons, List.length_nil]; omega)
  have ea : l.map AV.str ++ handX [.str ((s.drop j).take (s.length - j))] = (l ++ [(s.drop j).take (s.length - j)]).map AV.str := by simp [handX_str, handAs]
  rw [ea] at happ
  have hj' : ((j : Int) ≤ (s.length : Int)) = True := by simp; omega
  exact ⟨l ++ [(s.drop j).take (s.length - j)], _, ⟨by simp only [wsum_app, wsum, List.length_take, List.length_drop]; omega, by simp only [List.length_append, List.length_cons, List.length_nil]; omega⟩, by simp only [go_sem, Nat.reduceEqDiff, hj', happ, Int.le_refl, Nat.reduceMul, Nat.reduceLeDiff, Nat.reducePow, show ((0 : Nat) < 1) = True from by decide, if_true] <;> rfl⟩
end Ev
