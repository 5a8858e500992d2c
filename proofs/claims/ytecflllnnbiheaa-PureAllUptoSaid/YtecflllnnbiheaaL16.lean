/- PureAll: for all nodes and numbers of bulk at most 1048576 the law returns true and its arguments read as they did. -/
import Derived.Test.YtecflllnnbiheaaL16e
import Derived.Test.YtecflllnnbiheaaO16
import Derived.Test.YtecflllnnbiheaaRows
import Derived.WalkKit
import Derived.ProofKit
import Derived.OpenShut
import Derived.JoinedCond
import Derived.Carry
set_option maxHeartbeats 4000000
set_option linter.unusedVariables false
set_option linter.unusedSimpArgs false
namespace Go.Proofs.Ytecflllnnbiheaa.pureAll
open Go.ChangeShapes Go.WideShapes Go.ChangeAt Go.RowKit Ev
set_option linter.unusedVariables false
theorem laidOut : laidOutB Try.prog = true := by kernel_rfl
theorem own : ownKnob Try.prog.godebug = none := by kernel_rfl
theorem all_sum {H : Type} : ∀ (l : List (DataW H)), Rows.uptoBulkAll l = (l.map Rows.uptoBulk).sum
  | [] => rfl
  | d :: l => by simp only [Rows.uptoBulkAll, List.map_cons, List.sum_cons, all_sum l]
theorem bulkOk : BulkOk (fun {H} => Rows.uptoBulk (H := H)) where
  one := fun d => by
    cases d with
    | lit l => cases l <;> simp [Rows.uptoBulk]
    | _ => simp [Rows.uptoBulk]
  str := fun l => by simp [Rows.uptoBulk]
  slice := fun es sp => by simp only [Rows.uptoBulk, all_sum]; omega
  agg := fun ps => by simp only [Rows.uptoBulk, all_sum]; omega
  ptr := fun d => by simp only [Rows.uptoBulk]; omega

set_option maxRecDepth 100000 in
theorem contract (H : Type) (enc : TypeId × Value → H) (W : World) (base : Nat) (args : Array Value) (ds gs : List (DataW H)) (before : List MemPlace)
    (hval : ∀ (j : Nat) t v, Try.f5.params[j]? = some t → args[j]? = some v → Value.okWide Try.prog W .any base t v)
    (hW : DataW.Whole enc Try.prog Try.f5.params.toList Rows.pureAllSpec.vars false W args.toList ds gs before) (hk : Rows.uptoSmall H (ds ++ gs) = true) :
    Calls Try.prog 5 args W fun e W' => ∃ v, e = .returned v ∧ Rows.pureAllSpec.post enc Try.prog Try.f5 false true false false W args v W' := by
  have hW' := hW
  obtain ⟨p, q, hA0, hV, rfl, hfz, hnd⟩ := hW
  have hA : DataW.TrodAll enc Try.prog W 0 (fun _ => true) true Try.f5.params.toList args.toList ds p := hA0
  rw [Try.params5] at hA hval
  obtain ⟨v0, vs0, d0, ds0, p0, q0, hargs, rfl, rfl, h0, r0⟩ := trodAll_cons hA
  obtain ⟨v1, vs1, d1, ds1, p1, q1, rfl, rfl, rfl, h1, r1⟩ := trodAll_cons r0
  obtain ⟨rfl, rfl, rfl⟩ := trodAll_nil r1
  obtain rfl : args = #[v0, v1] := by cases args; simp_all
  obtain ⟨rfl, rfl⟩ := trodVars_none hV
  have lt : ∀ {t v d p}, DataW.Trod enc Try.prog W 0 (fun _ => true) true t v d p → ∀ x ∈ p, x.block < W.heap.size := fun k => by obtain ⟨m, hm⟩ := k; exact DataW.trod_lt m _ _ _ hm
  obtain ⟨c0, rfl, _⟩ := okWide_struct Try.underlying30 (hval 0 30 v0 rfl rfl)
  obtain ⟨a1, len1, cap1, rfl⟩ := okWide_slice Try.underlying22 (hval 1 22 v1 rfl rfl)
  clear hA0
  have hsum : ∀ {d : DataW H} {D : List (DataW H)}, d ∈ D → Rows.uptoBulk d ≤ Rows.uptoBulkAll D := fun {d D} h => by
    induction D with
    | nil => cases h
    | cons e D ih =>
      rw [Rows.uptoBulkAll]
      rcases List.mem_cons.1 h with rfl | h
      · omega
      · have := ih h; omega
  have hk' : Rows.uptoBulkAll ([d0, d1] ++ []) ≤ 1048576 := of_decide_eq_true hk
  have r1 : ∃ l, Rep (gAll W) W (intsA l) (.slice a1 len1 cap1) ∧ l.length ≤ 1048576 ∧ okInts l := by
    obtain ⟨fuel, hf⟩ := h1
    obtain ⟨l, k1, k2, k3⟩ := rdInts_ok bulkOk fuel enc W fuel _ _ (by omega) hf
    refine ⟨l, rep_val k1 ⟨(fun ⟨_, h⟩ => by cases h), (fun ⟨_, h⟩ => by cases h)⟩ (fun _ h => by cases h), ?_, fun n hn => ?_⟩
    · have h1 : (rdSl (rdInt .i64)).bulk l ≤ Rows.uptoBulk d1 := k2
      have h2 := hsum (d := d1) (D := [d0, d1] ++ []) (by simp)
      have h3 : (rdSl (rdInt .i64)).bulk l = (l.map fun _ => 1).sum + 1 := rfl
      rw [h3, sum_one] at h1
      omega
    · have h1 : (Lit.int .i64 n).wf = true := k3 n hn
      simp [Lit.wf, IntKind.min, IntKind.max, IntKind.bits, IntKind.signed] at h1
      omega
  have r0 : ∃ x, Rep (gAll W) W (nodeA x) (.agg c0) ∧ tsz x ≤ 2 ^ 30 := by
    obtain ⟨fuel, hf⟩ := h0
    obtain ⟨x, k1, k2, _⟩ := rdNode_ok bulkOk fuel enc W fuel _ _ (by omega) hf
    have h1 : nbulk x ≤ Rows.uptoBulk d0 := k2
    have h2 := hsum (d := d0) (D := [d0, d1] ++ []) (by simp)
    have h3 := tsz_bulk x
    have hag : ∃ cs, nodeA x = .agg cs := by obtain ⟨k, s, l⟩ := x; exact ⟨_, by rw [nodeA]⟩
    exact ⟨x, rep_val k1 ⟨fun _ => ⟨_, rfl⟩, fun _ => hag⟩ (fun _ h => by cases h), by omega⟩
  obtain ⟨l, hl, hl1, hl2⟩ := r1
  obtain ⟨x, hx, hx1⟩ := r0
  obtain ⟨G', hev⟩ := evP_true x l hx1 hl2 hl1
  refine (seat_calls orc_ok hev (V := #[.agg c0, .slice a1 len1 cap1]) (W := W) ⟨rfl, fun i a u ha hu => ?_⟩).mono fun e W' ⟨he, bel⟩ => ?_
  · match i with
    | 0 => simp at ha hu; rw [← ha, ← hu]; exact hx
    | 1 => simp at ha hu; rw [← ha, ← hu]; exact hl
    | i + 2 => simp at ha
  subst he
  exact ⟨_, rfl, _, _, _, [], _, [], hW', trodAll_mk1 (shut_bool Try.underlying4 _),
    (trodAll_cons_mk (Below.trod laidOut (by kernel_rfl) (of_decide_eq_true (by kernel_rfl)) h0 bel (lt h0)) (trodAll_cons_mk (Below.trod laidOut (by kernel_rfl) (of_decide_eq_true (by kernel_rfl)) h1 bel (lt h1)) trodAll_mk0)), rfl, bel.frame _, fun h => by cases h⟩

set_option maxRecDepth 100000 in
theorem lifted (os : Os) (started : os.Started) (H : Type) (enc : TypeId × Value → H) (F : Stop.Interp) :
    ReturnsInHanded {} Try.checked os 5 .any ((Rows.OpenSpec.upto Rows.pureAllSpec).pre6 enc Try.prog Try.f5 Rows.pureAllUptoRow.domain false) (((Rows.OpenSpec.upto Rows.pureAllSpec).at F).post enc Try.prog Try.f5 false true false false) := by
  refine returnsInHanded_of_cond (C := Try.checked) (s := Rows.OpenSpec.upto Rows.pureAllSpec) (k := Rows.uptoSmall) rfl own started (by kernel_rfl) Try.func5
    (OpenSpec.witness (enc := enc) (C := Try.checked) (s := Rows.OpenSpec.upto Rows.pureAllSpec) (k := Rows.uptoSmall) rfl false ⟨#[], #[.agg #[.int .i64 0, .string ⟨#[]⟩, .slice none 0 0], .slice none 0 0], []⟩ 8 (by kernel_rfl) (by kernel_rfl) (by kernel_rfl)
      (x := ([.agg [.lit (.int .i64 0), .lit (.string []), .nil], .nil], [], [])) (by kernel_rfl) rfl (by kernel_rfl)) ?_
  intro W base args ds gs before hval hW _ hk _
  exact contract H enc W base args ds gs before hval hW hk

theorem over : Rows.pureAllUptoRow.holds Try.pinned (Rows.OpenSpec.upto Rows.pureAllSpec) :=
  OpenClaim.holds_of_cond 5 Try.f5 rfl rfl rfl rfl rfl rfl rfl ⟨rfl, rfl, rfl, rfl, rfl⟩ rfl rfl rfl rfl rfl (by kernel_rfl) Try.func5 (by kernel_rfl)
    (of_decide_eq_true (by kernel_rfl)) (by unfold Func.isWrapper; first | (rw [if_pos (by decide +kernel)]; kernel_rfl) | (rw [if_neg (by decide +kernel)]; exact ⟨rfl, rfl⟩))
    (fun os started H enc _ F => lifted os started H enc F)
theorem proved : Rows.PureAllUptoSaid := over
end Go.Proofs.Ytecflllnnbiheaa.pureAll
