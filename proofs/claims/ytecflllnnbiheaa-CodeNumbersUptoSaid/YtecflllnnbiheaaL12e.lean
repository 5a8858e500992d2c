/- CodeNumbers: the law's own code. -/
import Derived.Test.YtecflllnnbiheaaT31
import Derived.Test.YtecflllnnbiheaaEv18
import Derived.KernelRfl
set_option maxHeartbeats 4000000
set_option linter.unusedVariables false
set_option linter.unusedSimpArgs false
namespace Ev
open Go Go.Proofs
set_option maxRecDepth 100000
theorem awake12 : ∃ G', ev Try.prog ann 7 [] [] = some (.val (.bool true), G') := true_of_fuel 300 40 _ (by kernel_rfl)
theorem awake12_call (L G : Hp) : callA (cfg Try.prog ann) 7 [] L G = some (.val (.bool true), L, G) := by
  obtain ⟨G', h⟩ := awake12
  exact call_pure rfl rfl rfl rfl h
theorem sum_mem {l : List Nat} {n : Nat} (h : n ∈ l) : n ≤ l.sum := by
  induction l with
  | nil => cases h
  | cons x l ih =>
    rw [List.sum_cons]
    rcases List.mem_cons.1 h with rfl | h
    · omega
    · have := ih h; omega
theorem len_sum {α : Type} (f : α → Nat) (hf : ∀ x, 1 ≤ f x) : ∀ l : List α, l.length ≤ (l.map f).sum
  | [] => by simp
  | x :: l => by have := len_sum f hf l; have := hf x; rw [List.map_cons, List.sum_cons, List.length_cons]; omega
theorem okCode_of {c : CodeT} (h : rdCode.bulk c ≤ 1048576) : OkCode c := by
  have h' : (c.map fun l => (l.map fun o => o.s.length + o.blocks.length + 2).sum + 1).sum ≤ 1048576 := h
  have h1 := len_sum (fun l : List OpT => (l.map fun o => o.s.length + o.blocks.length + 2).sum + 1) (fun _ => by omega) c
  refine ⟨by omega, fun l hl => ?_⟩
  have h2 := sum_mem (List.mem_map_of_mem (f := fun l : List OpT => (l.map fun o => o.s.length + o.blocks.length + 2).sum + 1) hl)
  have h3 := len_sum (fun o : OpT => o.s.length + o.blocks.length + 2) (fun _ => by omega) l
  refine ⟨by omega, fun o ho => ?_⟩
  have h4 := sum_mem (List.mem_map_of_mem (f := fun o : OpT => o.s.length + o.blocks.length + 2) ho)
  omega
theorem opsF_sum : ∀ (c : CodeT) (n : Nat), n + opsum c < 2 ^ 62 → opsF c n = ((n + opsum c : Nat) : Int)
  | [], n, _ => by simp [opsF, opsum]
  | b :: c, n, h => by
    rw [opsum] at h
    have hw : IntKind.i64.wrap ((n : Int) + (b.length : Int)) = ((n + b.length : Nat) : Int) := by rw [wrap_in] <;> omega
    rw [opsF, hw, opsF_sum c (n + b.length) (by omega), opsum]
    congr 1
    omega
/-- instructions whose parts are not too long -/
def OkL (K : Nat) (l : List OpT) : Prop := ∀ o ∈ l, o.s.length ≤ K ∧ o.blocks.length ≤ K
theorem okL_app {K : Nat} {a b : List OpT} (ha : OkL K a) (hb : OkL K b) : OkL K (a ++ b) := fun o ho => by
  rcases List.mem_append.1 ho with h | h
  · exact ha o h
  · exact hb o h
def OkB (K : Nat) (B : CodeT) : Prop := ∀ b ∈ B, OkL K b
theorem okB_set {K : Nat} {B : CodeT} {i : Nat} {o : List OpT} (hB : OkB K B) (ho : OkL K o) : OkB K (B.set i o) := fun b hb => by
  rcases List.mem_or_eq_of_mem_set hb with h | rfl
  · exact hB b h
  · exact ho
mutual
theorem comp_okL : ∀ (K : Nat) (n : NodeT) (B : CodeT), slen n ≤ K → tsz n ≤ K → OkB K B → OkL K (comp n B).1 ∧ OkB K (comp n B).2
  | K, .mk k s l, B, h1, h2, hB => by
    rw [slen] at h1
    rw [tsz] at h2
    have hlen := len_tszs l
    rw [comp]
    split
    · exact ⟨fun o ho => by simp only [List.mem_singleton] at ho; subst ho; exact ⟨by simp only; omega, by simp⟩, hB⟩
    · split
      · exact ⟨fun o ho => by simp only [List.mem_singleton] at ho; subst ho; exact ⟨by simp only; omega, by simp only [List.length_map, List.length_range]; omega⟩, compL_okL K l _ _ (by omega) (by omega) fun b hb => by
          rcases List.mem_append.1 hb with h | h
          · exact hB b h
          · rw [List.eq_of_mem_replicate h]; intro o ho; cases ho⟩
      · obtain ⟨c1, c2⟩ := comps_okL K l B (by omega) (by omega) hB
        refine ⟨okL_app c1 fun o ho => ?_, c2⟩
        simp only [List.mem_singleton] at ho
        subst ho
        unfold lastOp
        repeat' split
        all_goals exact ⟨by simp only [List.length_nil]; omega, by simp⟩
theorem comps_okL : ∀ (K : Nat) (l : List NodeT) (B : CodeT), slens l ≤ K → tszs l ≤ K → OkB K B → OkL K (comps l B).1 ∧ OkB K (comps l B).2
  | K, [], B, _, _, hB => by rw [comps]; exact ⟨fun o ho => (by cases ho), hB⟩
  | K, n :: l, B, h1, h2, hB => by
    rw [slens] at h1
    rw [tszs] at h2
    rw [comps]
    obtain ⟨c1, c2⟩ := comp_okL K n B (by omega) (by omega) hB
    obtain ⟨d1, d2⟩ := comps_okL K l _ (by omega) (by omega) c2
    exact ⟨okL_app c1 d1, d2⟩
theorem compL_okL : ∀ (K : Nat) (l : List NodeT) (i : Nat) (B : CodeT), slens l ≤ K → tszs l ≤ K → OkB K B → OkB K (compL l i B)
  | K, [], i, B, _, _, hB => by rw [compL]; exact hB
  | K, n :: l, i, B, h1, h2, hB => by
    rw [slens] at h1
    rw [tszs] at h2
    rw [compL]
    obtain ⟨c1, c2⟩ := comp_okL K n B (by omega) (by omega) hB
    exact compL_okL K l _ _ (by omega) (by omega) (okB_set c2 c1)
end
theorem opsum_mem {B : CodeT} {b : List OpT} (h : b ∈ B) : b.length ≤ opsum B := by
  obtain ⟨i, hi⟩ := List.getElem?_of_mem h
  exact opsum_le hi
theorem compile_ok (n : NodeT) (h1 : slen n ≤ 2 ^ 29) (h2 : tsz n ≤ 2 ^ 29) : OkCode (compile n) ∧ opsum (compile n) = tsz n := by
  have hs := comp_sum n [[]] (by omega)
  have hk := comp_keep n [[]] 0 (by simp)
  have hset := opsum_set (comp n [[]]).1 (show (comp n [[]]).2[0]? = some [] by rw [hk]; rfl)
  have hsum : opsum (compile n) = tsz n := by
    unfold compile
    simp only [opsum, List.length_nil] at hs
    omega
  obtain ⟨c1, c2⟩ := comp_okL (2 ^ 29) n [[]] h1 h2 (fun b hb => by simp only [List.mem_singleton] at hb; subst hb; intro o ho; cases ho)
  have hb := comp_blk n [[]]
  refine ⟨⟨by unfold compile; rw [List.length_set]; simp only [List.length_cons, List.length_nil] at hb; omega, fun b hb' => ⟨by have := opsum_mem hb'; omega, fun o ho => ?_⟩⟩, hsum⟩
  have := okB_set c2 c1 b hb' o ho
  omega
theorem ev_true (l : List Int) (v : Int) (x y : CodeT) (hi : okInts l) (hl : l.length ≤ 1048576) (hx : OkCode x) (hy : OkCode y) : ∃ G', ev Try.prog ann 3 [intsA l, .int .i64 v, codeA x, codeA y] [] = some (.val (.bool true), G') := by
  obtain ⟨tx, fx⟩ := few_call x hx
  obtain ⟨ty, fy⟩ := few_call y hy
  have haw := awake12_call
  rw [fun_some Try.func3 rfl rfl]
  have s2 : ((0 : Nat) < 2) = True := by decide
  have s3 : ((1 : Nat) < 2) = True := by decide
  simp only [codeA, intsA] at fx fy ⊢
  cases tx with
  | false => exact ⟨_, by simp only [go_sem, Nat.reduceEqDiff, fx, fy, haw, refs_blocks, Nat.reduceAdd, Nat.reduceLeDiff, Nat.one_ne_zero] <;> rfl⟩
  | true =>
  cases ty with
  | false => exact ⟨_, by simp only [go_sem, Nat.reduceEqDiff, fx, fy, haw, refs_blocks, Nat.reduceAdd, Nat.reduceLeDiff, Nat.one_ne_zero] <;> rfl⟩
  | true =>
  obtain ⟨s0, hs0, hgen⟩ := gen_call l hi (by omega)
  obtain ⟨s1, hs1, hsp⟩ := spoilt_call s0 v (by omega)
  obtain ⟨n, e, hpar, hne⟩ := parse_call s1 (by omega)
  have q1 := fun L G => codeSame_call x y hx L G
  have q2 := fun L G => refSame_call x y hx L G
  have q3 := fun L G => codeOps_call x hx.1 L G
  have q4 := fun L G => refOps_call x hx.1 L G
  simp only [codeA] at q1 q2 q3 q4
  have b3 : ((0 : Nat) < 3) = True := by decide
  have b4 : ((1 : Nat) < 3) = True := by decide
  by_cases e0 : e = 0
  · subst e0
    obtain ⟨n1, n2⟩ := hne rfl
    have c1 := fun L G => codeCompile_call n (by omega) L G
    have c2 := fun L G => refCompile_call n (by omega) L G
    obtain ⟨k1, k2⟩ := compile_ok n (by omega) (by omega)
    have r1 := fun L G => refSame_call (compile n) (compile n) k1 L G
    have r2 := fun L G => codeOps_call (compile n) k1.1 L G
    have r3 := fun L G => size_call n (by omega) L G
    have r4 := fun L G => codeSame_call (compile n) (compile n) k1 L G
    have ho := opsF_sum (compile n) 0 (by omega)
    rw [Nat.zero_add, k2] at ho
    simp only [Int.natCast_zero] at ho
    simp only [ho, decide_true] at r1 r2 r4
    generalize compile n = C at c1 c2 r1 r2 r4
    generalize tsz n = tn at r2 r3
    simp only [codeA] at c1 c2 r1 r2 r4
    obtain ⟨kn, sn, ln⟩ := n
    simp only [nodeA] at hpar c1 c2 r3
    have e9 : ((0 : Int) != 0) = false := rfl
    exact ⟨_, by simp only [go_sem, Nat.reduceEqDiff, fx, fy, haw, hgen, hsp, hpar, e9, q1, q2, q3, q4, c1, c2, r1, r2, r3, r4, s2, s3, refs_blocks, refs_ints, refs_nodes, Nat.reduceAdd, Nat.reduceLeDiff, Nat.reduceLT, Nat.one_ne_zero, show ((3 : Nat) = 0) = False from by decide] <;> rfl⟩
  · have e9 : (e != 0) = true := by simpa using e0
    obtain ⟨kn, sn, ln⟩ := n
    simp only [nodeA] at hpar
    exact ⟨_, by simp only [go_sem, Nat.reduceEqDiff, fx, fy, haw, hgen, hsp, hpar, e9, q1, q2, q3, q4, s2, s3, refs_blocks, refs_ints, refs_nodes, Nat.reduceAdd, Nat.reduceLeDiff, Nat.reduceLT, Nat.one_ne_zero, show ((3 : Nat) = 0) = False from by decide] <;> rfl⟩
end Ev
