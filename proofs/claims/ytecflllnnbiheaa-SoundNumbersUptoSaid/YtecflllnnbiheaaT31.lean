/- Compile, the document's way; how many nodes. -/
import Derived.Test.YtecflllnnbiheaaT30
import Derived.Test.YtecflllnnbiheaaT23
set_option maxHeartbeats 4000000
set_option linter.unusedVariables false
set_option linter.unusedSimpArgs false
namespace Ev
open Go Go.Proofs
set_option maxRecDepth 10000
theorem node_lazy {s : List UInt8} {l : List NodeT} (ih : ∀ x ∈ l, NodeOk x) (hz : lazyB s = true) : NodeOk (.mk 4 s l) := by
  refine node_of fun G B b hG hb hb1 hb2 => ?_
  obtain ⟨G', c1, c2⟩ := lazyR_ok 4 s l ih G B b hG hb hb1 hb2
  have hc : comp (.mk 4 s l) B = ([⟨6, 0, s, numsL B.length l.length⟩], compL l B.length (B ++ List.replicate l.length [])) := by rw [comp, if_neg (by decide), if_pos ⟨rfl, hz⟩]; rfl
  rw [hc]
  refine ⟨G', c2, ?_⟩
  have hf := fun L G => refFind_call s L G
  have hz' : (findF s).1.2.2.1 = true := hz
  simp only [infA, hz'] at hf
  rw [fun_some Try.func43 rfl rfl]
  simp only [nodeA] at c1 ⊢
  simp only [go_sem, Nat.reduceEqDiff, Int.reduceBEq, hf, c1, Nat.reduceAdd, Nat.reduceLeDiff, show ((3 : Nat) = 0) = False from by decide, show ((4 : Nat) = 0) = False from by decide]
theorem node_all : ∀ (N : Nat) (n : NodeT), tsz n ≤ N → NodeOk n
  | 0, n, h => by have := tsz_pos n; omega
  | N + 1, .mk k s l, h => by
    rw [tsz] at h
    have ih : ∀ x ∈ l, NodeOk x := fun x hx => node_all N x (by
      obtain ⟨i, hi⟩ := List.getElem?_of_mem hx
      have := tszs_get hi
      omega)
    by_cases h1 : k = 1
    · subst h1; exact node_text s l
    by_cases h2 : k = 2
    · subst h2; exact node_ref (k := 0) ih
    by_cases h3 : k = 3
    · subst h3; exact node_sub (k := 0) ih
    by_cases h4 : k = 4
    · subst h4
      cases hz : lazyB s with
      | true => exact node_lazy ih hz
      | false => exact node_call (k := 0) ih hz
    · exact node_other ih h1 h2 h3 h4
theorem hand_rows12 {rows : List AV} {toks : Hp} {B : CodeT} (h : Rows12 rows toks B) : handAs true rows = B.map blockA' := List.ext_getElem? fun i => by
  have hl : ∀ (l : List AV) (i : Nat), (handAs true l)[i]? = (l[i]?).map (handA true) := fun l => by
    induction l with
    | nil => intro i; simp [handAs]
    | cons x l ih => intro i; cases i with
      | zero => simp [handAs]
      | succ i => simp [handAs, ih]
  rw [hl, List.getElem?_map]
  cases hb : B[i]? with
  | none =>
    rw [List.getElem?_eq_none_iff] at hb
    rw [List.getElem?_eq_none (by rw [h.1]; exact hb)]
    rfl
  | some b =>
    rcases h.2.1 i b hb with ⟨rfl, ht⟩ | ⟨a, ht, _⟩
    · rw [ht]; rfl
    · rw [ht]; simp [handA, Tok.drop, blockA']
theorem rows12_noHs {rows : List AV} {toks : Hp} {B : CodeT} (h : Rows12 rows toks B) : ∀ v ∈ rows, hasHs v = false := fun v hv => by
  obtain ⟨i, hi⟩ := List.getElem?_of_mem hv
  obtain ⟨b, hb⟩ : ∃ b : List OpT, B[i]? = some b := ⟨_, List.getElem?_eq_getElem (by rw [← h.1]; exact (List.getElem?_eq_some_iff.1 hi).1)⟩
  rcases h.2.1 i b hb with ⟨_, ht⟩ | ⟨a, ht, _⟩ <;> rw [hi] at ht <;> cases ht <;> rfl
theorem refCompile_call (n : NodeT) (hb : tsz n ≤ 2 ^ 29) (L G : Hp) : callA (cfg Try.prog ann) 16 [nodeA n] L G = some (.val (codeA (compile n)), L, G) := by
  suffices hh : ∃ G', ev Try.prog ann 16 [nodeA n] [] = some (.val (codeA (compile n)), G') by
    obtain ⟨G', h⟩ := hh
    refine call_pure rfl rfl ?_ ?_ (G' := G') ?_
    · cases n; simp only [nodeA, handAs, handA, pfs, refss, AV.refs, Tok.refs, Tok.drop, if_true, refs_nodes, Bool.and_self]
    · simp only [codeA, AV.pf, AV.refs, refss, Tok.refs, refs_blocks, Bool.and_self]
    · cases n
      simp only [nodeA, handAs, handA, Tok.drop, if_true] at h ⊢
      exact h
  obtain ⟨G1, c1, hst⟩ := node_all _ n (Nat.le_refl _) (st12 0 [.sl [] .full] true []) [[]] 0 ⟨_, _, _, _, rfl, by simp, rfl, fun i b hb => by
    cases i with
    | zero => simp at hb; subst hb; exact .inl ⟨rfl, rfl⟩
    | succ i => simp at hb, fun i j b b' a hi hj => by
    cases i with
    | zero => simp at hi
    | succ i => simp at hi⟩ (by simp) (by simp; omega) (by simp [opsum]; omega)
  have hkeep := comp_keep n [[]] 0 (by simp)
  rw [appB_nil _ (by rw [hkeep]; rfl)] at hst
  obtain ⟨g, rows, ag, toks, rfl, hne, hR⟩ := hst
  have hset := hand_rows12 hR
  have hds : ∀ L G, deepS true L G 3 rows = handAs true rows := fun L G => deepS_no (rows12_noHs hR)
  have htk : List.take rows.length rows = rows := List.take_of_length_le (by simp)
  rw [fun_some Try.func16 rfl rfl]
  obtain ⟨k, s, l⟩ := n
  simp only [nodeA] at c1 ⊢
  simp only [st12, cellC, List.length_cons, List.length_nil, Nat.zero_add, Int.natCast_zero] at c1
  unfold codeA compile
  rw [← hset]
  have hms := fun (e : Env) (L G : Hp) (d : Option Tmp) (ty : TypeId) (pos : String) (aft : Array Edge) (g : Option (Nat × Bool)) => op_makeSlice (C := cfg Try.prog ann) (f := 16) (sl := none) (e := e) (L := L) (G := G) (d := d) (ty := ty) (pos := pos) (aft := aft) (g := g) (t := 23) (n := .const (.int .i64 1)) (c := .const (.int .i64 1)) (a := 1) (el := 42) (z := .sl [] .full) rfl rfl (by decide) (by decide)
    te23 t042 (by show Try.prog.bytesOf _ ≤ _; rw [ty42]; decide) (by show zeroSz Try.prog _ = szT Try.prog _; rw [tn42, tz42]) rfl rfl
  cases ag
  all_goals
    simp only [st12, cellC] at c1
    exact ⟨_, by simp only [go_sem, Nat.reduceEqDiff, hms, hds, c1, htk, refs_ops, Nat.reduceAdd, Nat.reduceLeDiff, Nat.reduceMul, Nat.reducePow, Int.reduceLE, Int.reduceLT, Int.reduceToNat, List.replicate, Nat.le_refl, List.drop_zero, if_true, show ((3 : Nat) = 0) = False from by decide] <;> rfl⟩
/-- how many nodes -/
def SizeOk (n : NodeT) : Prop := tsz n ≤ 1000000 → ∀ L G, callA (cfg Try.prog ann) 17 [nodeA n] L G = some (.val (.int .i64 (tsz n)), L, G)
theorem size_step (k : Int) (s : List UInt8) (l : List NodeT) (ih : ∀ x ∈ l, SizeOk x) : SizeOk (.mk k s l) := by
  intro hb L G
  suffices hh : ∃ G', ev Try.prog ann 17 [nodeA (.mk k s l)] [] = some (.val (.int .i64 (tsz (.mk k s l))), G') by
    obtain ⟨G', h⟩ := hh
    refine call_pure rfl rfl ?_ rfl (G' := G') ?_
    · simp only [nodeA, handAs, handA, pfs, refss, AV.refs, Tok.refs, Tok.drop, if_true, refs_nodes, Bool.and_self]
    · simp only [nodeA, handAs, handA, Tok.drop, if_true] at h ⊢
      exact h
  rw [tsz] at hb ⊢
  have hL := nodesA_len l
  have hlim := len_tszs l
  rw [fun_some Try.func17 rfl rfl]
  simp only [nodeA]
  simp only [go_sem, Nat.reduceEqDiff, Nat.reduceAdd, Nat.reduceLeDiff, show ((3 : Nat) = 0) = False from by decide]
  generalize hw : loopW _ _ _ _ _ _ = w
  obtain ⟨ou, rfl, rfl⟩ : ∃ ou, w = some ou ∧ ou = (.exit 0, [(3, .int .i64 ((1 + tszs l : Nat) : Int))], [.row 0 [.agg [.int .i64 k, .str s, .sl (nodesA l) .no]]], []) := by
    rw [← hw]
    clear hw
    refine loop_ex (σ := Nat × Nat) (fun q => [(1, .ptr true 0 0 0 0), (3, .int .i64 q.2), (4, .int .i64 q.1)]) (fun _ => [.row 0 [.agg [.int .i64 k, .str s, .sl (nodesA l) .no]]]) (fun _ => []) (fun q => q.1 ≤ l.length ∧ q.2 + tszs (l.drop q.1) = 1 + tszs l) (fun q => l.length - q.1) _ ?_ (0, 1) ⟨Nat.zero_le _, by simp⟩
    rintro ⟨i, m⟩ ⟨q1, q2⟩
    simp only at q1 q2
    have hw : IntKind.i64.wrap ((i : Int) + 1) = ((i + 1 : Nat) : Int) := by rw [wrap_in] <;> omega
    by_cases hi : i < l.length
    · obtain ⟨x, hx⟩ : ∃ x, l[i]? = some x := ⟨_, List.getElem?_eq_getElem hi⟩
      have hx' : (nodesA l)[i]? = some (nodeA x) := by rw [nodesA_get, hx]; rfl
      have htd := tszs_drop hx
      have c1 := ih x (List.mem_of_getElem? hx) (by omega)
      have hw2 : IntKind.i64.wrap ((m : Int) + (tsz x : Int)) = ((m + tsz x : Nat) : Int) := by rw [wrap_in] <;> omega
      have hmin : ¬ ((1000000 : Int) < ((m + tsz x : Nat) : Int)) := by omega
      generalize tsz x = tx at htd c1 hw2 hmin
      obtain ⟨kx, sx, lx⟩ := x
      simp only [nodeA] at hx' c1
      refine ⟨_, by simp only [go_sem, Nat.reduceEqDiff, hi, hL, hx', hw, hw2, hmin, c1, trim_self, Nat.reduceAdd, Nat.reduceLeDiff, show ((3 : Nat) = 0) = False from by decide] <;> rfl, ?_⟩
      exact .inl ⟨(i + 1, m + tx), ⟨by simp only; omega, by simp only; omega⟩, by simp only; omega, rfl⟩
    · have e : l.drop i = [] := List.drop_eq_nil_of_le (by omega)
      rw [e, tszs] at q2
      have : m = 1 + tszs l := by omega
      subst this
      refine ⟨_, by simp only [go_sem, Nat.reduceEqDiff, hi, hL] <;> rfl, .inr ⟨_, rfl, rfl⟩⟩
  exact ⟨_, by simp only [go_sem, Nat.reduceEqDiff] <;> rfl⟩
theorem size_all : ∀ (N : Nat) (n : NodeT), tsz n ≤ N → SizeOk n
  | 0, n, h => by have := tsz_pos n; omega
  | N + 1, .mk k s l, h => size_step k s l fun x hx => size_all N x (by
      rw [tsz] at h
      obtain ⟨i, hi⟩ := List.getElem?_of_mem hx
      have := tszs_get hi
      omega)
theorem size_call (n : NodeT) (hb : tsz n ≤ 1000000) (L G : Hp) : callA (cfg Try.prog ann) 17 [nodeA n] L G = some (.val (.int .i64 (tsz n)), L, G) := size_all _ n (Nat.le_refl _) hb L G
theorem opsF_sum : ∀ (c : CodeT) (n : Nat), n + opsum c < 2 ^ 62 → opsF c n = ((n + opsum c : Nat) : Int)
  | [], n, _ => by simp [opsF, opsum]
  | b :: c, n, h => by
    rw [opsum] at h
    have hw : IntKind.i64.wrap ((n : Int) + (b.length : Int)) = ((n + b.length : Nat) : Int) := by rw [wrap_in] <;> omega
    rw [opsF, hw, opsF_sum c (n + b.length) (by omega), opsum]
    congr 1
    omega
/-- instructions whose parts are not too long -/
def OkL (K : Nat) (l : List OpT) : Prop := ∀ o ∈ l, o.s.length ≤ K ∧ o.blocks.length ≤ K
theorem okL_app {K : Nat} {a b : List OpT} (ha : OkL K a) (hb : OkL K b) : OkL K (a ++ b) := fun o ho => by
  rcases List.mem_append.1 ho with h | h
  · exact ha o h
  · exact hb o h
def OkB (K : Nat) (B : CodeT) : Prop := ∀ b ∈ B, OkL K b
theorem okB_set {K : Nat} {B : CodeT} {i : Nat} {o : List OpT} (hB : OkB K B) (ho : OkL K o) : OkB K (B.set i o) := fun b hb => by
  rcases List.mem_or_eq_of_mem_set hb with h | rfl
  · exact hB b h
  · exact ho
mutual
theorem comp_okL : ∀ (K : Nat) (n : NodeT) (B : CodeT), slen n ≤ K → tsz n ≤ K → OkB K B → OkL K (comp n B).1 ∧ OkB K (comp n B).2
  | K, .mk k s l, B, h1, h2, hB => by
    rw [slen] at h1
    rw [tsz] at h2
    have hlen := len_tszs l
    rw [comp]
    split
    · exact ⟨fun o ho => by simp only [List.mem_singleton] at ho; subst ho; exact ⟨by simp only; omega, by simp⟩, hB⟩
    · split
      · exact ⟨fun o ho => by simp only [List.mem_singleton] at ho; subst ho; exact ⟨by simp only; omega, by simp only [List.length_map, List.length_range]; omega⟩, compL_okL K l _ _ (by omega) (by omega) fun b hb => by
          rcases List.mem_append.1 hb with h | h
          · exact hB b h
          · rw [List.eq_of_mem_replicate h]; intro o ho; cases ho⟩
      · obtain ⟨c1, c2⟩ := comps_okL K l B (by omega) (by omega) hB
        refine ⟨okL_app c1 fun o ho => ?_, c2⟩
        simp only [List.mem_singleton] at ho
        subst ho
        unfold lastOp
        repeat' split
        all_goals exact ⟨by simp only [List.length_nil]; omega, by simp⟩
theorem comps_okL : ∀ (K : Nat) (l : List NodeT) (B : CodeT), slens l ≤ K → tszs l ≤ K → OkB K B → OkL K (comps l B).1 ∧ OkB K (comps l B).2
  | K, [], B, _, _, hB => by rw [comps]; exact ⟨fun o ho => (by cases ho), hB⟩
  | K, n :: l, B, h1, h2, hB => by
    rw [slens] at h1
    rw [tszs] at h2
    rw [comps]
    obtain ⟨c1, c2⟩ := comp_okL K n B (by omega) (by omega) hB
    obtain ⟨d1, d2⟩ := comps_okL K l _ (by omega) (by omega) c2
    exact ⟨okL_app c1 d1, d2⟩
theorem compL_okL : ∀ (K : Nat) (l : List NodeT) (i : Nat) (B : CodeT), slens l ≤ K → tszs l ≤ K → OkB K B → OkB K (compL l i B)
  | K, [], i, B, _, _, hB => by rw [compL]; exact hB
  | K, n :: l, i, B, h1, h2, hB => by
    rw [slens] at h1
    rw [tszs] at h2
    rw [compL]
    obtain ⟨c1, c2⟩ := comp_okL K n B (by omega) (by omega) hB
    exact compL_okL K l _ _ (by omega) (by omega) (okB_set c2 c1)
end
theorem opsum_mem {B : CodeT} {b : List OpT} (h : b ∈ B) : b.length ≤ opsum B := by
  obtain ⟨i, hi⟩ := List.getElem?_of_mem h
  exact opsum_le hi
theorem compile_ok (n : NodeT) (h1 : slen n ≤ 2 ^ 29) (h2 : tsz n ≤ 2 ^ 29) : OkCode (compile n) ∧ opsum (compile n) = tsz n := by
  have hs := comp_sum n [[]] (by omega)
  have hk := comp_keep n [[]] 0 (by simp)
  have hset := opsum_set (comp n [[]]).1 (show (comp n [[]]).2[0]? = some [] by rw [hk]; rfl)
  have hsum : opsum (compile n) = tsz n := by
    unfold compile
    simp only [opsum, List.length_nil] at hs
    omega
  obtain ⟨c1, c2⟩ := comp_okL (2 ^ 29) n [[]] h1 h2 (fun b hb => by simp only [List.mem_singleton] at hb; subst hb; intro o ho; cases ho)
  have hb := comp_blk n [[]]
  refine ⟨⟨by unfold compile; rw [List.length_set]; simp only [List.length_cons, List.length_nil] at hb; omega, fun b hb' => ⟨by have := opsum_mem hb'; omega, fun o ho => ?_⟩⟩, hsum⟩
  have := okB_set c2 c1 b hb' o ho
  omega
end Ev
