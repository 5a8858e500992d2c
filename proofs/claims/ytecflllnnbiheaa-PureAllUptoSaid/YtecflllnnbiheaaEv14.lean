/- What a prover uses: a function's code worked out; loops. -/
import Derived.Test.YtecflllnnbiheaaEv13
import Derived.Test.YtecflllnnbiheaaEv2
set_option maxHeartbeats 4000000
set_option linter.unusedVariables false
set_option linter.unusedSimpArgs false
namespace Ev
open Go
attribute [go_sem] seqA_nor seqA_ret seqA_exit seqA_pan seqA_none seqA_ite blockA_nor blockA_ret blockA_pan blockA_exit blockA_none blockA_ite condA_bool wantA_true wantA_false stepA_val stepA_pan stepA_ite stepD_val valA_some
  code_skip code_label code_region code_draw code_seq code_cond code_block code_loop code_exit code_ret list_nil list_move list_assign list_plain list_yes list_no putE_some putE_none opd_tmp opd_const opd_func ofVal_int ofVal_bool
  op_move op_assign op_bin op_un op_load op_extract op_field op_call op_len op_store op_indexAddr op_index op_conv op_slice op_build op_part op_pick op_min op_max op_alloc op_box op_buildSlice op_nilCheck op_makeFunc op_makeMap op_lookup op_insert op_mapUpdate op_iface op_callv op_append op_copy new_loc new_slot new_glob
  frzE_no frzL_no frzE_yes frzL_yes live_some live_none live_ite kill_nil kill_cons get?_cons get?_nil get_cons get_nil args_cons args_nil
def endR (P : Program) (both : Bool) (rs : List ResultVar) : Option Out → Option (Rs × Hp)
  | some (.nor, e, L, G) => (resAs P e L G rs).map fun vs => (.val (leave both L G (tupA vs)), G)
  | some (.ret, e, L, G) => (resAs P e L G rs).map fun vs => (.val (leave both L G (tupA vs)), G)
  | some (.pan v, _, L, G) => some (.pan (leave both L G v), G)
  | _ => none
theorem fun_some {P A f args G fn c rs} (hf : P.funcs[f]? = some fn) (hb : fn.body = some c) (hr : fn.results = rs.toArray) : ev P A f args G = endR P (!A.sees f) rs (evCode (cfg P A) f c (argsE 0 args) [] G) := by
  have hr' : fn.results.toList = rs := by rw [hr]
  rw [ev_eq]; unfold evFun; simp only [cfg, hf, hb]
  subst hr'
  generalize evCode _ _ _ _ _ _ = r
  rcases r with _ | ⟨x, e, L, G⟩
  · rfl
  · cases x <;> rfl
section
variable {P : Program} {b : Bool} {rs : List ResultVar} {e : Env} {L G : Hp}
theorem endR_congr {r r' : Option Out} (h : r = r') : endR P b rs r = endR P b rs r' := by rw [h]
attribute [congr] endR_congr
theorem endR_nor : endR P b rs (some (.nor, e, L, G)) = (resAs P e L G rs).map fun vs => (.val (leave b L G (tupA vs)), G) := id rfl
theorem endR_ret : endR P b rs (some (.ret, e, L, G)) = (resAs P e L G rs).map fun vs => (.val (leave b L G (tupA vs)), G) := id rfl
theorem endR_ite {p : Prop} [Decidable p] {x y : Option Out} : endR P b rs (if p then x else y) = if p then endR P b rs x else endR P b rs y := by split <;> rfl
theorem res_nil : resAs P e L G [] = some [] := id rfl
theorem res_tmp {t : Nat} {l : List ResultVar} : resAs P e L G (.tmp t :: l) = (resAs P e L G l).map fun vs => getE e t :: vs := id rfl
theorem res_cell {t : Nat} {ty : TypeId} {l : List ResultVar} : resAs P e L G (.cell t ty :: l) = (loadA P ty (getE e t) L G).bind fun v => (resAs P e L G l).map fun vs => v :: vs := id rfl
theorem tup_one {v : AV} : tupA [v] = v := id rfl
theorem tup_two {v u : AV} {l : List AV} : tupA (v :: u :: l) = .tup (v :: u :: l) := id rfl
theorem tup_nil : tupA [] = .tup [] := id rfl
attribute [go_sem] endR_nor endR_ret endR_ite res_nil res_tmp res_cell tup_one tup_two tup_nil leave leaves
end
theorem cfg_P {P : Program} {A : Ann} : (cfg P A).P = P := id rfl
theorem cfg_A {P : Program} {A : Ann} : (cfg P A).A = A := id rfl
/-- a loop: from state to state, till it ends -/
theorem loop_res {σ : Type} {K : List Nat} {k : Nat} {b : Env → Hp → Hp → Option Out} (env : σ → Env) (L G : σ → Hp) (I : σ → Prop) (μ : σ → Nat) (res : σ → Option Out)
    (h : ∀ s, I s → ∃ r, seqA (b (env s) (L s) (G s)) (fun e' L' G' => loopW K k b (killE K e') (trim k (killE K e') L') G') = r ∧
      ((∃ s', I s' ∧ μ s' < μ s ∧ res s' = res s ∧ r = loopW K k b (env s') (L s') (G s')) ∨ r = res s)) : ∀ s, I s → loopW K k b (env s) (L s) (G s) = res s := by
  intro s
  generalize hn : μ s = n
  induction n using Nat.strongRecOn generalizing s with
  | _ n ih =>
    intro hI
    rw [loopW_eq]
    obtain ⟨r, h0, h⟩ := h s hI
    rw [h0]
    rcases h with ⟨s', h1, h2, h3, h4⟩ | h
    · rw [h4, ← h3]
      exact ih _ (by omega) s' rfl h1
    · exact h
/-- a loop of which only a property of its end is asked -/
theorem loop_ex {σ : Type} {K : List Nat} {k : Nat} {b : Env → Hp → Hp → Option Out} (env : σ → Env) (L G : σ → Hp) (I : σ → Prop) (μ : σ → Nat) (Q : Out → Prop)
    (h : ∀ s, I s → ∃ r, seqA (b (env s) (L s) (G s)) (fun e' L' G' => loopW K k b (killE K e') (trim k (killE K e') L') G') = r ∧
      ((∃ s', I s' ∧ μ s' < μ s ∧ r = loopW K k b (env s') (L s') (G s')) ∨ ∃ o, r = some o ∧ Q o)) : ∀ s, I s → ∃ o, loopW K k b (env s) (L s) (G s) = some o ∧ Q o := by
  intro s
  generalize hn : μ s = n
  induction n using Nat.strongRecOn generalizing s with
  | _ n ih =>
    intro hI
    rw [loopW_eq]
    obtain ⟨r, h0, h⟩ := h s hI
    rw [h0]
    rcases h with ⟨s', h1, h2, h4⟩ | h
    · rw [h4]
      exact ih _ (by omega) s' rfl h1
    · exact h
theorem trim_nil {k : Nat} {e : Env} : trim k e [] = [] := by unfold trim; simp
theorem wrap_in {n : Int} (h : -9223372036854775808 ≤ n) (h' : n ≤ 9223372036854775807) : IntKind.i64.wrap n = n := by
  unfold IntKind.wrap; simp [IntKind.bits, IntKind.signed]; omega
theorem nat_neg {i : Nat} : ((i : Int) < 0) = False := by simp
attribute [go_sem] if_true if_false ne_eq not_true_eq_false not_false_eq_true reduceCtorEq decide_eq_true_eq List.length_nil beq_iff_eq Int.ofNat_lt Int.toNat_natCast nat_neg decide_true decide_false
section
variable {L G : Hp} {p : Prop} [Decidable p]
theorem valA_if {x : Option AV} : valA L G (if p then x else none) = if p then valA L G x else none := by split <;> rfl
theorem stepA_if {x : Option (Rs × Hp × Hp)} {e : Env} {k : AV → Hp → Hp → Option Out} : stepA (if p then x else none) e k = if p then stepA x e k else none := by split <;> rfl
theorem stepD_if {x : Option (Rs × Hp × Hp)} {k : AV → Hp → Hp → Option Out} : stepD (if p then x else none) k = if p then stepD x k else none := by split <;> rfl
theorem seqA_if {x : Option Out} {k : Env → Hp → Hp → Option Out} : seqA (if p then x else none) k = if p then seqA x k else none := by split <;> rfl
theorem blockA_if {i : Nat} {x : Option Out} : blockA i (if p then x else none) = if p then blockA i x else none := by split <;> rfl
theorem liveA_if {K : List Nat} {x : Option Out} : liveA (some K) (if p then x else none) = if p then liveA (some K) x else none := by split <;> rfl
theorem endR_if {P : Program} {b : Bool} {rs : List ResultVar} {x : Option Out} : endR P b rs (if p then x else none) = if p then endR P b rs x else none := by split <;> rfl
end
attribute [go_sem] valA_if stepD_if
theorem flat_def {v : AV} : v.flat = v.cells.all AV.isCell := id rfl
theorem part_f {v : AV} {o n : Nat} : v.part o false n = v.cells[o]? := id rfl
attribute [go_sem] beq_self_eq_true handAs handA Tok.drop AV.noL AV.pf noLs pfs AV.refs refss Tok.refs AV.put
attribute [go_sem] slot_nil slot_cons slots_nil slots_cons draws_nil draws_step draws_yes draws_no clsOf ds_move ds_assign ds_pick ds_build ds_buildSlice ds_nilCheck ds_binOp ds_unOp ds_convert ds_fieldAddr ds_field ds_index ds_extract ds_makeInterface ds_alloc ds_box ds_store ds_makeFunc ds_append tok_no tok_full tok_own ds_len ds_min ds_max ds_load ds_indexAddr ds_slice ds_call oldPtr List.replicate_zero List.replicate_succ
theorem eq_t {b : Bool} : (b == true) = b := by cases b <;> rfl
theorem eq_f {b : Bool} : (b == false) = !b := by cases b <;> rfl
attribute [go_sem] Option.isSome_some Option.isSome_none Option.isNone_some Option.isNone_none eq_t eq_f Bool.false_eq_true Bool.or_true Bool.or_false Bool.true_or Bool.false_or Bool.false_and Bool.and_false List.length_map false_or or_false false_and and_false loadA indexAddrA rowAt hpOf elemsOf storeA setHp fieldA lenS boundA sliceA szOk convA minA maxA part_f want_guard List.getElem?_toArray List.getElem?_cons_zero List.getElem?_cons_succ List.map_cons List.map_nil ofVal_str buildA fillA AV.cells flat_def AV.isCell List.all_cons List.all_nil List.take_succ_cons List.drop_succ_cons List.take_zero List.drop_zero
  List.nil_append List.cons_append List.append_nil List.length_cons Bool.and_true Bool.true_and Bool.and_self Bool.not_true Bool.not_false and_self and_true true_and or_true true_or Nat.zero_mul Nat.mul_one Nat.one_mul Nat.add_zero Nat.zero_add Int.natCast_nonneg
attribute [go_sem] trim_nil cfg_P cfg_A Option.map_some Option.map_none Option.bind_some Option.bind_none binA unA lenA indexA intOf
theorem part_agg {cs : List AV} {n : Nat} : (AV.agg cs).part 0 true n = if n = cs.length then some (.agg cs) else if n ≤ cs.length then some (.agg (cs.take n)) else none := by
  simp [AV.part, AV.cells]
theorem deepS_no {both : Bool} {L G : Hp} {n : Nat} {es : List AV} (h : ∀ v ∈ es, hasHs v = false) : deepS both L G n es = handAs true es := by
  cases n with
  | zero => rfl
  | succ n =>
    rw [deepS, if_neg]
    intro e
    obtain ⟨v, hv, h'⟩ := List.any_eq_true.1 e
    rw [h v hv] at h'
    cases h'
theorem handY_nil : handY (.sl [] .full) = .sl [] .full := id rfl
theorem handY_bool {b : Bool} : handY (.bool b) = .bool b := id rfl
theorem handY_int {k : IntKind} {n : Int} : handY (.int k n) = .int k n := id rfl
theorem handY_str {s : List UInt8} : handY (.str s) = .str s := id rfl
theorem handY_agg {cs : List AV} : handY (.agg cs) = handA true (.agg cs) := id rfl
theorem handY_no {es : List AV} : handY (.sl es .no) = .sl es .no := by cases es <;> rfl
theorem handY_own {es : List AV} {l : Bool} {a : Nat} : handY (.sl es (.own l a)) = .sl es .no := by cases es <;> rfl
theorem handX_nil : handX [] = [] := id rfl
theorem handX_one : handX [.sl [] .full] = [.sl [] .full] := id rfl
theorem handX_agg {cs : List AV} {l : List AV} : handX (.agg cs :: l) = handA true (.agg cs) :: handAs true l := by cases l <;> rfl
theorem handX_str {s : List UInt8} {l : List AV} : handX (.str s :: l) = .str s :: handAs true l := by cases l <;> rfl
theorem handX_int {k : IntKind} {n : Int} {l : List AV} : handX (.int k n :: l) = .int k n :: handAs true l := by cases l <;> rfl
theorem handX_map {α : Type} (f : α → AV) (h : ∀ x, handA true (f x) = f x) (l : List α) : handX (l.map f) = l.map f := by
  have hl : ∀ l : List α, handAs true (l.map f) = l.map f := fun l => by
    induction l with
    | nil => rfl
    | cons a l ih => rw [List.map_cons, handAs, ih, h]
  unfold handX
  split
  · next e => exact e.symm
  · exact hl l
attribute [go_sem] part_agg Option.getD_some Option.getD_none handY_nil handY_bool handY_int handY_str handY_agg handY_no handY_own handX_nil handX_one handX_agg handX_str handX_int
end Ev
