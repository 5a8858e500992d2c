/- Regions that draw their order: in whatever order, they come to the same. -/
import Derived.Test.YtecflllnnbiheaaEv10
set_option maxHeartbeats 4000000
set_option linter.unusedVariables false
set_option linter.unusedSimpArgs false
namespace Ev
open Go

/-! ### what an operation reads -/
theorem opd_congr {e e' : Env} {x : Operand} (h : ∀ t ∈ tmpsOf x, getE? e t = getE? e' t) : opd e x = opd e' x := by
  cases x with
  | tmp t =>
    have := h t (by simp [tmpsOf])
    simp only [opd, getE_of, this]
  | _ => rfl
theorem reads_opd {ops : Array Oper} {o : Oper} {e e' : Env} (h : ∀ t ∈ readsOf ops o, getE? e t = getE? e' t) : ∀ x ∈ o.op.operands, opd e x = opd e' x := fun x hx =>
  opd_congr fun t ht => h t (List.mem_append_left _ (List.mem_flatMap.2 ⟨x, by simpa using hx, ht⟩))

theorem wanted_congr {ops : Array Oper} {o : Oper} {e e' : Env} (h : ∀ t ∈ readsOf ops o, getE? e t = getE? e' t) : wantedA ops o e = wantedA ops o e' := by
  unfold wantedA
  cases hg : o.guard with
  | none => rfl
  | some jw =>
    obtain ⟨j, want⟩ := jw
    simp only
    cases hd : (ops[j]?).bind (·.dst) with
    | none => rfl
    | some d =>
      have := h d (List.mem_append_right _ (by rw [hg]; simp [hd]))
      simp only [this]

theorem evOp0_congr {P : Program} {A : Ann} {f : Nat} {sl : Option Nat} {o : Oper} {e e' : Env} {L G : Hp} (h : ∀ x ∈ o.op.operands, opd e x = opd e' x) : evOp0 P A f sl o e L G = evOp0 P A f sl o e' L G := by
  obtain ⟨dst, op, type, pos, after, guard⟩ := o
  have pairs : ∀ (F : AV → AV) (ps : Array (Nat × Operand)), (∀ x ∈ ps.toList.map (·.2), opd e x = opd e' x) → (ps.toList.map fun p => (p.1, F (opd e p.2))) = (ps.toList.map fun p => (p.1, F (opd e' p.2))) := fun F ps hp =>
    List.map_congr_left fun p hm => by rw [hp p.2 (List.mem_map.2 ⟨p, hm, rfl⟩)]
  cases op <;> simp only [Op.operands] at h <;> simp only [evOp0]
  case build t ps =>
    have := pairs id ps (fun x hx => h x (by simpa using hx))
    simp only [id] at this
    rw [this]
  case buildSlice t n ps => rw [pairs handY ps fun x hx => h x (by simpa using hx)]
  case makeFunc fn first captured => rw [List.map_congr_left (f := opd e) (g := opd e') (l := captured.toList) fun x hx => h x (by simp [Array.mem_toList_iff.1 hx])]
  case makeMap t r => cases r <;> rfl
  case slice t x lo hi mx => cases lo <;> cases hi <;> cases mx <;> simp_all
  case call c =>
    have ha : ∀ x ∈ c.args.toList, opd e x = opd e' x := fun x hx => h x (by simp [Call.operands, Array.mem_toList_iff.1 hx])
    have hm : ∀ (l : List Operand), (∀ x ∈ l, opd e x = opd e' x) → l.map (opd e) = l.map (opd e') := fun l hl => List.map_congr_left hl
    generalize c.args.toList = l at ha
    generalize c.argTypes.toList = ts
    cases hc : c.callee with
    | builtin b =>
      cases b <;> simp only
      case len => cases l with
        | nil => rfl
        | cons x l => cases l with
          | nil => cases ts with
            | nil => rfl
            | cons t ts => cases ts with
              | nil => simp only [ha x (by simp)]
              | cons _ _ => rfl
          | cons _ _ => rfl
      case append => cases l with
        | nil => rfl
        | cons x l => cases l with
          | nil => rfl
          | cons y l => cases l with
            | nil => cases ts with
              | nil => rfl
              | cons t ts => cases ts with
                | nil => rfl
                | cons t' ts => cases ts with
                  | nil => simp only [ha x (by simp), ha y (by simp)]
                  | cons _ _ => rfl
            | cons _ _ => rfl
      case copy => cases l with
        | nil => rfl
        | cons x l => cases l with
          | nil => rfl
          | cons y l => cases l with
            | nil => cases ts with
              | nil => rfl
              | cons t ts => cases ts with
                | nil => rfl
                | cons t' ts => cases ts with
                  | nil => simp only [ha x (by simp), ha y (by simp)]
                  | cons _ _ => rfl
            | cons _ _ => rfl
      case max => cases l with
        | nil => rfl
        | cons x l => simp only; rw [ha x (by simp), hm l fun y hy => ha y (by simp [hy])]
      case min => cases l with
        | nil => rfl
        | cons x l => simp only; rw [ha x (by simp), hm l fun y hy => ha y (by simp [hy])]
    | _ => rfl
  all_goals (first | rfl | (simp_all; done))

theorem evOp_congr {C : Cfg} {ops : Array Oper} {f base : Nat} {sl : Option Nat} {o : Oper} {e e' : Env} {L G : Hp} (h : ∀ t ∈ readsOf ops o, getE? e t = getE? e' t) :
    evOp C f sl o e L G = evOp C f sl o e' L G ∧ drawStep C f base o e = drawStep C f base o e' := by
  have ho := reads_opd h
  have h0 := evOp0_congr (P := C.P) (A := C.A) (f := f) (sl := sl) (L := L) (G := G) ho
  obtain ⟨dst, op, type, pos, after, guard⟩ := o
  constructor
  · unfold evOp
    cases op with
    | call c =>
      obtain ⟨callee, args, argTypes⟩ := c
      cases callee with
      | value F =>
        simp only [calleeOf]
        simp only [Op.operands, Call.operands] at ho
        rw [ho F (by simp), List.map_congr_left (f := opd e) (g := opd e') (l := args.toList) fun x hx => ho x (by simp [Array.mem_toList_iff.1 hx])]
      | _ => exact h0
    | _ => exact h0
  · unfold drawStep
    cases op with
    | load t x => simp only; rw [ho x (by simp [Op.operands])]
    | indexAddr t x y => simp only; rw [ho x (by simp [Op.operands])]
    | slice t x lo hi mx => simp only; rw [ho x (by simp [Op.operands])]
    | call c =>
      obtain ⟨callee, args, argTypes⟩ := c
      have hm : args.toList.map (opd e) = args.toList.map (opd e') := List.map_congr_left fun x hx => ho x (by simp [Op.operands, Call.operands, Array.mem_toList_iff.1 hx])
      cases callee with
      | value F => cases F <;> simp only [hm]
      | builtin b => cases b <;> first | rfl | simp only [hm]
      | invoke _ _ => rfl
    | _ => rfl

/-! ### kinds of operations -/
theorem isNone_of {α : Type} {x : Option α} (h : ¬ x.isSome = true) : x = none := by cases x with
  | none => rfl
  | some _ => exact absurd rfl h
/-- a: no heap -/
theorem cls_a {C : Cfg} {f base : Nat} {sl : Option Nat} {o : Oper} {e : Env} (hc : clsOf C f o = .a) (hd : drawStep C f base o e = true) : ∃ X : Option Rs, ∀ L G, evOp C f sl o e L G = X.map fun r => (r, L, G) := by
  have hv : ∀ (X : Option AV) (F : Hp → Hp → Option (Rs × Hp × Hp)), (∀ L G, F L G = valA L G X) → ∃ X : Option Rs, ∀ L G, F L G = X.map fun r => (r, L, G) := fun X F h =>
    ⟨X.map .val, fun L G => by rw [h]; cases X <;> rfl⟩
  have hn : ∀ (F : Hp → Hp → Option (Rs × Hp × Hp)), (∀ L G, F L G = none) → ∃ X : Option Rs, ∀ L G, F L G = X.map fun r => (r, L, G) := fun F h => ⟨none, fun L G => by rw [h]; rfl⟩
  obtain ⟨dst, op, type, pos, after, guard⟩ := o
  unfold evOp
  cases op
  case move x => exact hv _ _ fun L G => rfl
  case assign x => exact hv _ _ fun L G => rfl
  case pick c x y =>
    simp only [calleeOf, evOp0]
    cases opd e c with
    | bool t => exact hv _ _ fun L G => rfl
    | _ => exact hn _ fun L G => rfl
  case build t ps => exact hv _ _ fun L G => rfl
  case buildSlice t n ps =>
    simp only [calleeOf, evOp0]
    cases elemT C.P t with
    | none => exact hn _ fun L G => rfl
    | some el =>
      simp only [Option.bind_some]
      cases zeroT C.P el with
      | none => exact hn _ fun L G => rfl
      | some z =>
        simp only [Option.bind_some]
        cases listA (szT C.P el) (List.replicate n z) (ps.toList.map fun p => (p.1, handY (opd e p.2))) with
        | none => exact hn _ fun L G => rfl
        | some es =>
          simp only [Option.bind_some]
          by_cases hcond : n * szT C.P el ≤ 2 ^ 20 ∧ zeroSz C.P el = szT C.P el ∧ z.flat = true ∧ C.A.rows f (dst.getD 0) = false
          · exact ⟨some (.val (.sl es .full)), fun L G => by rw [if_pos hcond]; rfl⟩
          · exact hn _ fun L G => by rw [if_neg hcond]
  case nilCheck x =>
    simp only [calleeOf, evOp0]
    cases opd e x with
    | ptr loc b g i k => exact ⟨some (.val (.ptr loc b g i k)), fun L G => rfl⟩
    | rptr v k => exact ⟨some (.val (.rptr v k)), fun L G => rfl⟩
    | fn g cs => exact ⟨some (.val (.fn g cs)), fun L G => rfl⟩
    | _ => exact hn _ fun L G => rfl
  case binOp op t x y t' => exact hv _ _ fun L G => rfl
  case unOp op t x => exact hv _ _ fun L G => rfl
  case convert t t' x => exact hv _ _ fun L G => rfl
  case makeInterface t x => exact hv _ _ fun L G => rfl
  case makeFunc fn fst caps =>
    simp only [calleeOf, evOp0]
    cases fn with
    | func g =>
      simp only
      by_cases h0 : fst.size = 0
      · exact hv (some (.fn g (caps.toList.map (opd e)))) _ fun L G => by rw [if_pos h0]
      · exact hn _ fun L G => by rw [if_neg h0]
    | _ => exact hn _ fun L G => rfl
  case fieldAddr t x k => exact hv _ _ fun L G => rfl
  case field t x k => exact hv _ _ fun L G => rfl
  case index t x i => exact hv _ _ fun L G => rfl
  case extract x i =>
    simp only [calleeOf, evOp0]
    cases opd e x with
    | tup vs => exact hv _ _ fun L G => rfl
    | _ => exact hn _ fun L G => rfl
  case call c =>
    obtain ⟨callee, args, argTypes⟩ := c
    cases callee with
    | invoke _ _ => cases hc
    | builtin b =>
      cases b <;> simp only [calleeOf, evOp0]
      case len =>
        cases args.toList with
        | nil => exact hn _ fun L G => rfl
        | cons x l => cases l with
          | cons _ _ => exact hn _ fun L G => rfl
          | nil => cases argTypes.toList with
            | nil => exact hn _ fun L G => rfl
            | cons t ts => cases ts with
              | nil => exact hv _ _ fun L G => rfl
              | cons _ _ => exact hn _ fun L G => rfl
      case max =>
        cases args.toList with
        | nil => exact hn _ fun L G => rfl
        | cons x l => exact hv _ _ fun L G => rfl
      case min =>
        cases args.toList with
        | nil => exact hn _ fun L G => rfl
        | cons x l => exact hv _ _ fun L G => rfl
      case append =>
        simp only [clsOf] at hc
        split at hc <;> first | cases hc | (split at hc <;> cases hc)
      case copy => cases hc
      all_goals exact hn _ fun L G => rfl
    | value F =>
      cases F with
      | func g =>
        simp only [clsOf] at hc
        by_cases hs : (C.A.sees g || (C.A.orc g).isSome) = true
        · rw [if_pos hs] at hc; cases hc
        · have hs1 : C.A.sees g = false := by cases hx : C.A.sees g with
            | true => rw [hx] at hs; exact absurd rfl hs
            | false => rfl
          have hs2 : C.A.orc g = none := by
            cases hx : C.A.orc g with
            | none => rfl
            | some _ => rw [hs1, hx] at hs; exact absurd rfl hs
          have hp : pfs (handAs true (args.toList.map (opd e))) = true := by
            simp only [drawStep, hs1, hs2] at hd
            simpa using hd
          simp only [calleeOf, opd, List.append_nil, callA, hs1, hs2]
          simp only [Bool.false_eq_true, if_false]
          cases hcall : C.call g (handAs true (args.toList.map (opd e))) [] with
          | none => exact hn _ fun L G => by rw [if_pos hp]
          | some rg =>
            obtain ⟨r, G1⟩ := rg
            cases r with
            | val v =>
              by_cases hv' : v.pf = true
              · exact ⟨some (.val v), fun L G => by rw [if_pos hp]; simp only [hv', if_true]; rfl⟩
              · exact hn _ fun L G => by rw [if_pos hp]; simp only [hv', if_false, Bool.false_eq_true]
            | pan v =>
              by_cases hv' : v.pf = true
              · exact ⟨some (.pan v), fun L G => by rw [if_pos hp]; simp only [hv', if_true]; rfl⟩
              · exact hn _ fun L G => by rw [if_pos hp]; simp only [hv', if_false, Bool.false_eq_true]
      | _ => cases hc
  all_goals (simp only [clsOf] at hc; first | cases hc | (split at hc <;> first | cases hc | (split at hc <;> cases hc)))

/-- rows that are older are the same -/
def RowsLe (base : Nat) (L G L' G' : Hp) : Prop := ∀ loc b gen es, (loc = true → b < base) → (hpOf loc L G)[b]? = some (.row gen es) → (hpOf loc L' G')[b]? = some (.row gen es)
theorem rowAt_le {base : Nat} {L G L' G' : Hp} (h : RowsLe base L G L' G') {loc : Bool} {b gen i : Nat} {v : AV} (hb : loc = true → b < base) (hr : rowAt (hpOf loc L G) b gen i = some v) : rowAt (hpOf loc L' G') b gen i = some v := by
  unfold rowAt at hr ⊢
  cases hx : (hpOf loc L G)[b]? with
  | none => rw [hx] at hr; cases hr
  | some blk =>
    rw [hx] at hr
    cases blk with
    | row gen' es => rw [h loc b gen' es hb hx]; exact hr
    | _ => cases hr
/-- b: rows are read -/
theorem cls_b {C : Cfg} {f base : Nat} {sl : Option Nat} {o : Oper} {e : Env} (hc : clsOf C f o = .b) (hd : drawStep C f base o e = true) {L G L' G' : Hp} {r : Rs} (h : evOp C f sl o e L G = some (r, L', G')) :
    L' = L ∧ G' = G ∧ ∀ L2 G2, RowsLe base L G L2 G2 → evOp C f sl o e L2 G2 = some (r, L2, G2) := by
  have hold : ∀ {v : AV} {loc : Bool} {b g i k : Nat}, oldPtr base v = true → v = .ptr loc b g i k → loc = true → b < base := fun h1 h2 h3 => by subst h2; subst h3; simpa [oldPtr] using h1
  have hold' : ∀ {v : AV} {loc : Bool} {b g i k : Nat}, oldPtr base v = true → v = .hs loc b g i k → loc = true → b < base := fun h1 h2 h3 => by subst h2; subst h3; simpa [oldPtr] using h1
  obtain ⟨dst, op, type, pos, after, guard⟩ := o
  unfold evOp at h ⊢
  cases op
  case load t x =>
    simp only [calleeOf, evOp0] at h ⊢
    obtain ⟨v, hv, rfl, rfl, rfl⟩ := valA_spec h
    refine ⟨rfl, rfl, fun L2 G2 hle => ?_⟩
    simp only [drawStep] at hd
    have : loadA C.P t (opd e x) L2 G2 = some v := by
      cases hx : opd e x with
      | ptr loc b gen i k =>
        rw [hx] at hv hd
        simp only [loadA] at hv ⊢
        replace hv := Option.bind_eq_some_iff.1 hv
        obtain ⟨⟨ag, n⟩, ht, hv⟩ := hv
        replace hv := Option.bind_eq_some_iff.1 hv
        obtain ⟨u, hu, hv⟩ := hv
        rw [ht]
        simp only [Option.bind_some]
        rw [rowAt_le hle (hold hd rfl) hu]
        exact hv
      | rptr u k => rw [hx] at hv; exact hv
      | _ => rw [hx] at hv; cases hv
    rw [this]
    rfl
  case indexAddr t x i =>
    simp only [calleeOf, evOp0] at h ⊢
    obtain ⟨v, hv, rfl, rfl, rfl⟩ := valA_spec h
    refine ⟨rfl, rfl, fun L2 G2 hle => ?_⟩
    simp only [drawStep] at hd
    have : indexAddrA C.P t (opd e x) (opd e i) L2 G2 = some v := by
      unfold indexAddrA at hv ⊢
      replace hv := Option.bind_eq_some_iff.1 hv
      obtain ⟨n, hn, hv⟩ := hv
      rw [hn]
      simp only [Option.bind_some]
      by_cases h0 : n < 0
      · rw [if_pos h0] at hv; cases hv
      rw [if_neg h0] at hv ⊢
      cases hel : elemT C.P t with
      | none => rw [hel] at hv; exact hv
      | some el =>
        rw [hel] at hv
        simp only at hv ⊢
        cases hx : opd e x with
        | hs loc b g off len =>
          rw [hx] at hv hd
          simp only at hv ⊢
          by_cases hl : n.toNat < len
          · rw [if_pos hl] at hv ⊢
            replace hv := Option.bind_eq_some_iff.1 hv
            obtain ⟨u, hu, hv⟩ := hv
            rw [rowAt_le hle (hold' hd rfl) hu]
            exact hv
          · rw [if_neg hl] at hv; cases hv
        | _ => rw [hx] at hv; exact hv
    rw [this]
    rfl
  case slice t x lo hi mx =>
    simp only [calleeOf, evOp0] at h ⊢
    obtain ⟨v, hv, rfl, rfl, rfl⟩ := valA_spec h
    refine ⟨rfl, rfl, fun L2 G2 hle => ?_⟩
    simp only [drawStep] at hd
    have : sliceA C.P t (opd e x) (lo.map (opd e)) (hi.map (opd e)) (mx.map (opd e)) L2 G2 = some v := by
      cases hx : opd e x with
      | hs loc b g off len =>
        rw [hx] at hv hd
        simp only [sliceA] at hv ⊢
        replace hv := Option.bind_eq_some_iff.1 hv
        obtain ⟨el, hel, hv⟩ := hv
        rw [hel]
        simp only [Option.bind_some]
        by_cases hm : (mx.map (opd e)).isSome = true
        · rw [if_pos hm] at hv; cases hv
        rw [if_neg hm] at hv ⊢
        replace hv := Option.bind_eq_some_iff.1 hv
        obtain ⟨h', hh, hv⟩ := hv
        rw [hh]
        simp only [Option.bind_some]
        replace hv := Option.bind_eq_some_iff.1 hv
        obtain ⟨l', hl, hv⟩ := hv
        rw [hl]
        simp only [Option.bind_some]
        by_cases h1 : l' = h' ∧ (l' ≠ 0 ∨ len = 0)
        · rw [if_pos h1] at hv ⊢; exact hv
        rw [if_neg h1] at hv ⊢
        by_cases h2 : l' = 0
        · rw [if_pos h2] at hv ⊢; exact hv
        rw [if_neg h2] at hv ⊢
        cases hb : (hpOf loc L' G')[b]? with
        | none => rw [hb] at hv; cases hv
        | some blk =>
          rw [hb] at hv
          cases blk with
          | row g' es => rw [hle loc b g' es (hold' hd rfl) hb]; exact hv
          | _ => cases hv
      | _ => rw [hx] at hv; exact hv
    rw [this]
    rfl
  case call c =>
    obtain ⟨callee, args, argTypes⟩ := c
    cases callee with
    | invoke _ _ => cases hc
    | builtin b => cases b <;> simp only [clsOf] at hc <;> first | cases hc | (split at hc <;> first | cases hc | (split at hc <;> cases hc))
    | value F => cases F <;> simp only [clsOf] at hc <;> first | cases hc | (split at hc <;> first | cases hc | (split at hc <;> cases hc))
  all_goals (simp only [clsOf] at hc; first | cases hc | (split at hc <;> first | cases hc | (split at hc <;> cases hc)))

/-- c: a block is made at its slot -/
theorem cls_c {C : Cfg} {f k : Nat} {o : Oper} {e : Env} (hc : clsOf C f o = .c) : ∃ X : Option AV, ∀ L G, evOp C f (some k) o e L G = X.map fun z => (.val (.ptr true k 0 0 0), L.set k (.row 0 [z]), G) := by
  have key : ∀ (z : AV), ∃ X : Option AV, ∀ L G, (if z.flat = true ∧ z.cells.length ≠ 0 ∧ (True ∨ z.noL = true) then
        some (Rs.val (.ptr true (newBlk true (some k) (.row 0 [z]) L G).fst 0 0 0), (newBlk true (some k) (.row 0 [z]) L G).2.fst, (newBlk true (some k) (.row 0 [z]) L G).2.snd)
      else none) = X.map fun z => (.val (.ptr true k 0 0 0), L.set k (.row 0 [z]), G) := fun z => by
    by_cases h : z.flat = true ∧ z.cells.length ≠ 0 ∧ (True ∨ z.noL = true)
    · exact ⟨some z, fun L G => by rw [if_pos h]; rfl⟩
    · exact ⟨none, fun L G => by rw [if_neg h]; rfl⟩
  obtain ⟨dst, op, type, pos, after, guard⟩ := o
  unfold evOp
  cases op
  case alloc t =>
    simp only [clsOf] at hc
    cases hg : C.A.glob f (dst.getD 0) with
    | true => rw [hg] at hc; cases hc
    | false =>
      simp only [calleeOf, evOp0, hg, Bool.not_false]
      cases zeroT C.P t with
      | none => exact ⟨none, fun L G => rfl⟩
      | some z => simp only [Option.bind_some]; exact key z
  case box t x =>
    simp only [clsOf] at hc
    cases hg : C.A.glob f (dst.getD 0) with
    | true => rw [hg] at hc; cases hc
    | false =>
      simp only [calleeOf, evOp0, hg, Bool.not_false]
      exact key _
  case call c =>
    obtain ⟨callee, args, argTypes⟩ := c
    cases callee with
    | invoke _ _ => cases hc
    | builtin b => cases b <;> simp only [clsOf] at hc <;> first | cases hc | (split at hc <;> first | cases hc | (split at hc <;> cases hc))
    | value F => cases F <;> simp only [clsOf] at hc <;> first | cases hc | (split at hc <;> first | cases hc | (split at hc <;> cases hc))
  all_goals (simp only [clsOf] at hc; first | cases hc | (split at hc <;> first | cases hc | (split at hc <;> cases hc)))

/-- t: a token's block is made or turned -/
theorem tokOk_spec {w : Bool} {l : List AV} (h : tokOk w l = true) : ∃ es t fs u, l = [.sl es t, .sl fs u] ∧ ∀ loc a, t = .own loc a → loc = w := by
  unfold tokOk at h
  split at h
  · next es t fs u =>
    refine ⟨es, t, fs, u, rfl, fun loc a e => ?_⟩
    subst e
    simpa using h
  · cases h
theorem cls_t {C : Cfg} {f base k : Nat} {o : Oper} {e : Env} (hc : clsOf C f o = .t) (hd : drawStep C f base o e = true) {L G L' G' : Hp} {r : Rs} (h : evOp C f (some k) o e L G = some (r, L', G')) :
    G' = G ∧ (L' = L ∨ ∃ m n sz, L' = L.set m (.tok n sz) ∧ (m = k ∨ ∃ n' sz', L[m]? = some (.tok n' sz'))) := by
  have hd0 := hd
  obtain ⟨dst, op, type, pos, after, guard⟩ := o
  unfold evOp at h
  cases op
  case call c =>
    obtain ⟨callee, args, argTypes⟩ := c
    cases callee with
    | invoke _ _ => cases hc
    | value F => cases F <;> simp only [clsOf] at hc <;> first | cases hc | (split at hc <;> first | cases hc | (split at hc <;> cases hc))
    | builtin b =>
      cases b
      case append =>
        simp only [drawStep, hc, if_true] at hd
        obtain ⟨es, tk, fs, u, hargs, htok⟩ := tokOk_spec hd
        simp only [clsOf] at hc
        have hg : C.A.glob f (dst.getD 0) = false := by
          cases hx : C.A.glob f (dst.getD 0) with
          | true => rw [hx] at hc; simp at hc <;> (split at hc <;> first | cases hc | (split at hc <;> cases hc))
          | false => rfl
        have hrw : C.A.rows f (dst.getD 0) = false := by
          cases hx : C.A.rows f (dst.getD 0) with
          | true => rw [hx] at hc; simp at hc
          | false => rfl
        simp only [calleeOf, evOp0] at h
        cases ha : args.toList with
        | nil => rw [ha] at h; cases h
        | cons x l => cases l with
          | nil => rw [ha] at h; cases h
          | cons y l => cases l with
            | cons _ _ => rw [ha] at h; cases h
            | nil =>
              rw [ha] at h hargs
              cases hts : argTypes.toList with
              | nil => rw [hts] at h; cases h
              | cons t ts => cases ts with
                | nil => rw [hts] at h; cases h
                | cons t' ts => cases ts with
                  | cons _ _ => rw [hts] at h; cases h
                  | nil =>
                    rw [hts] at h
                    simp only at h
                    replace h := Option.bind_eq_some_iff.1 h
                    obtain ⟨el, hel, h⟩ := h
                    split at h
                    · cases h
                    replace h := Option.bind_eq_some_iff.1 h
                    obtain ⟨xs, hxs, h⟩ := h
                    replace h := Option.map_eq_some_iff.1 h
                    obtain ⟨⟨v, L1, G1⟩, hap, h⟩ := h
                    simp only [Prod.mk.injEq] at h
                    obtain ⟨rfl, rfl, rfl⟩ := h
                    simp only [List.map_cons, List.map_nil, List.cons.injEq, and_true] at hargs
                    rw [hargs.1] at hap
                    unfold appendA at hap
                    simp only at hap
                    split at hap
                    · cases hap
                    split at hap
                    · cases hap; exact ⟨rfl, .inl rfl⟩
                    cases tk with
                    | no => cases hap
                    | full =>
                      simp only at hap
                      split at hap
                      · cases hap
                      rw [hrw, hg] at hap
                      simp only [Bool.false_eq_true, if_false, Bool.not_false, newBlk, if_true, newL, Option.some.injEq, Prod.mk.injEq] at hap
                      obtain ⟨_, h1, h2⟩ := hap
                      exact ⟨h2.symm, .inr ⟨k, _, _, h1.symm, .inl rfl⟩⟩
                    | own loc a =>
                      have hl : loc = true := htok loc a rfl
                      subst hl
                      simp only [hpOf, if_true] at hap
                      cases hb : L[a]? with
                      | none => rw [hb] at hap; cases hap
                      | some blk =>
                        rw [hb] at hap
                        cases blk with
                        | tok n sz' =>
                          simp only at hap
                          split at hap
                          · simp only [setHp, if_true, Option.some.injEq, Prod.mk.injEq] at hap
                            obtain ⟨_, h1, h2⟩ := hap
                            exact ⟨h2.symm, .inr ⟨a, _, _, h1.symm, .inr ⟨n, sz', hb⟩⟩⟩
                          · cases hap
                        | _ => cases hap
      all_goals (simp only [clsOf] at hc; cases hc)
  all_goals (simp only [clsOf] at hc; first | cases hc | (split at hc <;> first | cases hc | (split at hc <;> cases hc)))

/-- whatever it does: slots kept for others stay -/
theorem cls_g {C : Cfg} {f base : Nat} {sl : Option Nat} {o : Oper} {e : Env} (hc : clsOf C f o = .g) (hd : drawStep C f base o e = true) {L G L' G' : Hp} {r : Rs} (h : evOp C f sl o e L G = some (r, L', G')) :
    L' = L ∧ (G' = G ∨ (∃ n sz, G' = G ++ [.tok n sz]) ∨ ∃ m n sz, G' = G.set m (.tok n sz) ∧ ∃ n' sz', G[m]? = some (.tok n' sz')) := by
  have hd0 := hd
  obtain ⟨dst, op, type, pos, after, guard⟩ := o
  unfold evOp at h
  cases op
  case call c =>
    obtain ⟨callee, args, argTypes⟩ := c
    cases callee with
    | invoke _ _ => cases hc
    | value F => cases F <;> simp only [clsOf] at hc <;> first | cases hc | (split at hc <;> first | cases hc | (split at hc <;> cases hc))
    | builtin b =>
      cases b
      case append =>
        simp only [drawStep, hc, if_true, reduceCtorEq, if_false] at hd
        obtain ⟨es, tk, fs, u, hargs, htok⟩ := tokOk_spec hd
        simp only [clsOf] at hc
        have hg : C.A.glob f (dst.getD 0) = true := by
          cases hx : C.A.glob f (dst.getD 0) with
          | false => rw [hx] at hc; simp at hc; split at hc <;> cases hc
          | true => rfl
        have hrw : C.A.rows f (dst.getD 0) = false := by
          cases hx : C.A.rows f (dst.getD 0) with
          | true => rw [hx] at hc; simp at hc
          | false => rfl
        simp only [calleeOf, evOp0] at h
        cases ha : args.toList with
        | nil => rw [ha] at h; cases h
        | cons x l => cases l with
          | nil => rw [ha] at h; cases h
          | cons y l => cases l with
            | cons _ _ => rw [ha] at h; cases h
            | nil =>
              rw [ha] at h hargs
              cases hts : argTypes.toList with
              | nil => rw [hts] at h; cases h
              | cons t ts => cases ts with
                | nil => rw [hts] at h; cases h
                | cons t' ts => cases ts with
                  | cons _ _ => rw [hts] at h; cases h
                  | nil =>
                    rw [hts] at h
                    simp only at h
                    replace h := Option.bind_eq_some_iff.1 h
                    obtain ⟨el, hel, h⟩ := h
                    split at h
                    · cases h
                    replace h := Option.bind_eq_some_iff.1 h
                    obtain ⟨xs, hxs, h⟩ := h
                    replace h := Option.map_eq_some_iff.1 h
                    obtain ⟨⟨v, L1, G1⟩, hap, h⟩ := h
                    simp only [Prod.mk.injEq] at h
                    obtain ⟨rfl, rfl, rfl⟩ := h
                    simp only [List.map_cons, List.map_nil, List.cons.injEq, and_true] at hargs
                    rw [hargs.1] at hap
                    unfold appendA at hap
                    simp only at hap
                    split at hap
                    · cases hap
                    split at hap
                    · cases hap; exact ⟨rfl, .inl rfl⟩
                    cases tk with
                    | no => cases hap
                    | full =>
                      simp only at hap
                      split at hap
                      · cases hap
                      rw [hrw, hg] at hap
                      simp only [Bool.false_eq_true, if_false, Bool.not_true, newBlk, Option.some.injEq, Prod.mk.injEq] at hap
                      obtain ⟨_, h1, h2⟩ := hap
                      exact ⟨h1.symm, .inr (.inl ⟨_, _, h2.symm⟩)⟩
                    | own loc a =>
                      have hl : loc = false := htok loc a rfl
                      subst hl
                      simp only [hpOf, Bool.false_eq_true, if_false] at hap
                      cases hb : G[a]? with
                      | none => rw [hb] at hap; cases hap
                      | some blk =>
                        rw [hb] at hap
                        cases blk with
                        | tok n sz' =>
                          simp only at hap
                          split at hap
                          · simp only [setHp, Bool.false_eq_true, if_false, Option.some.injEq, Prod.mk.injEq] at hap
                            obtain ⟨_, h1, h2⟩ := hap
                            exact ⟨h1.symm, .inr (.inr ⟨a, _, _, h2.symm, n, sz', hb⟩)⟩
                          · cases hap
                        | _ => cases hap
      all_goals (simp only [clsOf] at hc; cases hc)
  all_goals (simp only [clsOf] at hc; first | cases hc | (split at hc <;> first | cases hc | (split at hc <;> cases hc)))

/-- whatever it does: slots kept for others stay -/
theorem set_dead {L : Hp} {k m : Nat} {x : Blk} (h : L[k]? = some .dead) (hm : L[m]? ≠ some .dead ∨ m ≠ k) : (L.set m x)[k]? = some .dead := by
  have : m ≠ k := by rcases hm with hm | hm; exact fun e => hm (by rw [e]; exact h); exact hm
  rw [List.getElem?_set_ne this]
  exact h
theorem setHp_dead {loc : Bool} {b k : Nat} {x y : Blk} {L G : Hp} (h : L[k]? = some .dead) (hb : (hpOf loc L G)[b]? = some y) (hy : y ≠ .dead) : (setHp loc b x L G).1[k]? = some .dead := by
  unfold setHp
  cases loc with
  | true =>
    rw [if_pos rfl]
    refine set_dead h (.inl fun e => ?_)
    simp only [hpOf, if_true] at hb
    rw [hb] at e
    exact hy (by cases e; rfl)
  | false => rw [if_neg (by simp)]; exact h
theorem newBlk_dead {loc : Bool} {sl : Option Nat} {x : Blk} {L G : Hp} {k : Nat} (h : L[k]? = some .dead) (hs : sl ≠ some k) : (newBlk loc sl x L G).2.1[k]? = some .dead := by
  unfold newBlk
  cases loc with
  | false => exact h
  | true =>
    rw [if_pos rfl]
    cases sl with
    | none =>
      simp only [newL]
      rw [List.getElem?_append_left (List.getElem?_eq_some_iff.1 h).1]
      exact h
    | some s =>
      simp only [newL]
      exact set_dead h (.inr fun e => hs (by rw [e]))
theorem appendA_dead {P : Program} {A : Ann} {f d : Nat} {el : TypeId} {sl : Option Nat} {s v : AV} {xs : List AV} {L G L' G' : Hp} {k : Nat} (hk : L[k]? = some .dead) (hs : sl ≠ some k) (h : appendA P A f d el sl s xs L G = some (v, L', G')) : L'[k]? = some .dead := by
  unfold appendA at h
  simp only at h
  split at h
  · cases h
  cases s with
  | sl es t =>
    simp only at h
    split at h
    · cases h; exact hk
    cases t with
    | no => cases h
    | full =>
      simp only at h
      split at h
      · cases h
      split at h
      · split at h
        · simp only [Option.some.injEq, Prod.mk.injEq] at h
          obtain ⟨_, h1, _⟩ := h
          rw [← h1]
          exact newBlk_dead hk hs
        · cases h
      · simp only [Option.some.injEq, Prod.mk.injEq] at h
        obtain ⟨_, h1, _⟩ := h
        rw [← h1]
        exact newBlk_dead hk hs
    | own loc a =>
      simp only at h
      cases hb : (hpOf loc L G)[a]? with
      | none => rw [hb] at h; cases h
      | some blk =>
        rw [hb] at h
        cases blk with
        | tok n sz =>
          simp only at h
          split at h
          · simp only [Option.some.injEq, Prod.mk.injEq] at h
            obtain ⟨_, h1, _⟩ := h
            rw [← h1]
            exact setHp_dead hk hb (by simp)
          · cases h
        | _ => cases h
  | hs loc b g off len =>
    simp only at h
    cases hb : (hpOf loc L G)[b]? with
    | none => rw [hb] at h; cases h
    | some blk =>
      rw [hb] at h
      cases blk with
      | row g' es =>
        simp only at h
        split at h
        · cases h
        split at h
        · simp only [Option.some.injEq, Prod.mk.injEq] at h
          obtain ⟨_, h1, _⟩ := h
          rw [← h1]
          exact setHp_dead hk hb (by simp)
        split at h
        · simp only [Option.some.injEq, Prod.mk.injEq] at h
          obtain ⟨_, h1, _⟩ := h
          rw [← h1]
          exact setHp_dead hk hb (by simp)
        · cases h
      | _ => cases h
  | _ => cases h
theorem storeA_dead {P : Program} {t : TypeId} {p x : AV} {L G L' G' : Hp} {k : Nat} (hk : L[k]? = some .dead) (h : storeA P t p x L G = some (L', G')) : L'[k]? = some .dead := by
  cases p with
  | ptr loc b g i o =>
    simp only [storeA] at h
    cases hb : (hpOf loc L G)[b]? with
    | none => rw [hb] at h; cases h
    | some blk =>
      rw [hb] at h
      cases blk with
      | row g' es =>
        simp only at h
        split at h
        · replace h := Option.bind_eq_some_iff.1 h
          obtain ⟨v, _, h⟩ := h
          replace h := Option.map_eq_some_iff.1 h
          obtain ⟨v', _, h⟩ := h
          have := setHp_dead (x := .row g (es.set i v')) hk hb (by simp)
          rw [h] at this
          exact this
        · cases h
      | _ => cases h
  | _ => cases h
theorem updateA_dead {P : Program} {t : TypeId} {m q v : AV} {L G L' G' : Hp} {k : Nat} (hk : L[k]? = some .dead) (h : updateA P t m q v L G = some (L', G')) : L'[k]? = some .dead := by
  unfold updateA at h
  replace h := Option.bind_eq_some_iff.1 h
  obtain ⟨⟨kt, el⟩, _, h⟩ := h
  simp only at h
  split at h
  · cases h
  cases m with
  | mp loc b =>
    simp only at h
    cases hb : (hpOf loc L G)[b]? with
    | none => rw [hb] at h; cases h
    | some blk =>
      rw [hb] at h
      cases blk with
      | map kvs =>
        simp only at h
        split at h
        · cases h
        replace h := Option.map_eq_some_iff.1 h
        obtain ⟨r, _, h⟩ := h
        cases r with
        | none =>
          have := setHp_dead (x := .map (kvs ++ [(q, v)])) hk hb (by simp)
          simp only at h
          rw [h] at this
          exact this
        | some p =>
          have := setHp_dead (x := .map (kvs.set p.1 (q, v))) hk hb (by simp)
          simp only at h
          rw [h] at this
          exact this
      | _ => cases h
  | _ => cases h
theorem copyA_dead {P : Program} {el : TypeId} {d : AV} {xs : List AV} {L G L' G' : Hp} {n k : Nat} (hk : L[k]? = some .dead) (h : copyA P el d xs L G = some (n, L', G')) : L'[k]? = some .dead := by
  unfold copyA at h
  split at h
  · cases h; exact hk
  · rename_i loc b gen off len
    cases hb : (hpOf loc L G)[b]? with
    | none => rw [hb] at h; cases h
    | some blk =>
      rw [hb] at h
      cases blk with
      | row g' es =>
        simp only at h
        split at h
        · simp only [Option.some.injEq, Prod.mk.injEq] at h
          obtain ⟨_, h1⟩ := h
          have := setHp_dead (x := .row gen (es.take off ++ handAs true (xs.take len) ++ es.drop (off + (handAs true (xs.take len)).length))) hk hb (by simp)
          rw [h1] at this
          exact this
        · cases h
      | _ => cases h
  · cases h
theorem callA_dead {C : Cfg} (ho : ∀ f F, C.A.orc f = some F → ∀ args L G v L' G', F args L G = some (v, L', G') → ∀ k : Nat, L[k]? = some .dead → L'[k]? = some .dead) {f : Nat} {args : List AV} {L G L' G' : Hp} {r : Rs} {k : Nat} (hk : L[k]? = some .dead)
    (h : callA C f args L G = some (r, L', G')) : L'[k]? = some .dead := by
  unfold callA at h
  cases hF : C.A.orc f with
  | some F =>
    rw [hF] at h
    simp only at h
    replace h := Option.map_eq_some_iff.1 h
    obtain ⟨⟨v, L1, G1⟩, h1, h⟩ := h
    simp only [Prod.mk.injEq] at h
    obtain ⟨_, rfl, _⟩ := h
    exact ho f F hF _ _ _ _ _ _ h1 k hk
  | none =>
    rw [hF] at h
    simp only at h
    have : L' = L := by
      repeat' (split at h)
      all_goals first | (cases h; rfl) | cases h
    rw [this]
    exact hk

theorem evOp_dead {C : Cfg} (ho : ∀ f F, C.A.orc f = some F → ∀ args L G v L' G', F args L G = some (v, L', G') → ∀ k : Nat, L[k]? = some .dead → L'[k]? = some .dead) {f : Nat} {sl : Option Nat} {o : Oper} {e : Env} {L G L' G' : Hp} {r : Rs} {k : Nat} (hk : L[k]? = some .dead)
    (hs : sl ≠ some k) (h : evOp C f sl o e L G = some (r, L', G')) : L'[k]? = some .dead := by
  have hvar : ∀ {loc : Bool} {z : AV}, (if z.flat ∧ z.cells.length ≠ 0 ∧ (loc = true ∨ z.noL = true) then
        let (b, L', G') := newBlk loc sl (.row 0 [z]) L G
        some (Rs.val (.ptr loc b 0 0 0), L', G')
      else none) = some (r, L', G') → L'[k]? = some .dead := fun {loc z} h => by
    split at h
    · simp only [Option.some.injEq, Prod.mk.injEq] at h
      obtain ⟨_, h1, _⟩ := h
      rw [← h1]
      exact newBlk_dead hk hs
    · cases h
  have hval : ∀ {X : Option AV}, valA L G X = some (r, L', G') → L'[k]? = some .dead := fun h => by
    obtain ⟨v, _, _, rfl, _⟩ := valA_spec h
    exact hk
  obtain ⟨dst, op, type, pos, after, guard⟩ := o
  unfold evOp at h
  cases hco : calleeOf op with
  | some ga =>
    obtain ⟨g, args⟩ := ga
    simp only [hco] at h
    split at h
    · exact callA_dead ho hk h
    · cases h
  | none =>
    simp only [hco] at h
    cases op <;> simp only [evOp0] at h <;> first | exact hval h | cases h | skip
    case pick c x y => split at h; exact hval h; cases h
    case alloc t =>
      replace h := Option.bind_eq_some_iff.1 h
      obtain ⟨z, _, h⟩ := h
      exact hvar h
    case box t x => exact hvar h
    case buildSlice t n ps =>
      replace h := Option.bind_eq_some_iff.1 h
      obtain ⟨el, _, h⟩ := h
      replace h := Option.bind_eq_some_iff.1 h
      obtain ⟨z, _, h⟩ := h
      replace h := Option.bind_eq_some_iff.1 h
      obtain ⟨es, _, h⟩ := h
      split at h
      · cases h; exact hk
      · cases h
    case store t x y =>
      replace h := Option.map_eq_some_iff.1 h
      obtain ⟨⟨L1, G1⟩, h1, h⟩ := h
      cases h
      exact storeA_dead hk h1
    case nilCheck x => split at h <;> first | (cases h; exact hk) | cases h
    case makeFunc fn fst caps => split at h; split at h; exact hval h; cases h; cases h
    case makeMap t rs =>
      cases rs with
      | some x => cases h
      | none =>
        simp only at h
        split at h
        · cases h
        · simp only [Option.some.injEq, Prod.mk.injEq] at h
          obtain ⟨_, h1, _⟩ := h
          rw [← h1]
          exact newBlk_dead hk hs
    case makeSlice t n c =>
      replace h := Option.bind_eq_some_iff.1 h
      obtain ⟨el, _, h⟩ := h
      replace h := Option.bind_eq_some_iff.1 h
      obtain ⟨z, _, h⟩ := h
      split at h
      · split at h
        · split at h
          · cases h; exact hk
          · simp only [Option.some.injEq, Prod.mk.injEq] at h
            obtain ⟨_, h1, _⟩ := h
            rw [← h1]
            exact newBlk_dead hk hs
        · cases h
      · cases h
    case insert t m q x =>
      replace h := Option.map_eq_some_iff.1 h
      obtain ⟨⟨L1, G1⟩, h1, h⟩ := h
      cases h
      exact updateA_dead hk h1
    case mapUpdate t m q x =>
      replace h := Option.map_eq_some_iff.1 h
      obtain ⟨⟨L1, G1⟩, h1, h⟩ := h
      cases h
      exact updateA_dead hk h1
    case extract x i => split at h; exact hval h; cases h
    case call c =>
      obtain ⟨callee, args, argTypes⟩ := c
      cases callee with
      | value F => cases h
      | invoke rv m => cases h
      | builtin b =>
        cases b <;> simp only at h <;> first | cases h | skip
        case len => split at h; exact hval h; cases h
        case max => split at h; exact hval h; cases h
        case min => split at h; exact hval h; cases h
        case append =>
          split at h
          · replace h := Option.bind_eq_some_iff.1 h
            obtain ⟨el, _, h⟩ := h
            split at h
            · cases h
            replace h := Option.bind_eq_some_iff.1 h
            obtain ⟨xs, _, h⟩ := h
            replace h := Option.map_eq_some_iff.1 h
            obtain ⟨⟨v, L1, G1⟩, hap, h⟩ := h
            cases h
            exact appendA_dead hk hs hap
          · cases h
        case copy =>
          split at h
          · replace h := Option.bind_eq_some_iff.1 h
            obtain ⟨el, _, h⟩ := h
            replace h := Option.bind_eq_some_iff.1 h
            obtain ⟨xs, _, h⟩ := h
            replace h := Option.map_eq_some_iff.1 h
            obtain ⟨⟨v, L1, G1⟩, hap, h⟩ := h
            cases h
            exact copyA_dead hk hap
          · cases h

/-! ### two operations change places -/
section
variable (C : Cfg) (f : Nat) (ops : Array Oper) (base : Nat)

def effX (x : Oper × Option Nat) (e : Env) (L G : Hp) : Option (AV × Hp × Hp) :=
  match wantedA ops x.1 e with
  | some true => if drawStep C f base x.1 e = true then (match evOp C f x.2 x.1 e L G with | some (.val v, L', G') => some (v, L', G') | _ => none) else none
  | some false => some (.tup [], L, G)
  | none => none
theorem draws_cons (x : Oper × Option Nat) (l : List (Oper × Option Nat)) (e : Env) (L G : Hp) :
    evDraws C f ops base (x :: l) e L G = (effX C f ops base x e L G).bind fun r => evDraws C f ops base l (putE e x.1.dst r.1) r.2.1 r.2.2 := by
  obtain ⟨o, sl⟩ := x
  rw [evDraws]
  unfold effX
  cases wantedA ops o e with
  | none => rfl
  | some b =>
    cases b with
    | false => rfl
    | true =>
      simp only [wantA]
      by_cases hd : drawStep C f base o e = true
      · rw [if_pos hd, if_pos hd]
        cases evOp C f sl o e L G with
        | none => rfl
        | some r =>
          obtain ⟨r, L', G'⟩ := r
          cases r <;> rfl
      · rw [if_neg hd, if_neg hd]; rfl

def Apart (oi oj : Oper) : Prop := (∀ d, oi.dst = some d → oj.dst ≠ some d ∧ d ∉ readsOf ops oj) ∧ ∀ d, oj.dst = some d → d ∉ readsOf ops oi
theorem put_reads {e : Env} {d : Option Tmp} {v : AV} {l : List Nat} (h : ∀ t, d = some t → t ∉ l) : ∀ t ∈ l, getE? (putE e d v) t = getE? e t := fun t ht => by
  cases d with
  | none => rfl
  | some d =>
    refine if_neg fun e => ?_
    subst e
    exact h d rfl ht
/-- the same to a reader -/
def EnvEq (e e' : Env) : Prop := ∀ t, getE? e t = getE? e' t
theorem EnvEq.put {e e' : Env} (h : EnvEq e e') (d : Option Tmp) (v : AV) : EnvEq (putE e d v) (putE e' d v) := fun t => by
  cases d with
  | none => exact h t
  | some d => simp only [putE, getE?]; rw [h t]
def OutEq (r r' : Out) : Prop := r.1 = r'.1 ∧ EnvEq r.2.1 r'.2.1 ∧ r.2.2 = r'.2.2
theorem OutEq.refl (r : Out) : OutEq r r := ⟨rfl, fun _ => rfl, rfl⟩
theorem OutEq.trans {r s t : Out} (h : OutEq r s) (k : OutEq s t) : OutEq r t := ⟨h.1.trans k.1, fun i => (h.2.1 i).trans (k.2.1 i), h.2.2.trans k.2.2⟩
variable {C f ops base}
theorem effX_congr {x : Oper × Option Nat} {e e' : Env} {L G : Hp} (h : ∀ t ∈ readsOf ops x.1, getE? e t = getE? e' t) : effX C f ops base x e L G = effX C f ops base x e' L G := by
  unfold effX
  obtain ⟨h1, h2⟩ := evOp_congr (C := C) (f := f) (base := base) (sl := x.2) (L := L) (G := G) h
  rw [wanted_congr h, h1, h2]
theorem put_comm {e : Env} {d d' : Option Tmp} {v v' : AV} (h : ∀ t, d = some t → d' ≠ some t) : EnvEq (putE (putE e d v) d' v') (putE (putE e d' v') d v) := fun t => by
  cases d with
  | none => rfl
  | some d => cases d' with
    | none => rfl
    | some d' =>
      simp only [putE, getE?]
      by_cases h1 : d' = t
      · rw [if_pos h1, if_neg (fun h2 => h d rfl (by rw [h1, h2])), if_pos h1]
      · rw [if_neg h1, if_neg h1]
theorem draws_congr : ∀ {l : List (Oper × Option Nat)} {e e' : Env} {L G : Hp} {r : Out}, EnvEq e e' → evDraws C f ops base l e L G = some r → ∃ r', evDraws C f ops base l e' L G = some r' ∧ OutEq r r'
  | [], e, e', L, G, r, he, h => by
    rw [evDraws] at h
    cases h
    exact ⟨_, rfl, rfl, he, rfl⟩
  | x :: l, e, e', L, G, r, he, h => by
    rw [draws_cons] at h
    replace h := Option.bind_eq_some_iff.1 h
    obtain ⟨r1, h1, h⟩ := h
    obtain ⟨r', h2, h3⟩ := draws_congr (he.put x.1.dst r1.1) h
    refine ⟨r', ?_, h3⟩
    rw [draws_cons, effX_congr (e' := e) (fun t _ => (he t).symm), h1]
    exact h2

def KA (C : Cfg) (f : Nat) (ops : Array Oper) (base : Nat) (x : Oper × Option Nat) (e : Env) : Prop := ∃ X : Option AV, ∀ L G, effX C f ops base x e L G = X.map fun v => (v, L, G)
def KB (C : Cfg) (f : Nat) (ops : Array Oper) (base : Nat) (x : Oper × Option Nat) (e : Env) : Prop := ∀ L G v L' G', effX C f ops base x e L G = some (v, L', G') → L' = L ∧ G' = G ∧ ∀ L2 G2, RowsLe base L G L2 G2 → effX C f ops base x e L2 G2 = some (v, L2, G2)
def KC (C : Cfg) (f : Nat) (ops : Array Oper) (base : Nat) (x : Oper × Option Nat) (e : Env) : Prop := ∃ k, x.2 = some k ∧ base ≤ k ∧ ∃ X : Option AV, ∀ L G, effX C f ops base x e L G = X.map fun z => (.ptr true k 0 0 0, L.set k (.row 0 [z]), G)
def KT (C : Cfg) (f : Nat) (ops : Array Oper) (base : Nat) (x : Oper × Option Nat) (e : Env) : Prop := ∀ L G v L' G', effX C f ops base x e L G = some (v, L', G') → RowsLe base L G L' G' ∧ RowsLe base L' G' L G

theorem skip_KA {x : Oper × Option Nat} {e : Env} (h : wantedA ops x.1 e ≠ some true) : KA C f ops base x e := by
  unfold KA effX
  cases hw : wantedA ops x.1 e with
  | none => exact ⟨none, fun L G => rfl⟩
  | some b => cases b with
    | false => exact ⟨some (.tup []), fun L G => rfl⟩
    | true => exact absurd hw h
theorem undrawn_KA {x : Oper × Option Nat} {e : Env} (h : drawStep C f base x.1 e ≠ true) : KA C f ops base x e := by
  by_cases hw : wantedA ops x.1 e = some true
  · exact ⟨none, fun L G => by unfold effX; rw [hw]; simp only [if_neg h]; rfl⟩
  · exact skip_KA hw
theorem a_KA {x : Oper × Option Nat} {e : Env} (h : clsOf C f x.1 = .a) : KA C f ops base x e := by
  by_cases hw : wantedA ops x.1 e = some true
  · by_cases hd : drawStep C f base x.1 e = true
    · obtain ⟨X, hX⟩ := cls_a (sl := x.2) h hd
      cases X with
      | none => exact ⟨none, fun L G => by unfold effX; rw [hw]; simp only [if_pos hd, hX L G]; rfl⟩
      | some r => cases r with
        | val v => exact ⟨some v, fun L G => by unfold effX; rw [hw]; simp only [if_pos hd, hX L G]; rfl⟩
        | pan v => exact ⟨none, fun L G => by unfold effX; rw [hw]; simp only [if_pos hd, hX L G]; rfl⟩
    · exact undrawn_KA hd
  · exact skip_KA hw
theorem effX_val {x : Oper × Option Nat} {e : Env} {L G L' G' : Hp} {v : AV} (hw : wantedA ops x.1 e = some true) (h : effX C f ops base x e L G = some (v, L', G')) : drawStep C f base x.1 e = true ∧ evOp C f x.2 x.1 e L G = some (.val v, L', G') := by
  unfold effX at h
  rw [hw] at h
  simp only at h
  by_cases hd : drawStep C f base x.1 e = true
  · rw [if_pos hd] at h
    refine ⟨hd, ?_⟩
    cases he : evOp C f x.2 x.1 e L G with
    | none => rw [he] at h; cases h
    | some r =>
      obtain ⟨r, L1, G1⟩ := r
      rw [he] at h
      cases r with
      | val u => cases h; rfl
      | pan u => cases h
  · rw [if_neg hd] at h; cases h
theorem KA.KB {x : Oper × Option Nat} {e : Env} (h : KA C f ops base x e) : KB C f ops base x e := fun L G v L' G' he => by
  obtain ⟨X, hX⟩ := h
  rw [hX] at he
  cases X with
  | none => cases he
  | some u => cases he; exact ⟨rfl, rfl, fun L2 G2 _ => hX L2 G2⟩
theorem b_KB {x : Oper × Option Nat} {e : Env} (h : clsOf C f x.1 = .b) : KB C f ops base x e := by
  by_cases hw : wantedA ops x.1 e = some true
  · intro L G v L' G' he
    obtain ⟨hd, hop⟩ := effX_val hw he
    obtain ⟨h1, h2, h3⟩ := cls_b h hd hop
    exact ⟨h1, h2, fun L2 G2 hle => by unfold effX; rw [hw]; simp only [if_pos hd, h3 L2 G2 hle]⟩
  · exact (skip_KA hw).KB
theorem c_KC {x : Oper × Option Nat} {e : Env} {k : Nat} (h : clsOf C f x.1 = .c) (hs : x.2 = some k) (hk : base ≤ k) : KA C f ops base x e ∨ KC C f ops base x e := by
  by_cases hw : wantedA ops x.1 e = some true
  · by_cases hd : drawStep C f base x.1 e = true
    · right
      obtain ⟨X, hX⟩ := cls_c (k := k) (e := e) h
      refine ⟨k, hs, hk, X, fun L G => ?_⟩
      unfold effX
      rw [hw]
      simp only [if_pos hd, hs, hX L G]
      cases X <;> rfl
    · exact .inl (undrawn_KA hd)
  · exact .inl (skip_KA hw)
theorem t_KT {x : Oper × Option Nat} {e : Env} {k : Nat} (h : clsOf C f x.1 = .t) (hs : x.2 = some k) (hk : base ≤ k) : KA C f ops base x e ∨ KT C f ops base x e := by
  by_cases hw : wantedA ops x.1 e = some true
  · right
    intro L G v L' G' he
    obtain ⟨hd, hop⟩ := effX_val hw he
    rw [hs] at hop
    obtain ⟨h1, h2⟩ := cls_t h hd hop
    subst h1
    rcases h2 with rfl | ⟨m, n, sz, rfl, hm⟩
    · exact ⟨fun _ _ _ _ _ h => h, fun _ _ _ _ _ h => h⟩
    · refine ⟨fun loc b gen es hb hr => ?_, fun loc b gen es hb hr => ?_⟩
      · cases loc with
        | false => exact hr
        | true =>
          simp only [hpOf, if_true] at hr ⊢
          have hne : m ≠ b := fun e => by
            subst e
            rcases hm with rfl | ⟨n', sz', hm⟩
            · have := hb rfl; omega
            · rw [hr] at hm; cases hm
          rw [List.getElem?_set_ne hne]
          exact hr
      · cases loc with
        | false => exact hr
        | true =>
          simp only [hpOf, if_true] at hr ⊢
          by_cases hne : m = b
          · subst hne
            rw [List.getElem?_set, if_pos rfl] at hr
            split at hr <;> cases hr
          · rw [List.getElem?_set_ne hne] at hr
            exact hr
  · exact .inl (skip_KA hw)

theorem g_KT {x : Oper × Option Nat} {e : Env} (h : clsOf C f x.1 = .g) : KA C f ops base x e ∨ KT C f ops base x e := by
  by_cases hw : wantedA ops x.1 e = some true
  · right
    intro L G v L' G' he
    obtain ⟨hd, hop⟩ := effX_val hw he
    obtain ⟨h1, h2⟩ := cls_g h hd hop
    subst h1
    rcases h2 with rfl | ⟨n, sz, rfl⟩ | ⟨m, n, sz, rfl, n', sz', hm⟩
    · exact ⟨fun _ _ _ _ _ h => h, fun _ _ _ _ _ h => h⟩
    · refine ⟨fun loc b gen es hb hr => ?_, fun loc b gen es hb hr => ?_⟩
      · cases loc with
        | true => exact hr
        | false =>
          simp only [hpOf, Bool.false_eq_true, if_false] at hr ⊢
          rw [List.getElem?_append_left (List.getElem?_eq_some_iff.1 hr).1]
          exact hr
      · cases loc with
        | true => exact hr
        | false =>
          simp only [hpOf, Bool.false_eq_true, if_false] at hr ⊢
          rw [List.getElem?_append] at hr
          split at hr
          · exact hr
          · rw [List.getElem?_singleton] at hr
            split at hr <;> cases hr
    · refine ⟨fun loc b gen es hb hr => ?_, fun loc b gen es hb hr => ?_⟩
      · cases loc with
        | true => exact hr
        | false =>
          simp only [hpOf, Bool.false_eq_true, if_false] at hr ⊢
          have hne : m ≠ b := fun e => by
            subst e
            rw [hr] at hm; cases hm
          rw [List.getElem?_set_ne hne]
          exact hr
      · cases loc with
        | true => exact hr
        | false =>
          simp only [hpOf, Bool.false_eq_true, if_false] at hr ⊢
          by_cases hne : m = b
          · subst hne
            rw [List.getElem?_set, if_pos rfl] at hr
            split at hr <;> cases hr
          · rw [List.getElem?_set_ne hne] at hr
            exact hr
  · exact .inl (skip_KA hw)

/-- in the other order -/
def Comm (C : Cfg) (f : Nat) (ops : Array Oper) (base : Nat) (x y : Oper × Option Nat) (e : Env) : Prop := ∀ L G v1 L1 G1 v2 L2 G2, effX C f ops base x e L G = some (v1, L1, G1) → effX C f ops base y e L1 G1 = some (v2, L2, G2) →
  ∃ L' G', effX C f ops base y e L G = some (v2, L', G') ∧ effX C f ops base x e L' G' = some (v1, L2, G2)
theorem comm_al {x y : Oper × Option Nat} {e : Env} (h : KA C f ops base x e) : Comm C f ops base x y e := fun L G v1 L1 G1 v2 L2 G2 h1 h2 => by
  obtain ⟨X, hX⟩ := h
  rw [hX] at h1
  cases X with
  | none => cases h1
  | some u => cases h1; exact ⟨L2, G2, h2, hX L2 G2⟩
theorem comm_ar {x y : Oper × Option Nat} {e : Env} (h : KA C f ops base y e) : Comm C f ops base x y e := fun L G v1 L1 G1 v2 L2 G2 h1 h2 => by
  obtain ⟨X, hX⟩ := h
  rw [hX] at h2
  cases X with
  | none => cases h2
  | some u => cases h2; exact ⟨L, G, hX L G, h1⟩
theorem comm_bb {x y : Oper × Option Nat} {e : Env} (hx : KB C f ops base x e) (hy : KB C f ops base y e) : Comm C f ops base x y e := fun L G v1 L1 G1 v2 L2 G2 h1 h2 => by
  obtain ⟨rfl, rfl, k1⟩ := hx _ _ _ _ _ h1
  obtain ⟨rfl, rfl, k2⟩ := hy _ _ _ _ _ h2
  exact ⟨_, _, h2, h1⟩
theorem rows_set {L G : Hp} {k : Nat} {x : Blk} (hk : base ≤ k) : RowsLe base L G (L.set k x) G ∧ RowsLe base (L.set k x) G L G := by
  constructor <;> intro loc b gen es hb hr <;> cases loc <;> first | exact hr | skip
  · simp only [hpOf, if_true] at hr ⊢
    have := hb rfl
    rw [List.getElem?_set_ne (by omega)]
    exact hr
  · simp only [hpOf, if_true] at hr ⊢
    have := hb rfl
    rw [List.getElem?_set_ne (by omega)] at hr
    exact hr
theorem comm_bc {x y : Oper × Option Nat} {e : Env} (hx : KB C f ops base x e) (hy : KC C f ops base y e) : Comm C f ops base x y e := fun L G v1 L1 G1 v2 L2 G2 h1 h2 => by
  obtain ⟨rfl, rfl, k1⟩ := hx _ _ _ _ _ h1
  obtain ⟨k, _, hk, X, hX⟩ := hy
  have h2' := h2
  rw [hX] at h2
  cases X with
  | none => cases h2
  | some z => cases h2; exact ⟨_, _, h2', k1 _ _ (rows_set hk).1⟩
theorem comm_cb {x y : Oper × Option Nat} {e : Env} (hx : KC C f ops base x e) (hy : KB C f ops base y e) : Comm C f ops base x y e := fun L G v1 L1 G1 v2 L2 G2 h1 h2 => by
  obtain ⟨k, _, hk, X, hX⟩ := hx
  obtain ⟨rfl, rfl, k2⟩ := hy _ _ _ _ _ h2
  have h1' := h1
  rw [hX] at h1
  cases X with
  | none => cases h1
  | some z => cases h1; exact ⟨L, _, k2 _ _ (rows_set hk).2, h1'⟩
theorem comm_cc {x y : Oper × Option Nat} {e : Env} (hne : ∀ k, x.2 = some k → y.2 ≠ some k) (hx : KC C f ops base x e) (hy : KC C f ops base y e) : Comm C f ops base x y e := fun L G v1 L1 G1 v2 L2 G2 h1 h2 => by
  obtain ⟨k, hk0, hk, X, hX⟩ := hx
  obtain ⟨j, hj0, hj, Y, hY⟩ := hy
  have hkj : k ≠ j := fun e => hne k hk0 (by rw [hj0, e])
  rw [hX] at h1
  rw [hY] at h2
  cases X with
  | none => cases h1
  | some z => cases Y with
    | none => cases h2
    | some u =>
      cases h1
      cases h2
      exact ⟨_, _, hY L G, by rw [hX, List.set_comm _ _ hkj]; rfl⟩
theorem comm_bt {x y : Oper × Option Nat} {e : Env} (hx : KB C f ops base x e) (hy : KT C f ops base y e) : Comm C f ops base x y e := fun L G v1 L1 G1 v2 L2 G2 h1 h2 => by
  obtain ⟨rfl, rfl, k1⟩ := hx _ _ _ _ _ h1
  obtain ⟨k2, _⟩ := hy _ _ _ _ _ h2
  exact ⟨_, _, h2, k1 _ _ k2⟩
theorem comm_tb {x y : Oper × Option Nat} {e : Env} (hx : KT C f ops base x e) (hy : KB C f ops base y e) : Comm C f ops base x y e := fun L G v1 L1 G1 v2 L2 G2 h1 h2 => by
  obtain ⟨rfl, rfl, k2⟩ := hy _ _ _ _ _ h2
  obtain ⟨_, k1⟩ := hx _ _ _ _ _ h1
  exact ⟨L, _, k2 _ _ k1, h1⟩

/-- the slot of an operation -/
def SlotOk (C : Cfg) (f base : Nat) (x : Oper × Option Nat) : Prop := (clsOf C f x.1 = .c ∨ clsOf C f x.1 = .t → ∃ k, x.2 = some k ∧ base ≤ k)
theorem comm_free {x y : Oper × Option Nat} {e : Env} (hf : (clsOf C f x.1).free (clsOf C f y.1) = true) (hsx : SlotOk C f base x) (hsy : SlotOk C f base y) (hne : ∀ k, x.2 = some k → y.2 ≠ some k) : Comm C f ops base x y e := by
  cases hx : clsOf C f x.1 with
  | a => exact comm_al (a_KA hx)
  | b =>
    cases hy : clsOf C f y.1 with
    | a => exact comm_ar (a_KA hy)
    | b => exact comm_bb (b_KB hx) (b_KB hy)
    | c =>
      obtain ⟨k, h1, h2⟩ := hsy (.inl hy)
      rcases c_KC (ops := ops) (e := e) hy h1 h2 with h | h
      · exact comm_ar h
      · exact comm_bc (b_KB hx) h
    | t =>
      obtain ⟨k, h1, h2⟩ := hsy (.inr hy)
      rcases t_KT (ops := ops) (e := e) hy h1 h2 with h | h
      · exact comm_ar h
      · exact comm_bt (b_KB hx) h
    | g =>
      rcases g_KT (ops := ops) (base := base) (e := e) hy with h | h
      · exact comm_ar h
      · exact comm_bt (b_KB hx) h
    | d => rw [hx, hy] at hf; cases hf
  | c =>
    obtain ⟨j, j1, j2⟩ := hsx (.inl hx)
    rcases c_KC (ops := ops) (e := e) hx j1 j2 with hx' | hx'
    · exact comm_al hx'
    cases hy : clsOf C f y.1 with
    | a => exact comm_ar (a_KA hy)
    | b => exact comm_cb hx' (b_KB hy)
    | c =>
      obtain ⟨k, h1, h2⟩ := hsy (.inl hy)
      rcases c_KC (ops := ops) (e := e) hy h1 h2 with h | h
      · exact comm_ar h
      · exact comm_cc hne hx' h
    | t => rw [hx, hy] at hf; cases hf
    | g => rw [hx, hy] at hf; cases hf
    | d => rw [hx, hy] at hf; cases hf
  | t =>
    obtain ⟨j, j1, j2⟩ := hsx (.inr hx)
    rcases t_KT (ops := ops) (e := e) hx j1 j2 with hx' | hx'
    · exact comm_al hx'
    cases hy : clsOf C f y.1 with
    | a => exact comm_ar (a_KA hy)
    | b => exact comm_tb hx' (b_KB hy)
    | c => rw [hx, hy] at hf; cases hf
    | t => rw [hx, hy] at hf; cases hf
    | g => rw [hx, hy] at hf; cases hf
    | d => rw [hx, hy] at hf; cases hf
  | g =>
    rcases g_KT (ops := ops) (base := base) (e := e) hx with hx' | hx'
    · exact comm_al hx'
    cases hy : clsOf C f y.1 with
    | a => exact comm_ar (a_KA hy)
    | b => exact comm_tb hx' (b_KB hy)
    | _ => rw [hx, hy] at hf; cases hf
  | d =>
    cases hy : clsOf C f y.1 with
    | a => exact comm_ar (a_KA hy)
    | _ => rw [hx, hy] at hf; cases hf

theorem swap {x y : Oper × Option Nat} {l : List (Oper × Option Nat)} {e : Env} {L G : Hp} {r : Out} (hap : Apart ops x.1 y.1) (hc : Comm C f ops base x y e) (h : evDraws C f ops base (x :: y :: l) e L G = some r) :
    ∃ r', evDraws C f ops base (y :: x :: l) e L G = some r' ∧ OutEq r r' := by
  rw [draws_cons] at h
  replace h := Option.bind_eq_some_iff.1 h
  obtain ⟨⟨v1, L1, G1⟩, h1, h⟩ := h
  rw [draws_cons] at h
  replace h := Option.bind_eq_some_iff.1 h
  obtain ⟨⟨v2, L2, G2⟩, h2, h⟩ := h
  simp only at h h2
  rw [effX_congr (put_reads (l := readsOf ops y.1) fun t ht hm => (hap.1 t ht).2 hm)] at h2
  obtain ⟨L', G', k1, k2⟩ := hc _ _ _ _ _ _ _ _ h1 h2
  obtain ⟨r', h3, h4⟩ := draws_congr (put_comm fun t h1 h2 => (hap.1 t h1).1 h2) h
  refine ⟨r', ?_, h4⟩
  rw [draws_cons, k1]
  simp only [Option.bind_some]
  rw [draws_cons, effX_congr (put_reads (l := readsOf ops x.1) fun t ht hm => hap.2 t ht hm), k2]
  exact h3

/-- one operation comes to the front -/
theorem front {x : Oper × Option Nat} {l2 : List (Oper × Option Nat)} : ∀ {l1 : List (Oper × Option Nat)}, (∀ y ∈ l1, Apart ops y.1 x.1 ∧ ∀ e, Comm C f ops base y x e) → ∀ {e : Env} {L G : Hp} {r : Out}, evDraws C f ops base (l1 ++ x :: l2) e L G = some r →
    ∃ r', evDraws C f ops base (x :: (l1 ++ l2)) e L G = some r' ∧ OutEq r r'
  | [], _, _, _, _, r, h => ⟨r, h, .refl r⟩
  | y :: l1, hl, e, L, G, r, h => by
    obtain ⟨h1, h2⟩ := hl y (by simp)
    rw [List.cons_append, draws_cons] at h
    replace h := Option.bind_eq_some_iff.1 h
    obtain ⟨r1, hr, h⟩ := h
    obtain ⟨r', k1, k2⟩ := front (fun z hz => hl z (by simp [hz])) h
    obtain ⟨r'', k3, k4⟩ := swap h1 (h2 e) (l := l1 ++ l2) (r := r') (by rw [draws_cons, hr]; exact k1)
    exact ⟨r'', k3, k2.trans k4⟩
end
end Ev
