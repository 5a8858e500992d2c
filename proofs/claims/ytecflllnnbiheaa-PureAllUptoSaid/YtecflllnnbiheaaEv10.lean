/- Calls; operations one behind the other. -/
import Derived.Test.YtecflllnnbiheaaEv9
import Derived.Orders
set_option maxHeartbeats 4000000
set_option linter.unusedVariables false
set_option linter.unusedSimpArgs false
namespace Ev
open Go
section
variable {P : Program} {g g' : Gh} {w w' : World}

def RepsA (g : Gh) (w : World) (l : List AV) (vs : Array Value) : Prop := l.length = vs.size ∧ ∀ (i : Nat) c v, l[i]? = some c → vs[i]? = some v → Rep g w c v

/-- How a call ends, and what it leaves. -/
def RsOk (both : Bool) (r : Rs) (e : Ending) (g : Gh) (w : World) : Prop :=
  match r with
  | .val v => ∃ x, e = .returned x ∧ (v.refs (qLeft both) = true → Rep g w v x)
  | .pan v => ∃ x, e = .panicked [{ v := x, recovered := false }] ∧ (v.refs (qLeft both) = true → Rep g w v x)
def Post (both : Bool) (G' : Hp) (r : Rs) (g : Gh) (w : World) (e : Ending) (w' : World) : Prop :=
  ∃ g', Sim g' w' [] G' ∧ Ext g w g' w' ∧ RsOk both r e g' w'
def CallOk (P : Program) (A : Ann) (call : CallF) : Prop := ∀ f args G r G', call f args G = some (r, G') → (A.sees f = false → G = []) →
  (∃ fn, P.funcs[f]? = some fn ∧ fn.body.isSome = true) ∧ ∀ g w (V : Array Value), Sim g w [] G → RepsA g w args V → Calls P f V w (Post (!A.sees f) (if A.sees f then G' else []) r g w)

/-- what a call of a function comes to, whether it has a body or not -/
def CallUpon (P : Program) (f : Nat) (V : Array Value) (w : World) (R : Ending → World → Prop) : Prop :=
  match (callFunc f V).run P w with
  | .ok (.enter f' V') w' => Calls P f' V' w' R
  | .ok (.value x) w' => R (.returned x) w'
  | _ => False
theorem CallUpon.mono {f : Nat} {V : Array Value} {R R' : Ending → World → Prop} (h : CallUpon P f V w R) (hr : ∀ e w', R e w' → R' e w') : CallUpon P f V w R' := by
  unfold CallUpon at h ⊢
  split at h
  · rename_i h1; exact Calls.mono h hr
  · rename_i h1; exact hr _ _ h
  · exact h.elim
def NoNum (P : Program) : Prop := ∀ (f : Nat) (fn : Func), P.funcs[f]? = some fn → fn.body.isSome = true → (fn.name == "runtime.NumGoroutine") = false
theorem upon_enter (hn : NoNum P) {f : Nat} {fn : Func} {V : Array Value} {R : Ending → World → Prop} (hf : P.funcs[f]? = some fn) (hb : fn.body.isSome = true) (h : Calls P f V w R) : CallUpon P f V w R := by
  unfold CallUpon
  have : (callFunc f V).run P w = .ok (.enter f V) w := by
    unfold callFunc
    simp only [Sem.run_bind, run_program, Result.andThen_ok, hf, hn f fn hf hb, Bool.false_eq_true, if_false]
    cases hb' : fn.body with
    | none => rw [hb'] at hb; cases hb
    | some c => rfl
  rw [this]
  exact h

/-- a call, seen by its caller -/
def CallPost (r : Rs) (L' G' : Hp) (g : Gh) (w : World) (e : Ending) (w' : World) : Prop :=
  ∃ g', Sim g' w' L' G' ∧ Ext g w g' w' ∧ Mono g g' ∧ match r with
    | .val v => ∃ x, e = .returned x ∧ Rep g' w' v x
    | .pan v => ∃ x, e = .panicked [{ v := x, recovered := false }] ∧ Rep g' w' v x
structure OrcOk (P : Program) (A : Ann) : Prop where
  call : ∀ f F, A.orc f = some F → ∀ args L G v L' G', F args L G = some (v, L', G') → ∀ g w V, Sim g w L G → RepsA g w args V → CallUpon P f V w (CallPost (.val v) L' G' g w)
  dead : ∀ f F, A.orc f = some F → ∀ args L G v L' G', F args L G = some (v, L', G') → ∀ k : Nat, L[k]? = some .dead → L'[k]? = some .dead

theorem RepsA.keeps {Q : Bool → Nat → Bool} (k : Keeps g w g' w' Q) {l : List AV} {V : Array Value} (h : RepsA g w l V) (hq : refss Q l = true) : RepsA g' w' l V :=
  ⟨h.1, fun i c v hc hv => (h.2 i c v hc hv).keeps k (refss_get hq hc)⟩
theorem RepsA.hand {both : Bool} {l : List AV} {V : Array Value} (h : RepsA g w l V) : RepsA g w (handAs both l) V :=
  ⟨by rw [handAs_len (g := g) (w := w)]; exact h.1, handAs_rep h.2⟩

theorem light_rep {v : AV} {x : Value} (hl : v.light = true) (h : Rep g w v x) : Rep g' w' v x := by
  cases v with
  | bool b => rw [h.bool_inv]; exact .bool b
  | int k n => rw [h.int_inv]; exact .int k n
  | str l => rw [h.str_inv]; exact .str l
  | tup vs =>
    obtain ⟨xs, rfl, h1, h2⟩ := h.tup_inv
    refine .tup _ _ h1 fun i c y hc hy => ?_
    have hc' := List.all_eq_true.1 (show vs.all (fun | .bool _ | .int _ _ | .str _ => true | _ => false) = true from hl) c (List.mem_of_getElem? hc)
    have hr := h2 i c y hc hy
    cases c with
    | bool b => rw [hr.bool_inv]; exact .bool b
    | int k n => rw [hr.int_inv]; exact .int k n
    | str l => rw [hr.str_inv]; exact .str l
    | _ => cases hc'
  | _ => cases hl

theorem light_refs {Q : Bool → Nat → Bool} {v : AV} (hl : v.light = true) : v.refs Q = true := by
  cases v with
  | tup vs =>
    rw [AV.refs]
    refine refss_of fun c hc => ?_
    have hc' := List.all_eq_true.1 (show vs.all (fun | .bool _ | .int _ _ | .str _ => true | _ => false) = true from hl) c hc
    cases c <;> first | (simp only [AV.refs]; done) | cases hc'
  | _ => first | (simp only [AV.refs]; done) | cases hl

theorem pf_q (v : AV) : v.pf = v.refs (qLeft true) := by
  unfold AV.pf
  congr 1
  funext l b
  cases l <;> rfl
theorem noL_q (v : AV) : v.noL = v.refs (qLeft false) := by
  unfold AV.noL
  congr 1
  funext l b
  cases l <;> rfl
theorem pfs_q (v : List AV) : pfs v = refss (qLeft true) v := by
  unfold pfs
  congr 1
  funext l b
  cases l <;> rfl

/-- all blocks are left alone: their cells never change -/
def Gh.still (g : Gh) : Gh := ⟨fun B o => match g.own B o with | .no => .no | _ => .prot, fun _ _ _ => .none, fun _ _ => .none, fun _ _ => .none⟩
theorem still_left : Left true g g.still where
  prot := fun B o h => by simp [Gh.still, h]
  blk := fun B o loc b h _ => by simp [Gh.still, h]
  mu := fun h => by cases h
  mp := fun h => by cases h
  tk := fun h => by cases h

theorem callA_sound {A : Ann} {call : CallF} (hn : NoNum P) (hc : CallOk P A call) (ho : OrcOk P A) {f : Nat} {args : List AV} {V : Array Value} {r : Rs} {L G L' G' : Hp}
    (h : callA ⟨P, A, call⟩ f args L G = some (r, L', G')) (s : Sim g w L G) (hr : RepsA g w args V) : CallUpon P f V w (CallPost r L' G' g w) := by
  unfold callA at h
  simp only at h
  cases hF : A.orc f with
  | some F =>
    rw [hF] at h
    simp only at h
    replace h := Option.map_eq_some_iff.1 h
    obtain ⟨⟨v, L1, G1⟩, h1, h⟩ := h
    simp only [Prod.mk.injEq] at h
    obtain ⟨rfl, rfl, rfl⟩ := h
    exact ho.call f F hF args L G v L1 G1 h1 g w V s hr
  | none =>
    rw [hF] at h
    simp only at h
    by_cases hs : A.sees f = true
    · rw [if_pos hs] at h
      by_cases hl : noLs (handAs false args) = true
      · rw [if_pos hl] at h
        cases hcall : call f (handAs false args) G with
        | none => rw [hcall] at h; cases h
        | some rg =>
          obtain ⟨r1, G1⟩ := rg
          rw [hcall] at h
          obtain ⟨⟨fn, hf, hb⟩, hk⟩ := hc f _ G r1 G1 hcall (fun h0 => by rw [hs] at h0; cases h0)
          have hk := hk g.see w V (sim_see s) (hr.hand.keeps keeps_see hl)
          rw [hs] at hk
          refine upon_enter hn hf hb (hk.mono fun e w' => ?_)
          rintro ⟨g', s', e', ro⟩
          cases r1 with
          | val v =>
            simp only at h
            by_cases hv : v.noL = true
            · rw [if_pos hv] at h
              cases h
              obtain ⟨x, rfl, hx⟩ := ro
              exact ⟨g.back g', sim_back s e' s', back_see e', back_mono, x, rfl, (hx ((noL_q v).symm.trans hv)).keeps (keeps_back s.own e') hv⟩
            · rw [if_neg hv] at h; cases h
          | pan v =>
            simp only at h
            by_cases hv : v.noL = true
            · rw [if_pos hv] at h
              cases h
              obtain ⟨x, rfl, hx⟩ := ro
              exact ⟨g.back g', sim_back s e' s', back_see e', back_mono, x, rfl, (hx ((noL_q v).symm.trans hv)).keeps (keeps_back s.own e') hv⟩
            · rw [if_neg hv] at h; cases h
      · rw [if_neg hl] at h; cases h
    · rw [if_neg hs] at h
      have hs' : A.sees f = false := by simpa using hs
      by_cases hp : pfs (handAs true args) = true
      · rw [if_pos hp] at h
        cases hcall : call f (handAs true args) [] with
        | none => rw [hcall] at h; cases h
        | some rg =>
          obtain ⟨r1, G1⟩ := rg
          rw [hcall] at h
          obtain ⟨⟨fn, hf, hb⟩, hk⟩ := hc f _ [] r1 G1 hcall (fun _ => rfl)
          have hk := hk g.none w V (sim_none s) (hr.hand.keeps keeps_none hp)
          rw [hs'] at hk
          have hi : ∀ B o, (g.own B o = .prot → g.none.own B o = .prot) ∧ (g.own B o = .no → g.none.own B o = .no) := fun B o =>
            ⟨fun h => by show (g.own B o).hideA = _; rw [h]; rfl, fun h => by show (g.own B o).hideA = _; rw [h]; rfl⟩
          have hbk : ∀ B o loc b, g.own B o = .blk loc b → g.none.own B o = .no ∨ g.none.own B o = .prot := fun B o loc b h => .inl (by show (g.own B o).hideA = _; rw [h]; rfl)
          refine upon_enter hn hf hb (hk.mono fun e w' => ?_)
          rintro ⟨g', s', e', ro⟩
          obtain ⟨x1, x2⟩ := over_ext hi hbk e'
          have hso := sim_over s hi hbk e' s'.own
          have hkeep : Keeps g' w' (g.over g') w' (fun _ _ => false) := by
            refine ⟨fun B o hB => ⟨?_, fun x hx => hx⟩, fun _ _ h => (by cases h), fun _ _ h => (by cases h), fun _ _ h => (by cases h)⟩
            rw [over_oth (fun loc b hb => ?_)]
            · exact hB
            · have hlt : B < w.heap.size := by
                rcases Nat.lt_or_ge B w.heap.size with h' | h'
                · exact h'
                · rw [s.own B o h'] at hb; cases hb
              have h0 : g.none.own B o = .no := by show (g.own B o).hideA = _; rw [hb]; rfl
              have := (e'.keep B o hlt (.inr h0)).1
              rw [h0, hB] at this
              cases this
          cases r1 with
          | val v =>
            simp only at h
            by_cases hv : v.pf = true
            · rw [if_pos hv] at h
              cases h
              obtain ⟨x, rfl, hx⟩ := ro
              exact ⟨g.over g', hso, x1, x2, x, rfl, (hx ((pf_q v).symm.trans hv)).keeps hkeep hv⟩
            · rw [if_neg hv] at h; cases h
          | pan v =>
            simp only at h
            by_cases hv : v.pf = true
            · rw [if_pos hv] at h
              cases h
              obtain ⟨x, rfl, hx⟩ := ro
              exact ⟨g.over g', hso, x1, x2, x, rfl, (hx ((pf_q v).symm.trans hv)).keeps hkeep hv⟩
            · rw [if_neg hv] at h; cases h
      · rw [if_neg hp] at h
        by_cases hp : pfs (leaves true L G args) = true
        · rw [if_pos hp] at h
          cases hcall : call f (leaves true L G args) [] with
          | none => rw [hcall] at h; cases h
          | some rg =>
            obtain ⟨r1, G1⟩ := rg
            rw [hcall] at h
            obtain ⟨⟨fn, hf, hb⟩, hk⟩ := hc f _ [] r1 G1 hcall (fun _ => rfl)
            rw [pfs_q] at hp
            obtain ⟨l1, l2⟩ := leaves_rep still_left s args hr.2 hp
            have hk := hk g.still w V (sim_nil (fun _ _ _ => rfl) (fun _ _ => rfl) (fun _ _ => rfl) fun B o h => by simp [Gh.still, s.own B o h]) ⟨by rw [l1]; exact hr.1, l2⟩
            rw [hs'] at hk
            have hi : ∀ B o, (g.own B o = .prot → g.still.own B o = .prot) ∧ (g.own B o = .no → g.still.own B o = .no) := fun B o =>
              ⟨fun h => by simp [Gh.still, h], fun h => by simp [Gh.still, h]⟩
            have hbk : ∀ B o loc b, g.own B o = .blk loc b → g.still.own B o = .no ∨ g.still.own B o = .prot := fun B o loc b h => .inr (by simp [Gh.still, h])
            refine upon_enter hn hf hb (hk.mono fun e w' => ?_)
            rintro ⟨g', s', e', ro⟩
            obtain ⟨x1, x2⟩ := over_ext hi hbk e'
            have hso := sim_over s hi hbk e' s'.own
            cases r1 with
            | val v =>
              simp only at h
              by_cases hv : v.light = true
              · rw [if_pos hv] at h
                cases h
                obtain ⟨x, rfl, hx⟩ := ro
                exact ⟨g.over g', hso, x1, x2, x, rfl, light_rep hv (hx (light_refs hv))⟩
              · rw [if_neg hv] at h; cases h
            | pan v => cases h
        · rw [if_neg hp] at h; cases h

/-! ### one operation, in its place -/
theorem reps_map {e : Env} {a : Act} (he : EnvOk g w e a.tmps) (l : Array Operand) : RepsA g w (l.toList.map (opd e)) (l.map a.eval) := by
  refine ⟨by simp, fun i c v hc hv => ?_⟩
  simp only [List.getElem?_map, Array.getElem?_toList, Array.getElem?_map] at hc hv
  cases hk : l[i]? with
  | none => rw [hk] at hc; cases hc
  | some z => rw [hk] at hc hv; cases hc; cases hv; exact opd_rep he z
theorem RepsA.append {l m : List AV} {V U : Array Value} (h : RepsA g w l V) (k : RepsA g w m U) : RepsA g w (l ++ m) (V ++ U) := by
  refine ⟨by simp [h.1, k.1], fun i c v hc hv => ?_⟩
  rw [Array.getElem?_append] at hv
  rcases Nat.lt_or_ge i V.size with hi | hi
  · rw [if_pos hi] at hv
    rw [List.getElem?_append_left (by rw [h.1]; exact hi)] at hc
    exact h.2 i c v hc hv
  · rw [if_neg (by omega)] at hv
    rw [List.getElem?_append_right (by rw [h.1]; exact hi), h.1] at hc
    exact k.2 _ c v hc hv

/-- what an operation leaves, and where it goes on -/
theorem evOp_wp {A : Ann} {call : CallF} (hn : NoNum P) (hc : CallOk P A call) (ho : OrcOk P A) {f : Nat} {slot : Option Nat} {o : Oper} {e : Env} {a : Act} {r : Rs} {L G L' G' : Hp} {next : Act → World → Prop} {Q : Exit → Act → World → Prop}
    (h : evOp ⟨P, A, call⟩ f slot o e L G = some (r, L', G')) (s : Sim g w L G) (he : EnvOk g w e a.tmps) (hs : ∀ k, slot = some k → L[k]? = some .dead)
    (hv : ∀ v x g' w', r = .val v → Sim g' w' L' G' → Ext g w g' w' → Mono g g' → Rep g' w' v x → next (a.put o.dst x) w')
    (hp : ∀ v x g' w', r = .pan v → Sim g' w' L' G' → Ext g w g' w' → Mono g g' → Rep g' w' v x → Q (.panic [{ v := x, recovered := false }]) a w') : o.wp P a w next Q := by
  unfold evOp at h
  unfold Oper.wp
  cases hco : calleeOf o.op with
  | none =>
    rw [hco] at h
    obtain ⟨v, x, g', w', rfl, hrun, h1, h2, h3, h4⟩ := op_sound s he hs h
    rcases hrun with hrun | ⟨hrun, rfl⟩
    · rw [hrun]
      exact hv v x g' w' rfl h2 h3 h4 h1
    · rw [hrun]
      exact hv v undef g' w' rfl h2 h3 h4 h1
  | some ga =>
    obtain ⟨F, args⟩ := ga
    rw [hco] at h
    simp only at h
    obtain ⟨dst, op, type, pos, after, guard⟩ := o
    cases op with
    | call c =>
      obtain ⟨callee, cargs, argTypes⟩ := c
      cases callee with
      | value F' =>
        simp only [calleeOf, Option.some.injEq, Prod.mk.injEq] at hco
        obtain ⟨rfl, rfl⟩ := hco
        have hF := opd_rep he F'
        cases hop : opd e F' with
        | fn k caps =>
          rw [hop] at h hF
          simp only at h
          cases hev : a.eval F' with
          | func fn fst cap =>
            rw [hev] at hF
            cases hF with
            | fn _ _ _ hl hcap =>
              have hcall := callA_sound hn hc ho h s ((reps_map he cargs).append ⟨hl, hcap⟩)
              have hexec : (execOp a.eval ⟨dst, .call ⟨.value F', cargs, argTypes⟩, type, pos, after, guard⟩).run P w = (callFunc k (cargs.map a.eval ++ cap)).run P w := by
                simp only [execOp, resolve, hev, Deferred.ofValue, invoke]
                rw [Sem.run_bind, Sem.run_pure]
                simp only [Result.andThen_ok, Array.empty_append]
              rw [hexec]
              unfold CallUpon at hcall
              split at hcall
              · rename_i f' V' w' hrun
                rw [hrun]
                refine Calls.mono hcall fun e w'' => ?_
                rintro ⟨g', k1, k2, k3, k4⟩
                cases r with
                | val v => obtain ⟨x, rfl, hx⟩ := k4; exact hv v x g' w'' rfl k1 k2 k3 hx
                | pan v => obtain ⟨x, rfl, hx⟩ := k4; exact hp v x g' w'' rfl k1 k2 k3 hx
              · rename_i x w' hrun
                rw [hrun]
                obtain ⟨g', k1, k2, k3, k4⟩ := hcall
                cases r with
                | val v =>
                  obtain ⟨y, hy, hx⟩ := k4
                  cases hy
                  exact hv v x g' w' rfl k1 k2 k3 hx
                | pan v => obtain ⟨y, hy, _⟩ := k4; cases hy
              · exact hcall.elim
          | _ => rw [hev] at hF; cases hF
        | _ => rw [hop] at h; cases h
      | _ => cases hco
    | _ => cases hco

theorem put_ok {e : Env} {a : Act} (he : EnvOk g w e a.tmps) {d : Option Tmp} {v : AV} {x : Value} (hd : ∀ t, d = some t → t < a.tmps.size) (h : Rep g w v x) : EnvOk g w (putE e d v) (a.put d x).tmps := by
  cases d with
  | none => exact he
  | some d =>
    intro i c hc
    simp only [putE, getE?] at hc
    simp only [Act.put]
    by_cases hi : d = i
    · subst hi
      rw [if_pos rfl] at hc
      cases hc
      exact ⟨x, by simp [hd d rfl], h⟩
    · rw [if_neg hi] at hc
      obtain ⟨y, h1, h2⟩ := he i c hc
      exact ⟨y, by rw [Array.getElem?_setIfInBounds_ne hi]; exact h1, h2⟩
theorem put_defers (a : Act) (d : Option Tmp) (x : Value) : (a.put d x).defers = a.defers := by cases d <;> rfl
theorem put_size (a : Act) (d : Option Tmp) (x : Value) : (a.put d x).tmps.size = a.tmps.size := by cases d <;> simp [Act.put]

theorem wanted_ok {ops : Array Oper} {o : Oper} {e : Env} {a : Act} {b : Bool} (he : EnvOk g w e a.tmps) (h : wantedA ops o e = some b) : Region.wanted o (yielded ops a.tmps) = b := by
  unfold wantedA at h
  unfold Region.wanted
  cases hg : o.guard with
  | none => rw [hg] at h; cases h; rfl
  | some jw =>
    obtain ⟨j, want⟩ := jw
    rw [hg] at h
    simp only at h ⊢
    unfold yielded
    cases hd : (ops[j]?).bind (·.dst) with
    | none => rw [hd] at h; cases h; rfl
    | some d =>
      rw [hd] at h
      simp only [Option.bind_some] at h ⊢
      cases hv : getE? e d with
      | none => rw [hv] at h; cases h
      | some v =>
        rw [hv] at h
        obtain ⟨x, hx, hr⟩ := he d v hv
        rw [hx]
        cases v with
        | bool c =>
          simp only [Option.some.injEq] at h
          rw [hr.bool_inv]
          simp only
          rw [← h]
          cases c <;> cases want <;> rfl
        | tup vs => cases vs with
          | nil =>
            cases h
            obtain ⟨xs, e1, _, _⟩ := hr.tup_inv
            rw [e1]
            rfl
          | cons _ _ => cases h
        | _ => cases h

/-! ### operations one behind the other -/
theorem oper_mono {o : Oper} {a : Act} {K K' : Act → World → Prop} {Q Q' : Exit → Act → World → Prop} (h : ∀ a w, K a w → K' a w) (hq : ∀ e a w, Q e a w → Q' e a w) (hh : o.wp P a w K Q) : o.wp P a w K' Q' := by
  unfold Oper.wp at *
  generalize (execOp a.eval o).run P w = r at *
  cases r with
  | ok n w' =>
    cases n <;> simp only [Oper.upon] at hh ⊢ <;>
      first
        | exact h _ _ hh
        | exact Calls.mono hh (fun e w'' he => by
            cases e with
            | returned v => exact h _ _ he
            | panicked c => exact hq _ _ _ he
            | outgrown => obtain ⟨a0, w0, h0⟩ := he; exact ⟨a0, w0, hq _ _ _ h0⟩)
        | exact Rows.mono hh (fun _ _ he => h _ _ he)
  | halt x w' => cases x <;> simp only [Oper.upon] at hh ⊢ <;> first | exact hh.elim | exact hq _ _ _ hh
theorem wpOps_mono {ops : Array Oper} {Q Q' : Exit → Act → World → Prop} (hq : ∀ e a w, Q e a w → Q' e a w) : ∀ (l : List Nat) (a : Act) (w : World), wpOps P ops Q l a w → wpOps P ops Q' l a w
  | [], a, w, h => hq _ _ _ h
  | i :: l, a, w, h => by
    simp only [wpOps] at h ⊢
    cases ho : ops[i]? with
    | none => rw [ho] at h; exact wpOps_mono hq l a w h
    | some o =>
      rw [ho] at h
      simp only at h ⊢
      by_cases hw : Region.wanted o (yielded ops a.tmps) = true
      · rw [if_pos hw] at h ⊢
        rcases h with h | ⟨h1, a0, w0, h0⟩
        · exact .inl (oper_mono (wpOps_mono hq l) hq h)
        · exact .inr ⟨h1, a0, w0, hq _ _ _ h0⟩
      · rw [if_neg hw] at h ⊢
        exact wpOps_mono hq l _ w h
def ExOk (ex : Ex) (E : Exit) (g : Gh) (w : World) : Prop :=
  match ex with
  | .nor => E = .normal
  | .exit id => E = .exit id
  | .ret => E = .ret
  | .pan v => ∃ x, E = .panic [{ v := x, recovered := false }] ∧ Rep g w v x
/-- the frame: no deferred call; so many temporaries -/
def ActOk (n : Nat) (a : Act) : Prop := a.defers = [] ∧ n ≤ a.tmps.size
theorem ActOk.put {n : Nat} {a : Act} (h : ActOk n a) (d : Option Tmp) (x : Value) : ActOk n (a.put d x) := ⟨by rw [put_defers]; exact h.1, by rw [put_size]; exact h.2⟩
/-- what a piece of code leaves -/
def CodePost (n : Nat) (r : Out) (g : Gh) (w : World) (E : Exit) (a' : Act) (w' : World) : Prop :=
  ∃ g', Sim g' w' r.2.2.1 r.2.2.2 ∧ EnvOk g' w' r.2.1 a'.tmps ∧ ActOk n a' ∧ Ext g w g' w' ∧ ExOk r.1 E g' w'
/-- the temporaries that operations put into are there -/
def fitsO (n : Nat) (o : Oper) : Bool := match o.dst with | some d => decide (d < n) | none => true
theorem fitsO_lt {n : Nat} {o : Oper} {a : Act} (h : fitsO n o = true) (ha : ActOk n a) : ∀ t, o.dst = some t → t < a.tmps.size := fun t ht => by
  unfold fitsO at h
  rw [ht] at h
  simp only [decide_eq_true_eq] at h
  exact Nat.lt_of_lt_of_le h ha.2
theorem CodePost.trans {n : Nat} {r : Out} {E : Exit} {a' : Act} {w'' : World} (e : Ext g w g' w') (h : CodePost n r g' w' E a' w'') : CodePost n r g w E a' w'' := by
  obtain ⟨g2, h1, h2, h3, h4, h5⟩ := h
  exact ⟨g2, h1, h2, h3, e.trans h4, h5⟩

theorem list_sound {A : Ann} {call : CallF} (hn : NoNum P) (hc : CallOk P A call) (ho : OrcOk P A) {f n : Nat} {ops : Array Oper} (hfit : ∀ o ∈ ops, fitsO n o = true) : ∀ {l : List Oper} {k : Nat}, ops.toList.drop k = l → ∀ {e : Env} {L G : Hp} {r : Out} {g : Gh} {w : World} {a : Act}, evList ⟨P, A, call⟩ f ops l e L G = some r →
    Sim g w L G → EnvOk g w e a.tmps → ActOk n a → wpOps P ops (CodePost n r g w) (List.range' k l.length) a w
  | [], k, _, e, L, G, r, g, w, a, h, s, he, hd => by
    rw [evList] at h
    cases h
    exact ⟨g, s, he, hd, .refl _ _, rfl⟩
  | o :: l, k, hk, e, L, G, r, g, w, a, h, s, he, hd => by
    have hok : ops[k]? = some o := by
      have : (ops.toList.drop k)[0]? = some o := by rw [hk]; rfl
      simpa using this
    have hk' : ops.toList.drop (k + 1) = l := by
      rw [← List.tail_drop, hk]
      rfl
    have hlt := fitsO_lt (hfit o (Array.mem_of_getElem? hok)) hd
    rw [List.length_cons, List.range'_succ]
    simp only [wpOps, hok]
    rw [evList] at h
    cases hw : wantedA ops o e with
    | none => rw [hw] at h; cases h
    | some b =>
      rw [hw] at h
      have hwo := wanted_ok he hw
      cases b with
      | true =>
        rw [if_pos hwo]
        simp only [wantA] at h
        cases hop : evOp ⟨P, A, call⟩ f none o e L G with
        | none => rw [hop] at h; cases h
        | some rr =>
          obtain ⟨r1, L1, G1⟩ := rr
          rw [hop] at h
          refine .inl (evOp_wp hn hc ho hop s he (fun _ h => by cases h) (fun v x g1 w1 e1 k1 k2 k3 k4 => ?_) (fun v x g1 w1 e1 k1 k2 k3 k4 => ?_))
          · subst e1
            simp only [stepA] at h
            have := list_sound hn hc ho hfit hk' h k1 (put_ok (he.ext s.own k2 k3) hlt k4) (hd.put _ _)
            exact wpOps_mono (fun E a' w' => CodePost.trans k2) _ _ _ this
          · subst e1
            simp only [stepA] at h
            cases h
            exact ⟨g1, k1, he.ext s.own k2 k3, hd, k2, x, rfl, k4⟩
      | false =>
        rw [if_neg (by rw [hwo]; simp)]
        simp only [wantA] at h
        exact list_sound hn hc ho hfit hk' h s (put_ok he hlt undef_rep) (hd.put _ _)
end
end Ev
