/- One operation, whichever: what the evaluator says of it is what the model does. -/
import Derived.Test.YtecflllnnbiheaaEv7
set_option maxHeartbeats 4000000
set_option linter.unusedVariables false
set_option linter.unusedSimpArgs false
namespace Ev
open Go
section
variable {P : Program} {g : Gh} {w : World}

/-- What an operation comes to. -/
def OpOk (P : Program) (o : Oper) (a : Act) (g : Gh) (w : World) (r : Rs) (L' G' : Hp) : Prop :=
  ∃ v x g' w', r = .val v ∧ ((execOp a.eval o).run P w = .ok (.value x) w' ∨ ((execOp a.eval o).run P w = .ok .skip w' ∧ x = undef)) ∧
    Rep g' w' v x ∧ Sim g' w' L' G' ∧ Ext g w g' w' ∧ Mono g g'

theorem run_v {s : Sem Value} {V : Value} {w' : World} (h : s.run P w = .ok V w') : (do let x ← s; pure (Next.value x) : Sem Next).run P w = .ok (.value V) w' := by
  rw [Sem.run_bind, h]; rfl
theorem run_u {s : Sem Unit} {w' : World} (h : s.run P w = .ok () w') : (do s; pure Next.skip : Sem Next).run P w = .ok .skip w' := by
  rw [Sem.run_bind, h]; rfl

theorem valA_spec {X : Option AV} {r : Rs} {L G L' G' : Hp} (h : valA L G X = some (r, L', G')) : ∃ v, X = some v ∧ r = .val v ∧ L' = L ∧ G' = G := by
  unfold valA at h
  cases X with
  | none => cases h
  | some v => cases h; exact ⟨v, rfl, rfl, rfl, rfl⟩

/-- an operation that leaves the heaps alone -/
theorem ok_pure {o : Oper} {a : Act} {X : Option AV} {r : Rs} {L G L' G' : Hp} (s : Sim g w L G) (h : valA L G X = some (r, L', G'))
    (hr : ∀ v, X = some v → ∃ V, (execOp a.eval o).run P w = .ok (.value V) w ∧ Rep g w v V) : OpOk P o a g w r L' G' := by
  obtain ⟨v, h1, rfl, rfl, rfl⟩ := valA_spec h
  obtain ⟨V, h2, h3⟩ := hr v h1
  exact ⟨v, V, g, w, rfl, .inl h2, h3, s, .refl _ _, .refl _⟩

theorem Reps.parts {e : Env} {a : Act} (he : EnvOk g w e a.tmps) (ps : Array (Nat × Operand)) (f : AV → AV) (hf : ∀ v x, Rep g w v x → Rep g w (f v) x) :
    (ps.toList.map fun p => (p.1, f (opd e p.2))).length = (ps.map fun (i, x) => (i, a.eval x)).size ∧
    ∀ (k : Nat) p q, (ps.toList.map fun p => (p.1, f (opd e p.2)))[k]? = some p → (ps.map fun (i, x) => (i, a.eval x))[k]? = some q → p.1 = q.1 ∧ Rep g w p.2 q.2 := by
  refine ⟨by simp, fun k p q hp hq => ?_⟩
  simp only [List.getElem?_map, Array.getElem?_toList, Array.getElem?_map] at hp hq
  cases hk : ps[k]? with
  | none => rw [hk] at hp; cases hp
  | some z =>
    rw [hk] at hp hq
    simp only [Option.map_some, Option.some.injEq] at hp hq
    subst hp
    subst hq
    exact ⟨rfl, hf _ _ (opd_rep he _)⟩

theorem opt_rep {e : Env} {a : Act} (he : EnvOk g w e a.tmps) (x : Option Operand) : (∀ v V, x.map (opd e) = some v → x.map a.eval = some V → Rep g w v V) ∧ (x.map (opd e)).isSome = (x.map a.eval).isSome := by
  cases x with
  | none => exact ⟨(fun v V h => nomatch h), rfl⟩
  | some x => exact ⟨(fun v V h h' => by cases h; cases h'; exact opd_rep he x), rfl⟩

/-! ### the least, the most -/
theorem foldA_rep {f : AV → AV → Option AV} {F : Value → Value → Sem Value} (hf : ∀ x y z X Y, Rep g w x X → Rep g w y Y → f x y = some z → ∃ Z, (F X Y).run P w = .ok Z w ∧ Rep g w z Z) :
    ∀ {l : List AV} {vs : List Value} {x v : AV} {X : Value}, Rep g w x X → l.length = vs.length → (∀ (i : Nat) c y, l[i]? = some c → vs[i]? = some y → Rep g w c y) → foldA f x l = some v →
      ∃ V, (vs.foldlM F X).run P w = .ok V w ∧ Rep g w v V
  | [], [], x, v, X, hx, _, _, h => by rw [foldA] at h; cases h; exact ⟨X, rfl, hx⟩
  | [], _ :: _, _, _, _, _, h, _, _ => by simp at h
  | _ :: _, [], _, _, _, _, h, _, _ => by simp at h
  | y :: l, Y :: vs, x, v, X, hx, hl, hr, h => by
    rw [foldA] at h
    replace h := Option.bind_eq_some_iff.1 h
    obtain ⟨z, hz, h⟩ := h
    obtain ⟨Z, k1, k2⟩ := hf x y z X Y hx (hr 0 y Y rfl rfl) hz
    obtain ⟨V, k3, k4⟩ := foldA_rep hf k2 (by simpa using hl) (fun i c q hc hq => hr (i + 1) c q (by simpa using hc) (by simpa using hq)) h
    refine ⟨V, ?_, k4⟩
    rw [List.foldlM_cons, Sem.run_bind, k1]
    exact k3
theorem max_rep {x y z : AV} {X Y : Value} (hx : Rep g w x X) (hy : Rep g w y Y) (h : maxA x y = some z) : ∃ Z, (Builtin.max2 X Y).run P w = .ok Z w ∧ Rep g w z Z := by
  cases x <;> cases y <;> simp only [maxA] at h <;> first | cases h | skip
  rename_i k m k' n
  by_cases e : k = k'
  · subst e
    rw [if_pos rfl] at h
    cases h
    rw [hx.int_inv, hy.int_inv]
    exact ⟨_, rfl, .int _ _⟩
  · rw [if_neg e] at h; cases h
theorem min_rep {x y z : AV} {X Y : Value} (hx : Rep g w x X) (hy : Rep g w y Y) (h : minA x y = some z) : ∃ Z, (Builtin.min2 X Y).run P w = .ok Z w ∧ Rep g w z Z := by
  cases x <;> cases y <;> simp only [minA] at h <;> first | cases h | skip
  rename_i k m k' n
  by_cases e : k = k'
  · subst e
    rw [if_pos rfl] at h
    cases h
    rw [hx.int_inv, hy.int_inv]
    exact ⟨_, rfl, .int _ _⟩
  · rw [if_neg e] at h; cases h

/-! ### a new variable, a new map -/
theorem ok_var {o : Oper} {a : Act} {r : Rs} {z : AV} {x : Value} {t : TypeId} {loc : Bool} {slot : Option Nat} {L G L' G' : Hp} (s : Sim g w L G) (hs : ∀ k, slot = some k → L[k]? = some .dead) (hz : Rep g w z x)
    (hrun : (execOp a.eval o).run P w = .ok (.value (.pointer (some ⟨w.heap.size, 0, none⟩))) (w.alloc (.cells x.cells t)))
    (h : (if z.flat ∧ z.cells.length ≠ 0 ∧ (loc = true ∨ z.noL = true) then
        let (b, L', G') := newBlk loc slot (.row 0 [z]) L G
        some (Rs.val (.ptr loc b 0 0 0), L', G')
      else none) = some (r, L', G')) : OpOk P o a g w r L' G' := by
  by_cases hc : z.flat ∧ z.cells.length ≠ 0 ∧ (loc = true ∨ z.noL = true)
  · rw [if_pos hc] at h
    cases e : newBlk loc slot (.row 0 [z]) L G with
    | mk b LG =>
      obtain ⟨L1, G1⟩ := LG
      rw [e] at h
      simp only [Option.some.injEq, Prod.mk.injEq] at h
      obtain ⟨rfl, rfl, rfl⟩ := h
      obtain ⟨g', k1, k2, k3, k4⟩ := sim_var (el := t) s hs hz hc.1 hc.2.1 hc.2.2 e
      exact ⟨_, _, g', _, rfl, .inl hrun, k4, k1, k2, k3⟩
  · rw [if_neg hc] at h; cases h

theorem makeMap_sound {loc : Bool} {slot : Option Nat} {L G L' G' : Hp} {b : Nat} {t : TypeId} (s : Sim g w L G) (hs : ∀ k, slot = some k → L[k]? = some .dead) (e : newBlk loc slot (.map []) L G = (b, L', G')) :
    ∃ g', (Instr.makeMap t none).run P w = .ok (.map (some w.heap.size)) (w.alloc (.map #[] 0)) ∧ Rep g' (w.alloc (.map #[] 0)) (.mp loc b) (.map (some w.heap.size)) ∧ Sim g' (w.alloc (.map #[] 0)) L' G' ∧
      Ext g w g' (w.alloc (.map #[] 0)) ∧ Mono g g' := by
  obtain ⟨f1, f2⟩ := newBlk_spec s hs e
  have t := step_alloc s (loc := loc) (b := b) (.map #[] 0) (fun _ => .blk loc b) g.mu (setMp g.mp loc b w.heap.size) g.tk (fun _ _ _ _ h => h)
    (fun l' b' B h => by
      unfold setMp
      rw [if_neg fun ⟨e1, e2⟩ => by subst e1; subst e2; rw [f1.2.1] at h; cases h]
      exact h) (fun _ _ _ h => h)
    (fun l' b' hne => ⟨fun _ => rfl, by unfold setMp; rw [if_neg hne], rfl⟩)
  have hmp : setMp g.mp loc b w.heap.size loc b = some w.heap.size := by simp [setMp]
  refine ⟨_, ?_, .mp loc b _ hmp, s.upd f2 t ?_ (fun _ => rfl), t.ext, t.mono⟩
  · unfold Instr.makeMap
    simp only [Sem.run_bind, run_newObj, Sem.run_pure, Result.andThen_ok]
    rfl
  · exact ⟨w.heap.size, #[], 0, hmp, (by show (w.heap.push _)[w.heap.size]? = _; simp), fun o => (ownAt_new : ownAt g.own w.heap.size (fun _ => .blk loc b) w.heap.size o = _), rfl, fun i k v e h => by simp at h⟩

theorem run_makeSlice_nil {t el : TypeId} {z : AV} {L G : Hp} (s : Sim g w L G) (hel : elemT P t = some el) (hz : zeroT P el = some z) (hzs : zeroSz P el = szT P el) :
    ∃ V g' w', (Instr.makeSlice t (.int .i64 (0 : Int)) (.int .i64 (0 : Int))).run P w = .ok V w' ∧ Rep g' w' (.sl [] .full) V ∧ Sim g' w' L G ∧ Ext g w g' w' ∧ Mono g g' := by
  obtain ⟨x, x1, rfl, x3⟩ := zeroSz_some hz hzs
  have hsz := elemT_sz hel
  obtain ⟨i, hi⟩ := info_of_size hsz
  have hti : ∀ (u : World), (typeInfo el).run P u = .ok i u := fun u => by simp [typeInfo, hi]
  have hw : IntKind.i64.wrap (0 : Int) = 0 := by decide
  obtain ⟨s1, s2, s3⟩ := sim_plain s (.cells #[] el)
  refine ⟨.slice (some ⟨w.heap.size, 0, none⟩) 0 0, _, w.alloc (.cells #[] el), ?_, ?_, s1, s2, s3⟩
  · unfold Instr.makeSlice
    simp only [Sem.run_bind, run_underlying (elemT_some hel), Result.andThen_ok, asInt, asIntOf, Sem.run_pure, hti, hw]
    rw [if_neg (by simp)]
    simp only [Sem.run_bind, run_askRoom, Result.andThen_ok, run_sizeOf hsz, Int.toNat_zero, Nat.zero_mul, if_true, newRow, run_newObj, Sem.run_pure, show Array.range 0 = #[] from rfl, Array.map_empty]
    rfl
  · exact .sl [] .full _ 0 0 0 1 (fun _ _ => .nilFunc) (Nat.le_refl _) rfl (fun h => absurd rfl h) (fun i v h => by simp at h) (fun i v j c h => by simp at h) (fun i v j c h => by simp at h)

theorem undef_rep : Rep g w (.tup []) undef := .tup [] #[] rfl fun i c v h => by simp at h

theorem op_sound {A : Ann} {f : Nat} {slot : Option Nat} {o : Oper} {e : Env} {a : Act} {r : Rs} {L G L' G' : Hp} (s : Sim g w L G) (he : EnvOk g w e a.tmps) (hs : ∀ k, slot = some k → L[k]? = some .dead)
    (h : evOp0 P A f slot o e L G = some (r, L', G')) : OpOk P o a g w r L' G' := by
  obtain ⟨dst, op, type, pos, after, guard⟩ := o
  cases op <;> simp only [evOp0] at h
  case move x => exact ok_pure s h fun v hv => by cases hv; exact ⟨_, rfl, opd_rep he x⟩
  case assign x => exact ok_pure s h fun v hv => by cases hv; exact ⟨_, rfl, opd_rep he x⟩
  case pick c x y =>
    cases hc : opd e c with
    | bool t =>
      rw [hc] at h
      refine ok_pure s h fun v hv => ?_
      have hb := opd_rep he c
      rw [hc] at hb
      simp only [execOp, hb.bool_inv, asBool, Sem.run_bind, Sem.run_pure, Result.andThen_ok]
      cases hv
      cases t with
      | true => exact ⟨_, rfl, opd_rep he x⟩
      | false => exact ⟨_, rfl, opd_rep he y⟩
    | _ => rw [hc] at h; cases h
  case alloc t =>
    replace h := Option.bind_eq_some_iff.1 h
    obtain ⟨z, hz, h⟩ := h
    obtain ⟨x, h1, rfl⟩ := run_alloc (w := w) hz
    exact ok_var s hs (ofVal_rep x) (run_v h1) h
  case box t x => exact ok_var s hs (opd_rep he x) (run_v run_box) h
  case build t ps =>
    obtain ⟨p1, p2⟩ := Reps.parts he ps id (fun _ _ h => h)
    refine ok_pure s h fun v hv => ?_
    obtain ⟨V, h1, h2⟩ := run_build p1 p2 hv
    exact ⟨V, run_v h1, h2⟩
  case buildSlice t n ps =>
    obtain ⟨p1, p2⟩ := Reps.parts he ps handY (fun _ _ h => handY_rep h)
    replace h := Option.bind_eq_some_iff.1 h
    obtain ⟨el, hel, h⟩ := h
    replace h := Option.bind_eq_some_iff.1 h
    obtain ⟨z, hz, h⟩ := h
    replace h := Option.bind_eq_some_iff.1 h
    obtain ⟨es, hes, h⟩ := h
    by_cases hc : n * szT P el ≤ 2 ^ 20 ∧ zeroSz P el = szT P el ∧ z.flat = true ∧ A.rows f (dst.getD 0) = false
    · rw [if_pos hc] at h
      simp only [Option.some.injEq, Prod.mk.injEq] at h
      obtain ⟨rfl, rfl, rfl⟩ := h
      obtain ⟨V, g', w', h1, h2, h3, h4, h5⟩ := buildSlice_sound s hel hz p1 p2 hes hc.1 hc.2.1 hc.2.2.1
      exact ⟨_, V, g', w', rfl, .inl (run_v h1), h2, h3, h4, h5⟩
    · rw [if_neg hc] at h; cases h
  case load t x =>
    refine ok_pure s h fun v hv => ?_
    obtain ⟨V, h1, h2⟩ := load_sound s (opd_rep he x) hv
    exact ⟨V, run_v h1, h2⟩
  case store t x y =>
    replace h := Option.map_eq_some_iff.1 h
    obtain ⟨⟨L1, G1⟩, h1, h⟩ := h
    simp only [Prod.mk.injEq] at h
    obtain ⟨rfl, rfl, rfl⟩ := h
    obtain ⟨w', h2, h3, h4⟩ := store_sound s (opd_rep he x) (opd_rep he y) h1
    exact ⟨_, undef, g, w', rfl, .inr ⟨run_u h2, rfl⟩, undef_rep, h3, h4, .refl _⟩
  case nilCheck x =>
    have hx := opd_rep he x
    cases hv : opd e x with
    | ptr loc b gen i k =>
      rw [hv] at h hx
      cases h
      refine ⟨_, a.eval x, g, w, rfl, .inl ?_, hx, s, .refl _ _, .refl _⟩
      cases hx' : a.eval x with
      | pointer q => cases q with
        | none => rw [hx'] at hx; cases hx
        | some q => simp only [execOp, hx']; rfl
      | _ => rw [hx'] at hx; cases hx
    | rptr u k =>
      rw [hv] at h hx
      cases h
      refine ⟨_, a.eval x, g, w, rfl, .inl ?_, hx, s, .refl _ _, .refl _⟩
      cases hx' : a.eval x with
      | pointer q => cases q with
        | none => rw [hx'] at hx; cases hx
        | some q => simp only [execOp, hx']; rfl
      | _ => rw [hx'] at hx; cases hx
    | fn k cs =>
      rw [hv] at h hx
      cases h
      refine ⟨_, a.eval x, g, w, rfl, .inl ?_, hx, s, .refl _ _, .refl _⟩
      cases hx' : a.eval x with
      | func F fst cap =>
        rw [hx'] at hx
        cases hx
        simp only [execOp, hx']; rfl
      | _ => rw [hx'] at hx; cases hx
    | _ => rw [hv] at h; cases h
  case binOp op t x y t' =>
    refine ok_pure s h fun v hv => ?_
    obtain ⟨V, h1, h2⟩ := run_bin (ox := x) (oy := y) (opd_rep he x) (opd_rep he y) hv
    exact ⟨V, run_v h1, h2⟩
  case unOp op t x =>
    refine ok_pure s h fun v hv => ?_
    obtain ⟨V, h1, h2⟩ := run_un (opd_rep he x) hv
    exact ⟨V, run_v h1, h2⟩
  case convert t t' x =>
    refine ok_pure s h fun v hv => ?_
    obtain ⟨V, h1, h2⟩ := run_conv (opd_rep he x) hv
    exact ⟨V, run_v h1, h2⟩
  case makeInterface t x =>
    refine ok_pure s h fun v hv => ?_
    by_cases hi : isIf P t = true
    · rw [if_pos hi] at hv; cases hv
    rw [if_neg hi] at hv
    cases hv
    refine ⟨.iface t (a.eval x), run_v ?_, .ifc _ _ _ (handA_rep (opd_rep he x))⟩
    unfold isIf at hi
    cases hu : P.underlying t with
    | none => rw [hu] at hi; exact absurd rfl hi
    | some d =>
      rw [hu] at hi
      unfold Instr.makeInterface
      rw [Sem.run_bind, run_underlying hu]
      simp only [Result.andThen_ok]
      cases d <;> first | exact absurd rfl hi | rfl
  case makeFunc fn fst caps =>
    cases fn with
    | func k =>
      simp only at h
      by_cases h0 : fst.size = 0
      · rw [if_pos h0] at h
        refine ok_pure s h fun v hv => ?_
        cases hv
        have e : fst = #[] := Array.eq_empty_of_size_eq_zero h0
        subst e
        refine ⟨.func (.func k) #[] (caps.map a.eval), run_v (s := Instr.makeFunc (.func k) (Array.map a.eval #[]) (caps.map a.eval)) (by simp [Instr.makeFunc]), .fn k _ _ (by simp) fun i c v hc hv => ?_⟩
        simp only [List.getElem?_map, Array.getElem?_toList, Array.getElem?_map] at hc hv
        cases hk : caps[i]? with
        | none => rw [hk] at hc; cases hc
        | some z => rw [hk] at hc hv; cases hc; cases hv; exact opd_rep he z
      · rw [if_neg h0] at h; cases h
    | _ => cases h
  case makeMap t rs =>
    cases rs with
    | some x => cases h
    | none =>
      simp only at h
      by_cases hm : (mapT P t).isNone = true
      · rw [if_pos hm] at h; cases h
      rw [if_neg hm] at h
      cases e' : newBlk (!A.glob f (dst.getD 0)) slot (.map []) L G with
      | mk b LG =>
        obtain ⟨L1, G1⟩ := LG
        rw [e'] at h
        simp only [Option.some.injEq, Prod.mk.injEq] at h
        obtain ⟨rfl, rfl, rfl⟩ := h
        obtain ⟨g', k1, k2, k3, k4, k5⟩ := makeMap_sound (P := P) (t := t) s hs e'
        exact ⟨_, _, g', _, rfl, .inl (run_v k1), k2, k3, k4, k5⟩
  case makeSlice t n c =>
    replace h := Option.bind_eq_some_iff.1 h
    obtain ⟨el, hel, h⟩ := h
    replace h := Option.bind_eq_some_iff.1 h
    obtain ⟨z, hz, h⟩ := h
    have hn := opd_rep he n
    have hcc := opd_rep he c
    cases en : opd e n with
    | int kn p =>
      cases ec : opd e c with
      | int kc q =>
        rw [en, ec] at h
        rw [en] at hn
        rw [ec] at hcc
        cases kn <;> cases kc <;> simp only at h <;> first | cases h | skip
        by_cases hcond : p = q ∧ 0 ≤ p ∧ p * (P.bytesOf el : Int) ≤ (mostBytes : Int) ∧ p < 2 ^ 44 ∧ zeroSz P el = szT P el ∧ z.flat ∧ z.noL = true
        · rw [if_pos hcond] at h
          obtain ⟨rfl, c1, c2, c3, c4, c5, c6⟩ := hcond
          obtain ⟨m, rfl⟩ := Int.eq_ofNat_of_zero_le c1
          have hrun : execOp a.eval ⟨dst, .makeSlice t n c, type, pos, after, guard⟩ = (do let x ← Instr.makeSlice t (.int .i64 (m : Int)) (.int .i64 (m : Int)); pure (Next.value x) : Sem Next) := by
            simp only [execOp, hn.int_inv, hcc.int_inv]
          by_cases h0 : (m : Int) = 0
          · rw [if_pos h0] at h
            cases h
            have hm0 : m = 0 := by omega
            subst hm0
            obtain ⟨V, g', w', k1, k2, k3, k4, k5⟩ := run_makeSlice_nil s hel hz c4
            exact ⟨_, V, g', w', rfl, .inl (by rw [hrun]; exact run_v k1), k2, k3, k4, k5⟩
          · rw [if_neg h0] at h
            simp only [Int.toNat_natCast] at h
            cases e' : newBlk (!A.glob f (dst.getD 0)) slot (.row 0 (List.replicate m z)) L G with
            | mk b LG =>
              obtain ⟨L1, G1⟩ := LG
              rw [e'] at h
              simp only [Option.some.injEq, Prod.mk.injEq] at h
              obtain ⟨rfl, rfl, rfl⟩ := h
              have hb : m * P.bytesOf el ≤ mostBytes := by exact_mod_cast c2
              obtain ⟨V, g', w', k1, k2, k3, k4, k5⟩ := makeSlice_sound s hs hel hz hb (by omega) c4 c5 c6 (by omega) e'
              exact ⟨_, V, g', w', rfl, .inl (by rw [hrun]; exact run_v k1), k2, k3, k4, k5⟩
        · rw [if_neg hcond] at h; cases h
      | _ => rw [en, ec] at h; cases kn <;> cases h
    | _ => rw [en] at h; cases h
  case slice t x lo hi mx =>
    refine ok_pure s h fun v hv => ?_
    obtain ⟨l1, l2⟩ := opt_rep he lo
    obtain ⟨h1, h2⟩ := opt_rep he hi
    obtain ⟨m1, m2⟩ := opt_rep he mx
    obtain ⟨V, k1, k2⟩ := run_slice s (opd_rep he x) l1 h1 m1 l2 h2 m2 hv
    exact ⟨V, run_v k1, k2⟩
  case fieldAddr t x k =>
    refine ok_pure s h fun v hv => ?_
    obtain ⟨V, h1, h2⟩ := run_field (opd_rep he x) hv
    exact ⟨V, run_v h1, h2⟩
  case field t x k =>
    refine ok_pure s h fun v hv => ?_
    replace hv := Option.bind_eq_some_iff.1 hv
    obtain ⟨⟨off, ft⟩, h1, hv⟩ := hv
    have hx := opd_rep he x
    cases hc : opd e x with
    | agg cs =>
      rw [hc] at hv hx
      simp only at hv
      replace hv := Option.bind_eq_some_iff.1 hv
      obtain ⟨⟨ag, n⟩, h2, hv⟩ := hv
      obtain ⟨fs, y, hu, hf, rfl, rfl⟩ := fieldT_some h1
      obtain ⟨vs, e1, _, _⟩ := hx.agg_inv
      rw [e1] at hx
      obtain ⟨V, k1, k2⟩ := agg_part hx h2 hv
      refine ⟨V, run_v ?_, k2⟩
      unfold Instr.field
      simp only [Sem.run_bind, run_underlying hu, Result.andThen_ok, hf, e1, asAgg, Sem.run_pure, k1]
    | _ => rw [hc] at hv; cases hv
  case indexAddr t x i =>
    refine ok_pure s h fun v hv => ?_
    obtain ⟨V, h1, h2⟩ := run_indexAddr s (opd_rep he x) (opd_rep he i) hv
    exact ⟨V, run_v h1, h2⟩
  case index t x i =>
    refine ok_pure s h fun v hv => ?_
    obtain ⟨V, h1, h2⟩ := run_index (opd_rep he x) (opd_rep he i) hv
    exact ⟨V, run_v h1, h2⟩
  case lookup t m k ok =>
    refine ok_pure s h fun v hv => ?_
    obtain ⟨V, h1, h2⟩ := lookup_sound s (opd_rep he m) (opd_rep he k) hv
    exact ⟨V, run_v h1, h2⟩
  case insert t m k x =>
    replace h := Option.map_eq_some_iff.1 h
    obtain ⟨⟨L1, G1⟩, h1, h⟩ := h
    simp only [Prod.mk.injEq] at h
    obtain ⟨rfl, rfl, rfl⟩ := h
    obtain ⟨w', h2, h3, h4⟩ := update_sound s (opd_rep he m) (opd_rep he k) (opd_rep he x) h1
    exact ⟨_, undef, g, w', rfl, .inr ⟨run_u h2, rfl⟩, undef_rep, h3, h4, .refl _⟩
  case mapUpdate t m k x =>
    replace h := Option.map_eq_some_iff.1 h
    obtain ⟨⟨L1, G1⟩, h1, h⟩ := h
    simp only [Prod.mk.injEq] at h
    obtain ⟨rfl, rfl, rfl⟩ := h
    obtain ⟨w', h2, h3, h4⟩ := update_sound s (opd_rep he m) (opd_rep he k) (opd_rep he x) h1
    exact ⟨_, undef, g, w', rfl, .inr ⟨run_u h2, rfl⟩, undef_rep, h3, h4, .refl _⟩
  case extract x i =>
    have hx := opd_rep he x
    cases hc : opd e x with
    | tup vs =>
      rw [hc] at h hx
      refine ok_pure s h fun v hv => ?_
      obtain ⟨xs, e1, e2, e3⟩ := hx.tup_inv
      have hlt : i < xs.size := by rw [← e2]; exact (List.getElem?_eq_some_iff.1 hv).1
      have hg := Array.getElem?_eq_getElem hlt
      refine ⟨xs[i], run_v ?_, e3 i v _ hv hg⟩
      simp only [e1, Instr.extract, hg, Sem.run_pure]
    | _ => rw [hc] at h; cases h
  case call c =>
    obtain ⟨callee, args, argTypes⟩ := c
    cases callee with
    | value F => cases h
    | invoke rv m => cases h
    | builtin b =>
      cases b <;> simp only at h
      case len =>
        obtain ⟨args⟩ := args
        obtain ⟨argTypes⟩ := argTypes
        cases args with
        | nil => cases h
        | cons x args => cases args with
          | cons _ _ => cases h
          | nil => cases argTypes with
            | nil => cases h
            | cons t ts => cases ts with
              | cons _ _ => cases h
              | nil =>
                refine ok_pure s h fun v hv => ?_
                replace hv := Option.map_eq_some_iff.1 hv
                obtain ⟨n, hn, rfl⟩ := hv
                exact ⟨_, run_v (s := Builtin.len_ #[t] type (Array.map a.eval ⟨[x]⟩)) (by simpa using run_len (ty := type) (opd_rep he x) hn), .int _ _⟩
      case append =>
        obtain ⟨args⟩ := args
        obtain ⟨argTypes⟩ := argTypes
        cases args with
        | nil => cases h
        | cons x args => cases args with
          | nil => cases h
          | cons y args => cases args with
            | cons _ _ => cases h
            | nil => cases argTypes with
              | nil => cases h
              | cons t ts => cases ts with
                | nil => cases h
                | cons t' ts => cases ts with
                  | cons _ _ => cases h
                  | nil =>
                    simp only at h
                    replace h := Option.bind_eq_some_iff.1 h
                    obtain ⟨el, hel, h⟩ := h
                    by_cases ht : ((elemT P t').isSome || isStr P t') = false
                    · rw [if_pos ht] at h; cases h
                    rw [if_neg ht] at h
                    replace h := Option.bind_eq_some_iff.1 h
                    obtain ⟨xs, hxs, h⟩ := h
                    replace h := Option.map_eq_some_iff.1 h
                    obtain ⟨⟨u, L1, G1⟩, hap, h⟩ := h
                    simp only [Prod.mk.injEq] at h
                    obtain ⟨rfl, rfl, rfl⟩ := h
                    obtain ⟨dt, hu', hd⟩ : ∃ dt, P.underlying t' = some dt ∧ ∀ q, dt ≠ .int q := by
                      cases hq : elemT P t' with
                      | some el' => exact ⟨_, elemT_some hq, fun q e => by cases e⟩
                      | none =>
                        rw [hq] at ht
                        cases hq' : isStr P t' with
                        | true => exact ⟨_, isStr_true hq', fun q e => by cases e⟩
                        | false => rw [hq'] at ht; exact absurd rfl ht
                    obtain ⟨V, g', w', k1, k2, k3, k4, k5⟩ := append_sound (ty := type) s hs (opd_rep he x) (opd_rep he y) hxs (elemT_some hel) hu' hd hap
                    exact ⟨_, V, g', w', rfl, .inl (run_v (s := Builtin.append_ #[t, t'] type (Array.map a.eval ⟨[x, y]⟩)) (by simpa using k1)), k2, k3, k4, k5⟩
      case copy =>
        obtain ⟨args⟩ := args
        obtain ⟨argTypes⟩ := argTypes
        cases args with
        | nil => cases h
        | cons x args => cases args with
          | nil => cases h
          | cons y args => cases args with
            | cons _ _ => cases h
            | nil => cases argTypes with
              | nil => cases h
              | cons t ts => cases ts with
                | nil => cases h
                | cons t' ts => cases ts with
                  | cons _ _ => cases h
                  | nil =>
                    simp only at h
                    replace h := Option.bind_eq_some_iff.1 h
                    obtain ⟨el, hel, h⟩ := h
                    replace h := Option.bind_eq_some_iff.1 h
                    obtain ⟨xs, hxs, h⟩ := h
                    replace h := Option.map_eq_some_iff.1 h
                    obtain ⟨⟨n, L1, G1⟩, hcp, h⟩ := h
                    simp only [Prod.mk.injEq] at h
                    obtain ⟨rfl, rfl, rfl⟩ := h
                    obtain ⟨w', k1, k2, k3⟩ := copy_sound (t' := t') (ty := type) s (opd_rep he x) (opd_rep he y) hxs hel hcp
                    exact ⟨_, _, g, w', rfl, .inl (run_v (s := Builtin.copy_ #[t, t'] type (Array.map a.eval ⟨[x, y]⟩)) (by simpa using k1)), .int _ _, k2, k3, Mono.refl g⟩
      case max =>
        obtain ⟨args⟩ := args
        cases args with
        | nil => cases h
        | cons x l =>
          refine ok_pure s h fun v hv => ?_
          obtain ⟨V, k1, k2⟩ := foldA_rep (F := Builtin.max2) (fun _ _ _ _ _ => max_rep) (opd_rep he x) (vs := l.map a.eval) (by simp) (fun i c y hc hy => by
            simp only [List.getElem?_map] at hc hy
            cases hk : l[i]? with
            | none => rw [hk] at hc; cases hc
            | some z => rw [hk] at hc hy; cases hc; cases hy; exact opd_rep he z) hv
          exact ⟨V, run_v (s := Builtin.max_ argTypes type (Array.map a.eval ⟨x :: l⟩)) (by simpa [Builtin.max_] using k1), k2⟩
      case min =>
        obtain ⟨args⟩ := args
        cases args with
        | nil => cases h
        | cons x l =>
          refine ok_pure s h fun v hv => ?_
          obtain ⟨V, k1, k2⟩ := foldA_rep (F := Builtin.min2) (fun _ _ _ _ _ => min_rep) (opd_rep he x) (vs := l.map a.eval) (by simp) (fun i c y hc hy => by
            simp only [List.getElem?_map] at hc hy
            cases hk : l[i]? with
            | none => rw [hk] at hc; cases hc
            | some z => rw [hk] at hc hy; cases hc; cases hy; exact opd_rep he z) hv
          exact ⟨V, run_v (s := Builtin.min_ argTypes type (Array.map a.eval ⟨x :: l⟩)) (by simpa [Builtin.min_] using k1), k2⟩
      all_goals cases h
  all_goals cases h
end
end Ev
