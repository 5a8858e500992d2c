/- Code, functions: what the evaluator says of them is what the model does. -/
import Derived.Test.YtecflllnnbiheaaEv10
set_option maxHeartbeats 4000000
set_option linter.unusedVariables false
set_option linter.unusedSimpArgs false
namespace Ev
open Go
section
variable {P : Program} {g g' : Gh} {w w' : World}

/-! ### what is forgotten -/
theorem kill_get {e : Env} {i : Nat} {v : AV} : ∀ {K : List Nat}, getE? (killE K e) i = some v → getE? e i = some v
  | [], h => by cases h
  | t :: K, h => by
    unfold killE at h
    cases hg : getE? e t with
    | none => rw [hg] at h; exact kill_get h
    | some u =>
      rw [hg] at h
      simp only [getE?] at h
      by_cases ht : t = i
      · rw [if_pos ht] at h
        cases h
        rw [← ht]
        exact hg
      · rw [if_neg ht] at h
        exact kill_get h
theorem EnvOk.kill {K : List Nat} {e : Env} {t : Array Value} (h : EnvOk g w e t) : EnvOk g w (killE K e) t := fun i v hv => h i v (kill_get hv)
theorem get_vals {e : Env} {i : Nat} {v : AV} : getE? e i = some v → v ∈ valsE e := fun h => by
  induction e with
  | nil => cases h
  | cons x e ih =>
    obtain ⟨j, u⟩ := x
    simp only [getE?] at h
    by_cases hj : j = i
    · rw [if_pos hj] at h; cases h; simp [valsE]
    · rw [if_neg hj] at h; have := ih h; simp only [valsE, List.map_cons, List.mem_cons] at this ⊢; exact .inr this

def Own.trim (k : Nat) : Own → Own
  | .blk true b => if b < k then .blk true b else .no
  | x => x
def Gh.trim (k : Nat) (g : Gh) : Gh := ⟨fun B o => (g.own B o).trim k, fun loc b gen => if loc = true ∧ k ≤ b then Option.none else g.mu loc b gen, fun loc b => if loc = true ∧ k ≤ b then Option.none else g.mp loc b, fun loc b => if loc = true ∧ k ≤ b then Option.none else g.tk loc b⟩
def qBel (k : Nat) : Bool → Nat → Bool := fun loc b => !loc || decide (b < k)
theorem qBel_not {k b : Nat} {loc : Bool} (h : qBel k loc b = true) : ¬ (loc = true ∧ k ≤ b) := fun ⟨e1, e2⟩ => by
  unfold qBel at h
  subst e1
  simp at h
  omega
theorem keeps_trim {k : Nat} : Keeps g w (g.trim k) w (qBel k) where
  prot := fun B o h => ⟨by show (g.own B o).trim k = _; rw [h]; rfl, fun x hx => hx⟩
  mu := fun loc b hl gen l h => by show (if loc = true ∧ k ≤ b then none else g.mu loc b gen) = _; rw [if_neg (qBel_not hl)]; exact h
  mp := fun loc b hl B h => by show (if loc = true ∧ k ≤ b then none else g.mp loc b) = _; rw [if_neg (qBel_not hl)]; exact h
  tk := fun loc b hl I h => ⟨I, by show (if loc = true ∧ k ≤ b then none else g.tk loc b) = _; rw [if_neg (qBel_not hl)]; exact h, .inl rfl⟩
theorem ext_trim {k : Nat} : Ext g w (g.trim k) w where
  size := Nat.le_refl _
  os := rfl
  tape := rfl
  output := rfl
  keep := fun B o _ h => ⟨by show (g.own B o).trim k = _; rcases h with h | h <;> rw [h] <;> rfl, rfl, rfl⟩
  blk := fun _ _ _ => rfl
  gmu := fun b gen l h => by show (if false = true ∧ k ≤ b then none else g.mu false b gen) = _; rw [if_neg (fun h => by cases h.1)]; exact h
  gmp := fun b B h => by show (if false = true ∧ k ≤ b then none else g.mp false b) = _; rw [if_neg (fun h => by cases h.1)]; exact h
  gtk := fun b I h => ⟨I, by show (if false = true ∧ k ≤ b then none else g.tk false b) = _; rw [if_neg (fun h => by cases h.1)]; exact h, .inl rfl⟩
theorem blk_refs_mono {Q Q' : Bool → Nat → Bool} (hQ : ∀ l b, Q l b = true → Q' l b = true) {x : Blk} (h : x.refs Q = true) : x.refs Q' = true := by
  cases x <;> first | rfl | exact refss_mono hQ _ h
theorem blk_trim {k : Nat} {loc : Bool} {b : Nat} {x : Blk} (hb : qBel k loc b = true) (hx : x.refs (qBel k) = true) (h : BlkOk g w loc b x) : BlkOk (g.trim k) w loc b x := by
  have hn := qBel_not hb
  refine h.keepsQ hx (fun v y hv hr => hr.keeps keeps_trim hv) (fun B o ho => ⟨?_, rfl, rfl⟩) (fun _ _ => rfl) (fun gen => if_neg hn) (if_neg hn) (if_neg hn)
  show (g.own B o).trim k = _
  rw [ho]
  cases loc with
  | false => rfl
  | true => exact if_pos (by unfold qBel at hb; simpa using hb)
theorem sim_trim {k : Nat} {L G : Hp} (s : Sim g w L G) (hk : k ≤ L.length) (hL : (L.take k).all (Blk.bel k) = true) : Sim (g.trim k) w (L.take k) G := by
  refine ⟨⟨fun b x h => ?_, fun b h => ?_⟩, ⟨⟨fun b x h => ?_, fun b h => ?_⟩, s.g.noL, fun B o h => ?_⟩⟩
  · have hlt : b < k := by
      have := (List.getElem?_eq_some_iff.1 h).1
      rw [List.length_take] at this
      omega
    have hx : x.refs (qBel k) = true := by
      have := List.all_eq_true.1 hL x (List.mem_of_getElem? h)
      cases x <;> exact this
    rw [List.getElem?_take, if_pos hlt] at h
    exact blk_trim (by simp [qBel, hlt]) hx (s.l.blk b x h)
  · rw [List.length_take] at h
    have hb : k ≤ b := by omega
    exact ⟨fun gen => if_pos (c := true = true ∧ k ≤ b) ⟨rfl, hb⟩, if_pos (c := true = true ∧ k ≤ b) ⟨rfl, hb⟩, if_pos (c := true = true ∧ k ≤ b) ⟨rfl, hb⟩⟩
  · exact blk_trim (by simp [qBel]) (blk_refs_mono (fun l b h => by unfold qBel; rw [h]; rfl) (noL_refs (s.g.noL b x h))) (s.g.hp.blk b x h)
  · have hn : ¬ (false = true ∧ k ≤ b) := fun h => by cases h.1
    obtain ⟨h1, h2, h3⟩ := s.g.hp.new b h
    exact ⟨fun gen => (if_neg (t := Option.none) hn).trans (h1 gen), (if_neg (t := Option.none) hn).trans h2, (if_neg (t := Option.none) hn).trans h3⟩
  · show (g.own B o).trim k = _
    rw [s.own B o h]
    rfl
theorem trim_sound {k : Nat} {e : Env} {t : Array Value} {L G : Hp} (s : Sim g w L G) (he : EnvOk g w e t) : ∃ g', Sim g' w (trim k e L) G ∧ EnvOk g' w e t ∧ Ext g w g' w := by
  unfold trim
  by_cases h1 : L.length ≤ k
  · rw [if_pos h1]
    exact ⟨g, s, he, .refl _ _⟩
  · rw [if_neg h1]
    by_cases h2 : (bels k (valsE e) && (L.take k).all (Blk.bel k)) = true
    · rw [if_pos h2]
      rw [Bool.and_eq_true] at h2
      exact ⟨g.trim k, sim_trim s (by omega) h2.2, he.map fun i v x hv hr => hr.keeps keeps_trim (refss_mem h2.1 (get_vals hv)), ext_trim⟩
    · rw [if_neg h2]
      exact ⟨g, s, he, .refl _ _⟩

/-! ### loops -/
/-- at the end of a round -/
def LoopAt (P : Program) (c : Code) (Q : Exit → Act → World → Prop) (a : Act) (w : World) : Prop :=
  ∀ (b : Frame) (k : List Item) (cs : List Frame), ∃ e a' w', Q e a' w' ∧ Arrives P (lone (b.at a (.inLoop c :: k)) cs w) b k cs e a' w'
theorem loop_from {c : Code} {Q : Exit → Act → World → Prop} {a : Act} {w : World} (h : c.wp P (Exit.then (LoopAt P c Q) Q) a w) (b : Frame) (k : List Item) (cs : List Frame) :
    ∃ e a' w', Q e a' w' ∧ Arrives P (lone (b.at a (.code c :: .inLoop c :: k)) cs w) b k cs e a' w' := by
  obtain ⟨e, a₁, w₁, hq, harr⟩ := h b (.inLoop c :: k) cs
  cases e with
  | normal =>
    obtain ⟨e₂, a₂, w₂, hq₂, harr₂⟩ := hq b k cs
    exact ⟨e₂, a₂, w₂, hq₂, .of_steps harr harr₂⟩
  | exit id => exact ⟨_, a₁, w₁, hq, .pass (x := .inLoop c) rfl (fun _ _ => .inl (by simp)) harr⟩
  | goto l => exact ⟨_, a₁, w₁, hq, .pass (x := .inLoop c) rfl (fun _ _ => .inl (by simp)) harr⟩
  | ret => exact ⟨_, a₁, w₁, hq, .pass (x := .inLoop c) rfl (fun _ _ => .inl (by simp)) harr⟩
  | panic ch => exact ⟨_, a₁, w₁, hq, .pass (x := .inLoop c) rfl (fun _ _ => .inl (by simp)) harr⟩
  | outgrown => exact ⟨_, a₁, w₁, hq, .pass (x := .inLoop c) rfl (fun _ _ => .inl (by simp)) harr⟩
theorem loopAt_of {c : Code} {Q : Exit → Act → World → Prop} {a : Act} {w : World} (h : c.wp P (Exit.then (LoopAt P c Q) Q) a w) : LoopAt P c Q a w := fun b k cs => by
  obtain ⟨e, a', w', hq, harr⟩ := loop_from h b k cs
  exact ⟨e, a', w', hq, .of_steps (.one step_inLoop) harr⟩
theorem wp_loop_of {c : Code} {Q : Exit → Act → World → Prop} {a : Act} {w : World} (h : c.wp P (Exit.then (LoopAt P c Q) Q) a w) : (Code.loop c).wp P Q a w := fun b k cs => by
  obtain ⟨e, a', w', hq, harr⟩ := loop_from h b k cs
  exact ⟨e, a', w', hq, .of_steps (.one step_loop) harr⟩

def CodeOk (P : Program) (n : Nat) (c : Code) (ev : Env → Hp → Hp → Option Out) : Prop := ∀ e L G r, ev e L G = some r → ∀ g w (a : Act), Sim g w L G → EnvOk g w e a.tmps → ActOk n a → c.wp P (CodePost n r g w) a w

theorem loopN_sound {N : Nat} {c : Code} {ev : Env → Hp → Hp → Option Out} (hb : CodeOk P N c ev) {m : List Nat} {k : Nat} {r : Out} {g0 : Gh} {w0 : World} : ∀ {n : Nat} {e : Env} {L G : Hp} {g : Gh} {w : World} {a : Act}, loopN m k ev n e L G = some r →
    Sim g w L G → EnvOk g w e a.tmps → ActOk N a → Ext g0 w0 g w → c.wp P (Exit.then (LoopAt P c (CodePost N r g0 w0)) (CodePost N r g0 w0)) a w
  | 0, _, _, _, _, _, _, h, _, _, _, _ => by cases h
  | n + 1, e, L, G, g, w, a, h, s, he, hd, hx => by
    rw [loopN] at h
    cases hr : ev e L G with
    | none => rw [hr] at h; cases h
    | some r1 =>
      rw [hr] at h
      refine wp_mono (hb e L G r1 hr g w a s he hd) fun E a1 w1 hp => ?_
      obtain ⟨ex, e1, L1, G1⟩ := r1
      cases ex with
      | nor =>
        simp only at h
        obtain ⟨g1, s1, he1, hd1, hx1, ho⟩ := hp
        simp only [ExOk] at ho
        subst ho
        obtain ⟨g2, s2, he2, hx2⟩ := trim_sound (k := k) s1 (he1.kill (K := m))
        exact loopAt_of (loopN_sound hb h s2 he2 hd1 ((hx.trans hx1).trans hx2))
      | exit id =>
        cases h
        obtain ⟨g1, s1, he1, hd1, hx1, ho⟩ := hp
        simp only [ExOk] at ho
        subst ho
        exact ⟨g1, s1, he1, hd1, hx.trans hx1, rfl⟩
      | ret =>
        cases h
        obtain ⟨g1, s1, he1, hd1, hx1, ho⟩ := hp
        simp only [ExOk] at ho
        subst ho
        exact ⟨g1, s1, he1, hd1, hx.trans hx1, rfl⟩
      | pan v =>
        cases h
        obtain ⟨g1, s1, he1, hd1, hx1, x, rfl, ho⟩ := hp
        exact ⟨g1, s1, he1, hd1, hx.trans hx1, x, rfl, ho⟩

/-! ### the end of a frame -/
/-- the frame is gone: its blocks never change any more (both: no block does) -/
def Gh.end (both : Bool) (g : Gh) : Gh := ⟨fun B o => match g.own B o with | .blk loc b => if loc || both then .prot else .blk loc b | x => x,
  fun loc b gen => if loc || both then Option.none else g.mu loc b gen, fun loc b => if loc || both then Option.none else g.mp loc b, fun loc b => if loc || both then Option.none else g.tk loc b⟩
theorem end_left {both : Bool} : Left both g (g.end both) where
  prot := fun B o h => by simp [Gh.end, h]
  blk := fun B o loc b h hb => by simp only [Gh.end, h]; rw [if_pos hb]
  mu := fun h b gen l hm => by subst h; exact hm
  mp := fun h b B hm => by subst h; exact hm
  tk := fun h b I hm => by subst h; exact hm
theorem end_blk {both : Bool} {B o b : Nat} (h : g.own B o = .blk false b) (hb : both = false) : (g.end both).own B o = .blk false b := by subst hb; simp [Gh.end, h]
theorem sim_end {both : Bool} {L G : Hp} (s : Sim g w L G) : Sim (g.end both) w [] (if both then [] else G) := by
  have hown : ∀ B o, w.heap.size ≤ B → (g.end both).own B o = .no := fun B o h => by simp [Gh.end, s.own B o h]
  cases both with
  | true => exact sim_nil (fun loc b gen => by simp [Gh.end]) (fun loc b => by simp [Gh.end]) (fun loc b => by simp [Gh.end]) hown
  | false =>
    refine ⟨⟨fun b x h => by simp at h, fun b _ => ⟨fun _ => rfl, rfl, rfl⟩⟩, ⟨⟨fun b x h => ?_, fun b h => s.g.hp.new b h⟩, s.g.noL, hown⟩⟩
    refine (s.g.hp.blk b x h).keepsQ (noL_refs (s.g.noL b x h)) (fun v y hv hr => hr.keeps (end_left (both := false)).keeps (?_)) (fun B o ho => ⟨end_blk ho rfl, rfl, rfl⟩) (fun B _ => rfl) (fun gen => rfl) rfl rfl
    exact (noL_q v).symm.trans hv
theorem ext_end {both : Bool} {g0 : Gh} {w0 : World} (hf : both = true → ∀ b, Fresh g0 false b) (e : Ext g0 w0 g w) : Ext g0 w0 (g.end both) w where
  size := e.size
  os := e.os
  tape := e.tape
  output := e.output
  keep := fun B o hB h => by
    obtain ⟨k1, k2, k3⟩ := e.keep B o hB h
    refine ⟨?_, k2, k3⟩
    rcases h with h | h <;> (rw [h] at k1; simp [Gh.end, k1, h])
  blk := e.blk
  gmu := fun b gen l h => by
    cases both with
    | true => rw [(hf rfl b).1 gen] at h; cases h
    | false => exact e.gmu b gen l h
  gmp := fun b B h => by
    cases both with
    | true => rw [(hf rfl b).2.1] at h; cases h
    | false => exact e.gmp b B h
  gtk := fun b I h => by
    cases both with
    | true => rw [(hf rfl b).2.2] at h; cases h
    | false => exact e.gtk b I h

theorem frz_ptr {L G : Hp} (s : Sim g w L G) {b gen i o : Nat} {X : Value} (hr : Rep g w (.ptr true b gen i o) X) {es : List AV} {x : AV} (he : elemsOf L G (.hs true b gen i 1) = some es)
    (hd : deepS false L G 3 es = [x]) (hq : x.refs (qLeft false) = true) : Rep (g.end false) w (.rptr x o) X := by
  cases hr with
  | ptr _ _ _ _ _ l hm =>
    have hcap : i + 1 ≤ l.cap := by
      unfold elemsOf at he
      cases hb' : (hpOf true L G)[b]? with
      | none => simp only [hb'] at he; cases he
      | some blk =>
        simp only [hb'] at he
        cases blk with
        | row gen' rows =>
          simp only at he
          by_cases hg : gen' = gen ∧ i + 1 ≤ rows.length
          · obtain ⟨rfl, hle⟩ := hg
            obtain ⟨l', m1, m2, m3⟩ := hpOf_blk s hb'
            rw [hm] at m1
            cases m1
            have := m3.len
            omega
          · rw [if_neg hg] at he; cases he
        | _ => cases he
    have hs : Rep g w (.hs true b gen i 1) (.slice (some ⟨l.B, l.base + i * l.sz, none⟩) 1 (l.cap - i)) := .hs _ _ _ _ _ l hm hcap
    have hl := leave_deep (both := false) end_left s 3 hs rfl he (by rw [hd]; unfold refss refss; rw [hq]; rfl)
    rw [hd] at hl
    generalize hv : Value.slice (some ⟨l.B, l.base + i * l.sz, none⟩) 1 (l.cap - i) = V at hl
    cases hl with
    | sl _ _ a cap B base sz y hc ht ha h0 h1 h2 =>
      obtain ⟨e1, _⟩ := ha (by simp)
      cases hv
      cases e1
      refine .rptr x o _ _ (y 0) (fun j c hj => ?_) (fun j c hj => h2 0 x j c rfl hj)
      have := h1 0 x j c rfl hj
      simpa using this
theorem frz_sound {L G : Hp} (s : Sim g w L G) {e : Env} {t : Array Value} (he : EnvOk g w e t) (b : Bool) : ∃ g', Sim g' w (frzL b L) G ∧ EnvOk g' w (frzE b L G e) t ∧ Ext g w g' w := by
  cases b with
  | false => exact ⟨g, s, he, .refl _ _⟩
  | true =>
    refine ⟨g.end false, sim_end (both := false) s, fun i v hv => ?_, ext_end (fun h => by cases h) (.refl _ _)⟩
    have hm : ∀ {e : Env}, getE? (frzE true L G e) i = some v → ∃ u, getE? e i = some u ∧ v = frzW L G u := fun {e} => by
      intro h
      induction e with
      | nil => cases h
      | cons p e ih =>
        obtain ⟨k, u⟩ := p
        simp only [frzE, List.map_cons, getE?] at h
        by_cases hk : k = i
        · rw [if_pos hk] at h
          cases h
          exact ⟨u, by simp only [getE?]; rw [if_pos hk], rfl⟩
        · rw [if_neg hk] at h
          obtain ⟨u', h1, h2⟩ := ih h
          exact ⟨u', by simp only [getE?]; rw [if_neg hk]; exact h1, h2⟩
    obtain ⟨u, hu, rfl⟩ := hm hv
    obtain ⟨X, hX, hr⟩ := he i u hu
    refine ⟨X, hX, ?_⟩
    unfold frzW
    by_cases hq : (frzV L G u).noL = true
    · rw [if_pos hq]
      rw [noL_q] at hq
      have hother : frzV L G u = leave false L G u → Rep (g.end false) w (frzV L G u) X := fun e1 => by
        rw [e1] at hq ⊢
        exact leave_rep end_left s u hr hq
      cases u with
      | ptr loc b gen i o =>
        cases loc with
        | false => exact hother rfl
        | true =>
          unfold frzV at hq ⊢
          simp only at hq ⊢
          cases hel : elemsOf L G (.hs true b gen i 1) with
          | none => exact .junk X
          | some es =>
            rw [hel] at hq
            simp only at hq ⊢
            split
            · next x hx =>
              rw [hx] at hq
              exact frz_ptr s hr hel hx hq
            · exact .junk X
      | _ => exact hother rfl
    · rw [if_neg hq]
      exact .junk X

/-! ### code -/
def DrawsOk (P : Program) (A : Ann) (call : CallF) (f : Nat) : Prop := ∀ n ops e L G r, (∀ o ∈ ops, fitsO n o = true) → drawOk ⟨P, A, call⟩ f ops = true →
  evDraws ⟨P, A, call⟩ f ops L.length (slotted ⟨P, A, call⟩ f L.length ops.toList) e (L ++ List.replicate (slotsIn ⟨P, A, call⟩ f ops.toList) .dead) G = some r →
  ∀ g w (a : Act), Sim g w L G → EnvOk g w e a.tmps → ActOk n a → ∀ id, (Code.region id ops true).wp P (CodePost n r g w) a w
/-- the temporaries that code puts into are there; regions that may be run in any order may -/
def fitsC (P : Program) (A : Ann) (f n : Nat) : Code → Bool
  | .region id ops draw => ops.all (fitsO n) && (!draw || !A.dr f id || drawOk ⟨P, A, fun _ _ _ => none⟩ f ops)
  | .seq a b => fitsC P A f n a && fitsC P A f n b
  | .cond _ a b => fitsC P A f n a && fitsC P A f n b
  | .block _ a => fitsC P A f n a
  | .loop a => fitsC P A f n a
  | _ => true
def FitsP (P : Program) (A : Ann) : Prop := ∀ (f : Nat) (fn : Func) (c : Code), P.funcs[f]? = some fn → fn.body = some c → fitsC P A f fn.ntmps c = true
theorem live_post {n : Nat} {K : Option (List Nat)} {r r' : Out} {g : Gh} {w : World} {E : Exit} {a' : Act} {w' : World} (h : CodePost n r g w E a' w') (hl : liveA K (some r) = some r') : CodePost n r' g w E a' w' := by
  cases K with
  | none => cases hl; exact h
  | some K =>
    cases hl
    obtain ⟨g1, h1, h2, h3, h4, h5⟩ := h
    exact ⟨g1, h1, h2.kill, h3, h4, h5⟩

theorem then_post {n : Nat} {r : Out} {g : Gh} {w : World} {next : Act → World → Prop} {E : Exit} {a' : Act} {w' : World} {ex : Ex} {e1 : Env} {L1 G1 : Hp} (hp : CodePost n (ex, e1, L1, G1) g w E a' w') (hn : ex ≠ .nor) (hr : r = (ex, e1, L1, G1)) :
    Exit.then next (CodePost n r g w) E a' w' := by
  subst hr
  have h := hp
  obtain ⟨g1, s1, he1, hd1, hx1, ho⟩ := hp
  cases ex with
  | nor => exact absurd rfl hn
  | exit id => simp only [ExOk] at ho; subst ho; exact h
  | ret => simp only [ExOk] at ho; subst ho; exact h
  | pan v => obtain ⟨x, rfl, _⟩ := ho; exact h

theorem code_sound {A : Ann} {call : CallF} (hn : NoNum P) (hc : CallOk P A call) (ho : OrcOk P A) {f n : Nat} (hdr : DrawsOk P A call f) : ∀ (c : Code), fitsC P A f n c = true → CodeOk P n c (evCode ⟨P, A, call⟩ f c)
  | .skip, _, e, L, G, r, h, g, w, a, s, he, hd => by rw [evCode] at h; cases h; exact wp_skip ⟨g, s, he, hd, .refl _ _, rfl⟩
  | .label l, _, e, L, G, r, h, g, w, a, s, he, hd => by rw [evCode] at h; cases h; exact wp_label ⟨g, s, he, hd, .refl _ _, rfl⟩
  | .exit l, _, e, L, G, r, h, g, w, a, s, he, hd => by rw [evCode] at h; exact wp_exit (live_post (r := (.exit l, e, L, G)) ⟨g, s, he, hd, .refl _ _, rfl⟩ h)
  | .ret, _, e, L, G, r, h, g, w, a, s, he, hd => by rw [evCode] at h; cases h; exact wp_ret ⟨g, s, he, hd, .refl _ _, rfl⟩
  | .region id ops draw, hfit, e, L, G, r, h, g, w, a, s, he, hd => by
    rw [evCode] at h
    unfold evReg at h
    obtain ⟨r0, h, hlive⟩ := liveA_some h
    obtain ⟨g', s', he', hx⟩ := frz_sound s he (A.frz f id)
    refine wp_mono (Q := CodePost n r0 g' w) ?_ fun E a' w' hp => live_post (hp.trans hx) hlive
    replace h : evReg0 ⟨P, A, call⟩ f id ops draw (frzE (A.frz f id) L G e) (frzL (A.frz f id) L) G = some r0 := h
    generalize frzE (A.frz f id) L G e = e at h he'
    generalize frzL (A.frz f id) L = L at h s'
    unfold evReg0 at h
    rw [fitsC, Bool.and_eq_true] at hfit
    have hfit' : ∀ o ∈ ops, fitsO n o = true := fun o hm => Array.all_eq_true_iff_forall_mem.1 hfit.1 o hm
    cases draw with
    | true =>
      rw [if_pos rfl] at h
      by_cases hok : A.dr f id = true
      · rw [if_pos hok] at h
        have hdo : drawOk ⟨P, A, call⟩ f ops = true := by
          have := hfit.2
          rw [hok] at this
          simp only [Bool.not_true, Bool.false_or] at this
          exact (@drawOk_call P A call (fun _ _ _ => none) f ops).trans this
        exact hdr n ops e L G r0 hfit' hdo h g' w a s' he' hd id
      · rw [if_neg hok] at h; cases h
    | false =>
      rw [if_neg (by simp)] at h
      refine wp_region ?_
      have := list_sound hn hc ho hfit' (k := 0) rfl h s' he' hd
      rw [List.range_eq_range']
      simpa using this
  | .seq x y, hfit, e, L, G, r, h, g, w, a, s, he, hd => by
    rw [evCode] at h
    rw [fitsC, Bool.and_eq_true] at hfit
    refine wp_seq ?_
    cases hx : evCode ⟨P, A, call⟩ f x e L G with
    | none => rw [hx] at h; cases h
    | some r1 =>
      rw [hx] at h
      refine wp_mono (code_sound hn hc ho hdr x hfit.1 e L G r1 hx g w a s he hd) fun E a1 w1 hp => ?_
      obtain ⟨ex, e1, L1, G1⟩ := r1
      cases ex with
      | nor =>
        obtain ⟨g1, s1, he1, hd1, hx1, hex⟩ := hp
        simp only [ExOk] at hex
        subst hex
        exact wp_mono (code_sound hn hc ho hdr y hfit.2 e1 L1 G1 r h g1 w1 a1 s1 he1 hd1) fun E a2 w2 hp => hp.trans hx1
      | exit id => exact then_post hp (by simp) (by cases h; rfl)
      | ret => exact then_post hp (by simp) (by cases h; rfl)
      | pan v => exact then_post hp (by simp) (by cases h; rfl)
  | .cond c x y, hfit, e, L, G, r, h, g, w, a, s, he, hd => by
    rw [evCode] at h
    rw [fitsC, Bool.and_eq_true] at hfit
    have hr := opd_rep he c
    cases hv : opd e c with
    | bool t =>
      rw [hv] at h hr
      simp only [condA] at h
      refine wp_cond (t := t) hr.bool_inv ?_
      cases t with
      | true => rw [if_pos rfl] at h ⊢; exact code_sound hn hc ho hdr x hfit.1 e L G r h g w a s he hd
      | false => rw [if_neg (by simp)] at h ⊢; exact code_sound hn hc ho hdr y hfit.2 e L G r h g w a s he hd
    | _ => rw [hv] at h; cases h
  | .block id x, hfit, e, L, G, r, h, g, w, a, s, he, hd => by
    rw [evCode] at h
    refine wp_block ?_
    cases hx : evCode ⟨P, A, call⟩ f x e L G with
    | none => rw [hx] at h; cases h
    | some r1 =>
      rw [hx] at h
      refine wp_mono (code_sound hn hc ho hdr x hfit e L G r1 hx g w a s he hd) fun E a1 w1 hp => ?_
      obtain ⟨ex, e1, L1, G1⟩ := r1
      cases ex with
      | nor =>
        cases h
        have h' := hp
        obtain ⟨g1, s1, he1, hd1, hx1, hex⟩ := hp
        simp only [ExOk] at hex
        subst hex
        exact h'
      | exit i =>
        simp only [blockA] at h
        have h' := hp
        obtain ⟨g1, s1, he1, hd1, hx1, hex⟩ := hp
        simp only [ExOk] at hex
        subst hex
        by_cases hi : i = id
        · rw [if_pos hi] at h
          cases h
          simp only [Exit.inBlock]
          rw [if_pos hi]
          exact ⟨g1, s1, he1, hd1, hx1, rfl⟩
        · rw [if_neg hi] at h
          cases h
          simp only [Exit.inBlock]
          rw [if_neg hi]
          exact h'
      | ret =>
        cases h
        have h' := hp
        obtain ⟨g1, s1, he1, hd1, hx1, hex⟩ := hp
        simp only [ExOk] at hex
        subst hex
        exact h'
      | pan v =>
        cases h
        have h' := hp
        obtain ⟨g1, s1, he1, hd1, hx1, x, hex, _⟩ := hp
        subst hex
        exact h'
  | .loop x, hfit, e, L, G, r, h, g, w, a, s, he, hd => by
    rw [evCode] at h
    obtain ⟨n, hn'⟩ := loopW_iff.1 h
    exact wp_loop_of (loopN_sound (code_sound hn hc ho hdr x hfit) hn' s (he.kill) hd (.refl _ _))
  | .rangeFunc .., _, _, _, _, _, h, _, _, _, _, _, _ => by rw [evCode] at h <;> first | cases h | (intros; simp)
  | .scope _, _, _, _, _, _, h, _, _, _, _, _, _ => by rw [evCode] at h <;> first | cases h | (intros; simp)
  | .goto _, _, _, _, _, _, h, _, _, _, _, _, _ => by rw [evCode] at h <;> first | cases h | (intros; simp)
  | .refuse _, _, _, _, _, _, h, _, _, _, _, _, _ => by rw [evCode] at h <;> first | cases h | (intros; simp)

/-! ### functions -/
theorem load_var {L G : Hp} (s : Sim g w L G) {t : TypeId} {p r : AV} {X : Value} (hp : Rep g w p X) (h : loadA P t p L G = some r) : ∃ V, (do loadVar t (← asAddr X) : Sem Value).run P w = .ok V w ∧ Rep g w r V := by
  obtain ⟨V, h1, h2⟩ := load_sound s hp h
  refine ⟨V, ?_, h2⟩
  have hX : ∃ A, X = .pointer (some A) := by
    cases hp with
    | ptr _ _ _ _ _ l _ => exact ⟨_, rfl⟩
    | rptr _ _ _ _ _ _ => exact ⟨_, rfl⟩
    | _ => cases h
  obtain ⟨A, rfl⟩ := hX
  exact h1

theorem res_sound {L G : Hp} (s : Sim g w L G) {e : Env} {t : Array Value} (he : EnvOk g w e t) {rv : ResultVar} {v : AV} (h : resA P e L G rv = some v) :
    ∃ V, (match rv with | .tmp k => pure (t.getD k undef) | .cell a ty => do loadVar ty (← asAddr (t.getD a undef)) : Sem Value).run P w = .ok V w ∧ Rep g w v V := by
  have hget : ∀ k, Rep g w (getE e k) (t.getD k undef) := fun k => getE_rep he k
  cases rv with
  | tmp k => cases h; exact ⟨_, rfl, hget k⟩
  | cell a ty => exact load_var s (hget a) h
theorem ress_sound {L G : Hp} (s : Sim g w L G) {e : Env} {t : Array Value} (he : EnvOk g w e t) : ∀ {l : List ResultVar} {vs : List AV}, resAs P e L G l = some vs →
    ∃ V : List Value, (l.mapM fun rv => (match rv with | .tmp k => pure (t.getD k undef) | .cell a ty => do loadVar ty (← asAddr (t.getD a undef)) : Sem Value)).run P w = .ok V w ∧ vs.length = V.length ∧ ∀ (i : Nat) c v, vs[i]? = some c → V[i]? = some v → Rep g w c v
  | [], vs, h => by rw [resAs] at h; cases h; exact ⟨[], rfl, rfl, fun i c v h => by simp at h⟩
  | rv :: l, vs, h => by
    rw [resAs] at h
    replace h := Option.bind_eq_some_iff.1 h
    obtain ⟨v, hv, h⟩ := h
    replace h := Option.map_eq_some_iff.1 h
    obtain ⟨us, hu, rfl⟩ := h
    obtain ⟨V, h1, h2⟩ := res_sound s he hv
    obtain ⟨Vs, k1, k2, k3⟩ := ress_sound s he hu
    refine ⟨V :: Vs, ?_, by simp [k2], fun i c y hc hy => ?_⟩
    · rw [List.mapM_cons, Sem.run_bind, h1]
      simp only [Result.andThen_ok]
      rw [Sem.run_bind, k1]
      rfl
    · cases i with
      | zero => simp at hc hy; rw [← hc, ← hy]; exact h2
      | succ i => exact k3 i c y (by simpa using hc) (by simpa using hy)
theorem results_sound {L G : Hp} (s : Sim g w L G) {e : Env} {t : Array Value} (he : EnvOk g w e t) {fn : Func} {vs : List AV} (h : resAs P e L G fn.results.toList = some vs) : ∃ V, (results fn t).run P w = .ok V w ∧ Rep g w (tupA vs) V := by
  obtain ⟨Vs, k1, k2, k3⟩ := ress_sound s he h
  have hrun : (results fn t).run P w = .ok (if h : Vs.toArray.size = 1 then Vs.toArray[0] else .tuple Vs.toArray) w := by
    unfold results
    rw [Sem.run_bind, Array.mapM_eq_mapM_toList, Sem.run_map]
    erw [k1]
    rfl
  refine ⟨_, hrun, ?_⟩
  clear h hrun
  cases vs with
  | nil => cases Vs with
    | nil => exact .tup [] _ rfl fun i c v h => by simp at h
    | cons _ _ => simp at k2
  | cons v vs => cases Vs with
    | nil => simp at k2
    | cons V Vs => cases vs with
      | nil => cases Vs with
        | nil => exact k3 0 v V rfl rfl
        | cons _ _ => simp at k2
      | cons u vs => cases Vs with
        | nil => simp at k2
        | cons U Vs =>
          rw [dif_neg (by simp)]
          exact .tup _ _ (by simpa using k2) fun i c y hc hy => k3 i c y hc (by simpa using hy)

theorem args_get : ∀ {l : List AV} {k i : Nat} {v : AV}, getE? (argsE k l) i = some v → k ≤ i ∧ l[i - k]? = some v
  | [], k, i, v, h => by cases h
  | a :: l, k, i, v, h => by
    simp only [argsE, getE?] at h
    by_cases hk : k = i
    · rw [if_pos hk] at h
      cases h
      subst hk
      simp
    · rw [if_neg hk] at h
      obtain ⟨h1, h2⟩ := args_get h
      refine ⟨by omega, ?_⟩
      rw [show i - k = (i - (k + 1)) + 1 by omega]
      simpa using h2
theorem evFun_sound {A : Ann} {call : CallF} (hn : NoNum P) (hfit : FitsP P A) (hc : CallOk P A call) (ho : OrcOk P A) (hdr : ∀ f, DrawsOk P A call f) : CallOk P A (evFun ⟨P, A, call⟩) := by
  intro f args G r G' h hG
  obtain ⟨fn, k, x, hf, hb, hx, hend⟩ := evFun_some.1 h
  refine ⟨⟨fn, hf, by rw [hb]; rfl⟩, fun g w V s hr => ?_⟩
  refine calls_of_wp hf hb ?_
  have henv : EnvOk g w (argsE 0 args) (V ++ Array.replicate (fn.ntmps - V.size) undef) := fun i v hv => by
    obtain ⟨_, h2⟩ := args_get hv
    have hi : i < V.size := by rw [← hr.1]; exact (List.getElem?_eq_some_iff.1 h2).1
    have hx := Array.getElem?_eq_getElem hi
    exact ⟨_, by rw [Array.getElem?_append_left hi]; exact hx, hr.2 i v _ h2 hx⟩
  refine wp_mono (code_sound hn hc ho (hdr f) k (hfit f fn k hf hb) _ [] G x hx g w ⟨_, []⟩ s henv ⟨rfl, by simp; omega⟩) fun E a' w' hp => ?_
  have hfin : ∀ {L1 G1 : Hp} {g1 : Gh} {v : AV} {X : Value}, Sim g1 w' L1 G1 → Ext g w g1 w' → Rep g1 w' v X →
      Sim (g1.end (!A.sees f)) w' [] (if A.sees f then G1 else []) ∧ Ext g w (g1.end (!A.sees f)) w' ∧ ((leave (!A.sees f) L1 G1 v).refs (qLeft (!A.sees f)) = true → Rep (g1.end (!A.sees f)) w' (leave (!A.sees f) L1 G1 v) X) := by
    intro L1 G1 g1 v X s1 e1 hv
    refine ⟨?_, ext_end (fun hb b => ?_) e1, fun hq => leave_rep end_left s1 v hv hq⟩
    · have := sim_end (both := !A.sees f) s1
      cases hs : A.sees f <;> rw [hs] at this <;> exact this
    · have hs : A.sees f = false := by simpa using hb
      have := hG hs
      subst this
      exact s.g.hp.new b (Nat.zero_le _)
  obtain ⟨ex, e1, L1, G1⟩ := x
  obtain ⟨g1, s1, he1, hd1, hx1, hex⟩ := hp
  cases ex with
  | nor =>
    simp only [ExOk] at hex
    subst hex
    replace hend := Option.map_eq_some_iff.1 hend
    obtain ⟨vs, hvs, hend⟩ := hend
    cases hend
    obtain ⟨X, q1, q2⟩ := results_sound s1 he1 hvs
    obtain ⟨k1, k2, k3⟩ := hfin s1 hx1 q2
    exact ⟨hd1.1, X, q1, _, k1, k2, X, rfl, k3⟩
  | ret =>
    simp only [ExOk] at hex
    subst hex
    replace hend := Option.map_eq_some_iff.1 hend
    obtain ⟨vs, hvs, hend⟩ := hend
    cases hend
    obtain ⟨X, q1, q2⟩ := results_sound s1 he1 hvs
    obtain ⟨k1, k2, k3⟩ := hfin s1 hx1 q2
    exact ⟨hd1.1, X, q1, _, k1, k2, X, rfl, k3⟩
  | exit id => cases hend
  | pan v =>
    obtain ⟨X, rfl, hX⟩ := hex
    cases hend
    obtain ⟨k1, k2, k3⟩ := hfin s1 hx1 hX
    exact ⟨hd1.1, _, k1, k2, X, rfl, k3⟩
end
end Ev
