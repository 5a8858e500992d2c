/- Operations that make or write memory: what the evaluator says of them is what the model does. -/
import Derived.Test.YtecflllnnbiheaaEv4
import Derived.Deep.Upon
set_option maxHeartbeats 4000000
set_option linter.unusedVariables false
set_option linter.unusedSimpArgs false
namespace Ev
open Go

/-- One block of a heap is new, or turned; all others are as they were. -/
structure HpUpd (loc : Bool) (b : Nat) (x : Blk) (L G L' G' : Hp) : Prop where
  other : ∀ (l' : Bool) (b' : Nat), ¬ (l' = loc ∧ b' = b) → ∀ y, (hpOf l' L' G')[b']? = some y → (hpOf l' L G)[b']? = some y
  this : (hpOf loc L' G')[b]? = some x
  new : ∀ (l' : Bool) (b' : Nat), (hpOf l' L' G').length ≤ b' → (hpOf l' L G).length ≤ b' ∧ ¬ (l' = loc ∧ b' = b)

theorem upd_set {loc : Bool} {b : Nat} {x y : Blk} {L G L' G' : Hp} (hb : (hpOf loc L G)[b]? = some y) (e : setHp loc b x L G = (L', G')) : HpUpd loc b x L G L' G' := by
  have hlt := (List.getElem?_eq_some_iff.1 hb).1
  unfold setHp at e
  cases loc with
  | true =>
    simp only [if_true, Prod.mk.injEq] at e
    obtain ⟨rfl, rfl⟩ := e
    simp only [hpOf, if_true] at hlt
    refine ⟨fun l' b' h z hz => ?_, by simp [hpOf, hlt], fun l' b' h => ?_⟩
    · cases l' with
      | false => exact hz
      | true =>
        simp only [hpOf, if_true] at hz ⊢
        rwa [List.getElem?_set_ne (fun e => h ⟨rfl, e.symm⟩)] at hz
    · cases l' with
      | false => exact ⟨h, fun h => by cases h.1⟩
      | true => simp only [hpOf, if_true, List.length_set] at h ⊢; exact ⟨h, fun k => by omega⟩
  | false =>
    simp only [Bool.false_eq_true, if_false, Prod.mk.injEq] at e
    obtain ⟨rfl, rfl⟩ := e
    simp only [hpOf, Bool.false_eq_true, if_false] at hlt
    refine ⟨fun l' b' h z hz => ?_, by simp [hpOf, hlt], fun l' b' h => ?_⟩
    · cases l' with
      | true => exact hz
      | false =>
        simp only [hpOf, Bool.false_eq_true, if_false] at hz ⊢
        rwa [List.getElem?_set_ne (fun e => h ⟨rfl, e.symm⟩)] at hz
    · cases l' with
      | true => exact ⟨h, fun h => by cases h.1⟩
      | false => simp only [hpOf, Bool.false_eq_true, if_false, List.length_set] at h ⊢; exact ⟨h, fun k => by omega⟩

theorem upd_push {loc : Bool} {x : Blk} {L G : Hp} : HpUpd loc (hpOf loc L G).length x L G (if loc then L ++ [x] else L) (if loc then G else G ++ [x]) := by
  cases loc with
  | true =>
    refine ⟨fun l' b' h z hz => ?_, by simp [hpOf], fun l' b' h => ?_⟩
    · cases l' with
      | false => exact hz
      | true =>
        simp only [hpOf, if_true] at h hz ⊢
        rcases Nat.lt_or_ge b' L.length with h' | h'
        · rwa [List.getElem?_append_left h'] at hz
        · rw [List.getElem?_append_right h', List.getElem?_eq_none (by simp; have : b' ≠ L.length := fun e => h ⟨trivial, e⟩; omega)] at hz; cases hz
    · cases l' with
      | false => exact ⟨h, fun h => by cases h.1⟩
      | true => simp only [hpOf, if_true, List.length_append, List.length_cons, List.length_nil] at h ⊢; exact ⟨by omega, fun k => by omega⟩
  | false =>
    refine ⟨fun l' b' h z hz => ?_, by simp [hpOf], fun l' b' h => ?_⟩
    · cases l' with
      | true => exact hz
      | false =>
        simp only [hpOf, Bool.false_eq_true, if_false] at h hz ⊢
        rcases Nat.lt_or_ge b' G.length with h' | h'
        · rwa [List.getElem?_append_left h'] at hz
        · rw [List.getElem?_append_right h', List.getElem?_eq_none (by simp; have : b' ≠ G.length := fun e => h ⟨trivial, e⟩; omega)] at hz; cases hz
    · cases l' with
      | true => exact ⟨h, fun h => by cases h.1⟩
      | false => simp only [hpOf, Bool.false_eq_true, if_false, List.length_append, List.length_cons, List.length_nil] at h ⊢; exact ⟨by omega, fun k => by omega⟩

theorem size_setCells (b : Nat) : ∀ (vs : List Value) (o : Nat) (w : World), (w.setCells b o vs).heap.size = w.heap.size
  | [], _, _ => rfl
  | v :: vs, o, w => by rw [World.setCells, size_setCells b vs]; simp
theorem tape_setCells (b : Nat) : ∀ (vs : List Value) (o : Nat) (w : World), (w.setCells b o vs).tape = w.tape
  | [], _, _ => rfl
  | v :: vs, o, w => by rw [World.setCells, tape_setCells b vs]; rfl
theorem map_setCells (b : Nat) : ∀ (vs : List Value) (o : Nat) (w : World) {es : Array MapEntry} {k : Nat}, w.heap[b]? = some (.map es k) → (w.setCells b o vs).heap[b]? = w.heap[b]?
  | [], _, _, _, _, _ => rfl
  | v :: vs, o, w, es, k, h => by
    have h1 : (w.setCell ⟨b, o, none⟩ v).heap[b]? = some (.map es k) := by
      simp only [World.setCell, Array.getElem?_modify, h]
      simp
    rw [World.setCells, map_setCells b vs (o + 1) _ h1, h1, h]

theorem isSome_setCells (b : Nat) : ∀ (vs : List Value) (o : Nat) (w : World) (x : Addr), (w.cell? x).isSome = true → ((w.setCells b o vs).cell? x).isSome = true
  | [], _, _, _, h => h
  | v :: vs, o, w, x, h => by
    rw [World.setCells]
    refine isSome_setCells b vs (o + 1) _ x ?_
    by_cases e : (⟨b, o, none⟩ : Addr) = x
    · subst e
      obtain ⟨u, hu⟩ := Option.isSome_iff_exists.1 h
      rw [World.cell?_setCell_same w _ _ hu]; rfl
    · rw [World.cell?_setCell_other w _ _ _ e]; exact h

section
variable {P : Program} {g g' : Gh} {w w' : World}

theorem Sim.own {L G : Hp} (s : Sim g w L G) : ∀ B o, w.heap.size ≤ B → g.own B o = .no := s.g.own
theorem Sim.fresh {L G : Hp} (s : Sim g w L G) {loc : Bool} {b : Nat} (h : (hpOf loc L G).length ≤ b) : Fresh g loc b := by
  cases loc with
  | true => exact s.l.new b h
  | false => exact s.g.hp.new b h

/-- What a step on one block owes. -/
structure Step (g : Gh) (w : World) (g' : Gh) (w' : World) (loc : Bool) (b : Nat) : Prop where
  ext : Ext g w g' w'
  mono : Mono g g'
  own : ∀ B o, w'.heap.size ≤ B → g'.own B o = .no
  same : ∀ (l' : Bool) (b' : Nat), ¬ (l' = loc ∧ b' = b) → (∀ gen, g'.mu l' b' gen = g.mu l' b' gen) ∧ g'.mp l' b' = g.mp l' b' ∧ g'.tk l' b' = g.tk l' b'
  cells : ∀ (l' : Bool) (b' : Nat), ¬ (l' = loc ∧ b' = b) → ∀ B o, g.own B o = .blk l' b' → g'.own B o = .blk l' b' ∧ w'.cell? ⟨B, o, none⟩ = w.cell? ⟨B, o, none⟩ ∧ w'.frozen? ⟨B, o, none⟩ = w.frozen? ⟨B, o, none⟩ ∧
    (∀ es k, w.heap[B]? = some (.map es k) → w'.heap[B]? = w.heap[B]?)

theorem Step.blk {loc : Bool} {b : Nat} (t : Step g w g' w' loc b) (hown : ∀ B o, w.heap.size ≤ B → g.own B o = .no) {l' : Bool} {b' : Nat} (hne : ¬ (l' = loc ∧ b' = b)) {y : Blk} (h : BlkOk g w l' b' y) : BlkOk g' w' l' b' y :=
  h.keeps (fun _ _ hz => hz.ext hown t.ext t.mono) (t.cells l' b' hne) (t.same l' b' hne).1 (t.same l' b' hne).2.1 (t.same l' b' hne).2.2
theorem Fresh.same {l' : Bool} {b' : Nat} (h : Fresh g l' b') (e : (∀ gen, g'.mu l' b' gen = g.mu l' b' gen) ∧ g'.mp l' b' = g.mp l' b' ∧ g'.tk l' b' = g.tk l' b') : Fresh g' l' b' :=
  ⟨fun gen => by rw [e.1]; exact h.1 gen, by rw [e.2.1]; exact h.2.1, by rw [e.2.2]; exact h.2.2⟩

theorem Sim.upd {loc : Bool} {b : Nat} {x : Blk} {L G L' G' : Hp} (s : Sim g w L G) (u : HpUpd loc b x L G L' G') (t : Step g w g' w' loc b) (hx : BlkOk g' w' loc b x) (hn : loc = false → x.noL = true) : Sim g' w' L' G' := by
  have key : ∀ (l' : Bool) (b' : Nat) y, (hpOf l' L' G')[b']? = some y → BlkOk g' w' l' b' y := fun l' b' y hy => by
    by_cases hb : l' = loc ∧ b' = b
    · obtain ⟨rfl, rfl⟩ := hb
      rw [u.this] at hy
      cases hy
      exact hx
    · exact t.blk s.own hb (hpOf_blk s (u.other l' b' hb y hy))
  have knew : ∀ (l' : Bool) (b' : Nat), (hpOf l' L' G').length ≤ b' → Fresh g' l' b' := fun l' b' hl =>
    (s.fresh (u.new l' b' hl).1).same (t.same l' b' (u.new l' b' hl).2)
  refine ⟨⟨key true, knew true⟩, ⟨⟨key false, knew false⟩, fun b' y hy => ?_, t.own⟩⟩
  by_cases hb : false = loc ∧ b' = b
  · obtain ⟨rfl, rfl⟩ := hb
    rw [show G'[b']? = some x from u.this] at hy
    cases hy
    exact hn rfl
  · exact s.g.noL b' y (u.other false b' hb y hy)

/-! ### a new block -/
/-- the owners, one block more -/
def ownAt (own : Nat → Nat → Own) (N : Nat) (on : Nat → Own) : Nat → Nat → Own := fun B o => if B = N then on o else own B o
theorem ownAt_lt {own : Nat → Nat → Own} {N : Nat} {on : Nat → Own} {B o : Nat} (h : B ≠ N) : ownAt own N on B o = own B o := if_neg h
theorem ownAt_new {own : Nat → Nat → Own} {N : Nat} {on : Nat → Own} {o : Nat} : ownAt own N on N o = on o := if_pos rfl
/-- one block's places set -/
def setMu (mu : Bool → Nat → Nat → Option Loc) (loc : Bool) (b gen : Nat) (l : Loc) : Bool → Nat → Nat → Option Loc := fun l' b' g' => if l' = loc ∧ b' = b ∧ g' = gen then some l else mu l' b' g'
def setMp (mp : Bool → Nat → Option Nat) (loc : Bool) (b B : Nat) : Bool → Nat → Option Nat := fun l' b' => if l' = loc ∧ b' = b then some B else mp l' b'
def setTk (tk : Bool → Nat → Option TkI) (loc : Bool) (b : Nat) (I : TkI) : Bool → Nat → Option TkI := fun l' b' => if l' = loc ∧ b' = b then some I else tk l' b'

/-- a step that makes one object, of whose block (loc, b) nothing was known -/
theorem step_alloc {L G : Hp} (s : Sim g w L G) {loc : Bool} {b : Nat} (o : Obj) (on : Nat → Own) (mu : Bool → Nat → Nat → Option Loc) (mp : Bool → Nat → Option Nat) (tk : Bool → Nat → Option TkI)
    (hmu : ∀ l' b' gen l, g.mu l' b' gen = some l → mu l' b' gen = some l) (hmp : ∀ l' b' B, g.mp l' b' = some B → mp l' b' = some B) (htk : ∀ l' b' I, g.tk l' b' = some I → tk l' b' = some I)
    (hsame : ∀ (l' : Bool) (b' : Nat), ¬ (l' = loc ∧ b' = b) → (∀ gen, mu l' b' gen = g.mu l' b' gen) ∧ mp l' b' = g.mp l' b' ∧ tk l' b' = g.tk l' b') :
    Step g w ⟨ownAt g.own w.heap.size on, mu, mp, tk⟩ (w.alloc o) loc b where
  ext := by
    refine ⟨by simp, rfl, rfl, rfl, fun B k hB h => ⟨ownAt_lt (by omega), World.cell?_alloc_lt w o _ hB, World.frozen?_alloc_old w o _ (by simp; omega)⟩, fun B hB h => ?_, fun _ _ _ h => hmu _ _ _ _ h, fun _ _ h => hmp _ _ _ h, fun _ I h => ⟨I, htk _ _ _ h, .inl rfl⟩⟩
    simp only [World.alloc, Array.getElem?_push]
    rw [if_neg (by omega)]
  mono := ⟨fun _ _ _ h => hmu _ _ _ _ h, fun _ _ h => hmp _ _ _ h, fun _ I h => ⟨I, htk _ _ _ h, .inl rfl⟩⟩
  own := fun B k hB => by
    simp only [World.size_alloc] at hB
    show ownAt g.own w.heap.size on B k = .no
    rw [ownAt_lt (by omega)]
    exact s.own B k (by omega)
  same := hsame
  cells := fun l' b' _ B k h => by
    have hB : B < w.heap.size := by
      rcases Nat.lt_or_ge B w.heap.size with h' | h'
      · exact h'
      · rw [s.own B k h'] at h; cases h
    refine ⟨by show ownAt g.own w.heap.size on B k = _; rw [ownAt_lt (by omega)]; exact h, World.cell?_alloc_lt w o _ hB, World.frozen?_alloc_old w o _ (by simp; omega), fun es k h => ?_⟩
    simp only [World.alloc, Array.getElem?_push]
    rw [if_neg (by omega)]

theorem setMu_mono {loc : Bool} {b gen : Nat} {l : Loc} (hf : ∀ gen, g.mu loc b gen = none) : ∀ l' b' gen' l0, g.mu l' b' gen' = some l0 → setMu g.mu loc b gen l l' b' gen' = some l0 := fun l' b' gen' l0 h => by
  unfold setMu
  rw [if_neg fun ⟨e1, e2, e3⟩ => by subst e1; subst e2; rw [hf] at h; cases h]
  exact h

/-- a new row -/
theorem sim_row {L G L' G' : Hp} (s : Sim g w L G) {loc : Bool} {b : Nat} {es : List AV} {sz cap : Nat} {el : TypeId} (hsz : 0 < sz)
    (hes : ∀ (i : Nat) v, es[i]? = some v → v.cells.length = sz) (hno : loc = false → noLs es = true)
    (hf : Fresh g loc b) (u : HpUpd loc b (.row 0 es) L G L' G') (cs : Array Value) (hcap : cap * sz = cs.size) (hcap' : es.length ≤ cap)
    (hcs : ∀ (i : Nat) v j c, es[i]? = some v → v.cells[j]? = some c → c.isCell = true ∧ ∃ y, cs[i * sz + j]? = some y ∧ Rep g w c y) :
    ∃ g', Sim g' (w.alloc (.cells cs el)) L' G' ∧ Ext g w g' (w.alloc (.cells cs el)) ∧ Mono g g' ∧ g'.mu loc b 0 = some ⟨w.heap.size, 0, sz, cap⟩ := by
  let g' : Gh := ⟨ownAt g.own w.heap.size (fun o => if o < cap * sz then .blk loc b else .no), setMu g.mu loc b 0 ⟨w.heap.size, 0, sz, cap⟩, g.mp, g.tk⟩
  have t : Step g w g' (w.alloc (.cells cs el)) loc b := step_alloc s _ _ _ _ _ (setMu_mono hf.1) (fun _ _ _ h => h) (fun _ _ _ h => h) fun l' b' hne => ⟨fun gen => if_neg fun ⟨a, b, _⟩ => hne ⟨a, b⟩, rfl, rfl⟩
  have hmu : g'.mu loc b 0 = some ⟨w.heap.size, 0, sz, cap⟩ := if_pos ⟨rfl, rfl, rfl⟩
  refine ⟨g', s.upd u t ⟨_, hmu, fun gen hg => ?_, hsz, hcap', hes, fun i v j c hv hj => ?_, fun o ho => ⟨?_, ?_, ?_⟩⟩ (fun e => hno e), t.ext, t.mono, hmu⟩
  · show setMu g.mu loc b 0 _ loc b gen = none
    unfold setMu
    rw [if_neg (by omega)]
    exact hf.1 gen
  · obtain ⟨k1, y, k2, k3⟩ := hcs i v j c hv hj
    refine ⟨k1, y, ?_, k3.ext s.own t.ext t.mono⟩
    rw [World.cell?_alloc_new, Nat.zero_add]
    exact k2
  · show ownAt g.own w.heap.size (fun o => if o < cap * sz then .blk loc b else .no) w.heap.size (0 + o) = .blk loc b
    rw [ownAt_new, Nat.zero_add, if_pos ho]
  · simp only at ho
    refine ⟨cs[o]'(by omega), ?_⟩
    rw [World.cell?_alloc_new, Nat.zero_add]
    exact Array.getElem?_eq_getElem _
  · exact World.frozen?_alloc_new w cs el _

/-- how a new block is laid -/
theorem newBlk_spec {loc : Bool} {slot : Option Nat} {x : Blk} {L G L' G' : Hp} {b : Nat} (s : Sim g w L G) (hs : ∀ k, slot = some k → L[k]? = some .dead) (e : newBlk loc slot x L G = (b, L', G')) :
    Fresh g loc b ∧ HpUpd loc b x L G L' G' := by
  unfold newBlk at e
  cases loc with
  | true =>
    simp only [if_true] at e
    unfold newL at e
    cases slot with
    | none =>
      simp only [Prod.mk.injEq] at e
      obtain ⟨rfl, rfl, rfl⟩ := e
      exact ⟨s.l.new _ (Nat.le_refl _), upd_push (loc := true)⟩
    | some k =>
      simp only [Prod.mk.injEq] at e
      obtain ⟨rfl, rfl, rfl⟩ := e
      exact ⟨s.l.blk k .dead (hs k rfl), upd_set (loc := true) (hs k rfl) (by simp [setHp])⟩
  | false =>
    simp only [Bool.false_eq_true, if_false, Prod.mk.injEq] at e
    obtain ⟨rfl, rfl, rfl⟩ := e
    exact ⟨s.g.hp.new _ (Nat.le_refl _), upd_push (loc := false)⟩

/-- one variable, new -/
theorem sim_var {loc : Bool} {slot : Option Nat} {z : AV} {x : Value} {el : TypeId} {L G L' G' : Hp} {b : Nat} (s : Sim g w L G) (hs : ∀ k, slot = some k → L[k]? = some .dead)
    (hz : Rep g w z x) (hf : z.flat = true) (hn : z.cells.length ≠ 0) (hno : loc = true ∨ z.noL = true) (e : newBlk loc slot (.row 0 [z]) L G = (b, L', G')) :
    ∃ g', Sim g' (w.alloc (.cells x.cells el)) L' G' ∧ Ext g w g' (w.alloc (.cells x.cells el)) ∧ Mono g g' ∧ Rep g' (w.alloc (.cells x.cells el)) (.ptr loc b 0 0 0) (.pointer (some ⟨w.heap.size, 0, none⟩)) := by
  obtain ⟨f1, f2⟩ := newBlk_spec s hs e
  have hlen := (hz.flat_cells hf).1
  obtain ⟨g', k1, k2, k3, k4⟩ := sim_row (es := [z]) (sz := z.cells.length) (cap := 1) (el := el) s (by omega)
    (fun i v hv => by cases i <;> simp at hv; subst hv; rfl)
    (fun hl => by rcases hno with h | h
                  · rw [h] at hl; cases hl
                  · simp only [noLs, refss, Bool.and_true]; exact h) f1 f2 x.cells (by omega) (by simp)
    (fun i v j c hv hj => by
      cases i with
      | succ i => simp at hv
      | zero =>
        simp only [List.getElem?_cons_zero, Option.some.injEq] at hv
        subst hv
        have hj' : j < x.cells.size := by rw [← hlen]; exact (List.getElem?_eq_some_iff.1 hj).1
        have hy := Array.getElem?_eq_getElem hj'
        obtain ⟨k1, k2⟩ := (hz.flat_cells hf).2 j c _ hj hy
        exact ⟨k1, _, by rw [Nat.zero_mul, Nat.zero_add]; exact hy, k2⟩)
  refine ⟨g', k1, k2, k3, ?_⟩
  have := Rep.ptr (g := g') (w := w.alloc (.cells x.cells el)) loc b 0 0 0 _ k4
  simpa using this

theorem run_alloc {t : TypeId} {z : AV} (h : zeroT P t = some z) : ∃ x, (Instr.alloc t true (.tuple #[])).run P w = .ok (.pointer (some ⟨w.heap.size, 0, none⟩)) (w.alloc (.cells x.cells t)) ∧ z = ofVal x := by
  obtain ⟨x, h1, h2⟩ := run_zero (w := w) h
  refine ⟨x, ?_, h2⟩
  unfold Instr.alloc
  simp only [Sem.run_bind, h1, Result.andThen_ok, newVar, newRow, run_newObj, Sem.run_pure]
  rfl
theorem run_box {t : TypeId} {x : Value} : (Instr.box t x).run P w = .ok (.pointer (some ⟨w.heap.size, 0, none⟩)) (w.alloc (.cells x.cells t)) := by
  unfold Instr.box
  simp only [Sem.run_bind, Result.andThen_ok, newVar, newRow, run_newObj, Sem.run_pure]
  rfl

/-! ### a store -/
theorem cells_put {v x v' : AV} {o : Nat} (h : v.put o x = some v') : o + x.cells.length ≤ v.cells.length ∧ v'.cells = v.cells.take o ++ x.cells ++ v.cells.drop (o + x.cells.length) := by
  unfold AV.put at h
  split at h
  · rename_i hl
    refine ⟨hl, ?_⟩
    split at h
    · rename_i he
      cases h
      have ho : o = 0 := by omega
      subst ho
      rw [List.drop_of_length_le (by omega)]
      simp
    · cases h; rfl
  · cases h

theorem store_run {t : TypeId} {ag : Bool} {x : AV} {X : Value} {B o : Nat} (hx : Rep g w x X) (hf : x.flat = true) (hc : x.cells.length = szT P t) (hz : szT P t ≠ 0)
    (hcell : ∀ j, j < szT P t → (∃ y, w.cell? ⟨B, o + j, none⟩ = some y) ∧ w.frozen? ⟨B, o + j, none⟩ = false) (_h : ag = ag) :
    (Instr.storeAt t (.pointer (some ⟨B, o, none⟩)) X).run P w = .ok () (w.setCells B o X.cells.toList) := by
  obtain ⟨e1, e2⟩ := hx.flat_cells hf
  have hone : ∀ v ∈ X.cells.toList, v.oneCell' = true := fun v hv => by
    obtain ⟨j, hj⟩ := List.mem_iff_getElem?.1 hv
    have hj' : X.cells[j]? = some v := by simpa using hj
    have hlt : j < x.cells.length := by rw [e1]; exact (Array.getElem?_eq_some_iff.1 hj').1
    obtain ⟨k1, k2⟩ := e2 j _ v (List.getElem?_eq_getElem hlt) hj'
    exact (k2.oneCell k1).1
  unfold Instr.storeAt
  simp only [Instr.sureAddr, Sem.run_bind, Sem.run_pure, Result.andThen_ok, storeVar, run_sizeOf hz]
  rw [if_neg (by rw [← e1, hc]; simp)]
  have := run_storeCells_cells (P := P) B o X.cells.toList 0 w (fun j hj => by
      obtain ⟨y, hy⟩ := (hcell j (by rw [← hc, e1]; simpa using hj)).1
      rw [Nat.add_zero, hy]; rfl) (fun j hj => by rw [Nat.add_zero]; exact (hcell j (by rw [← hc, e1]; simpa using hj)).2) hone
  rw [Nat.add_zero] at this
  exact this

/-- a step that writes cells of one block -/
theorem step_cells {L G : Hp} (s : Sim g w L G) {loc : Bool} {b B o : Nat} {vs : List Value} (hown : ∀ j, j < vs.length → g.own B (o + j) = .blk loc b) :
    Step g w g (w.setCells B o vs) loc b where
  ext := by
    refine ⟨by rw [size_setCells]; exact Nat.le_refl _, World.os_setCells .., tape_setCells .., World.output_setCells .., fun B' k hB h => ⟨rfl, ?_, World.frozen?_setCells ..⟩, fun B' hB h => ?_, fun _ _ _ h => h, fun _ _ h => h, fun _ I h => ⟨I, h, .inl rfl⟩⟩
    · refine World.cell?_setCells_out B vs o w _ fun e _ => ?_
      simp only at e
      subst e
      rcases Nat.lt_or_ge k o with h1 | h1
      · exact .inl h1
      · right
        rcases Nat.lt_or_ge k (o + vs.length) with h2 | h2
        · have := hown (k - o) (by omega)
          rw [show o + (k - o) = k by omega] at this
          rw [this] at h
          rcases h with h | h <;> cases h
        · exact h2
    · by_cases e : B' = B
      · subst e
        cases vs with
        | nil => rfl
        | cons v vs =>
          have := hown 0 (by simp)
          rcases h (o + 0) with h | h <;> (rw [this] at h; cases h)
      · exact World.heap_setCells_other w B o vs hB e
  mono := Mono.refl g
  own := fun B' k hB => s.own B' k (by rwa [size_setCells] at hB)
  same := fun _ _ _ => ⟨fun _ => rfl, rfl, rfl⟩
  cells := fun l' b' hne B' k h => by
    have hout : ⟨B', k, none⟩ = (⟨B', k, none⟩ : Addr) → (B' = B → k < o ∨ o + vs.length ≤ k) := fun _ e => by
      subst e
      rcases Nat.lt_or_ge k o with h1 | h1
      · exact .inl h1
      · right
        rcases Nat.lt_or_ge k (o + vs.length) with h2 | h2
        · have := hown (k - o) (by omega)
          rw [show o + (k - o) = k by omega, h] at this
          injection this with e1 e2
          exact absurd ⟨e1, e2⟩ hne
        · exact h2
    refine ⟨h, World.cell?_setCells_out B vs o w _ fun e _ => hout rfl e, World.frozen?_setCells .., fun es q hm => ?_⟩
    by_cases e : B' = B
    · subst e
      cases vs with
      | nil => rfl
      | cons v vs =>
        exact map_setCells B' (v :: vs) o w hm
    · have hB : B' < w.heap.size := by
        rcases Nat.lt_or_ge B' w.heap.size with h' | h'
        · exact h'
        · rw [s.own B' k h'] at h; cases h
      exact World.heap_setCells_other w B o vs hB e
theorem row_lt {l : Loc} {es : List AV} {loc : Bool} {b i : Nat} {v : AV} (h : RowOk g w loc b l es) (hi : es[i]? = some v) {j : Nat} (hj : j < l.sz) : i * l.sz + j < l.cap * l.sz := by
  have h1 : i < es.length := (List.getElem?_eq_some_iff.1 hi).1
  have : (i + 1) * l.sz ≤ l.cap * l.sz := Nat.mul_le_mul_right _ (by have := h.len; omega)
  rw [Nat.add_mul] at this
  omega
theorem idx_ne {sz i i' j j' : Nat} (hj : j < sz) (hj' : j' < sz) (h : i ≠ i') : i * sz + j ≠ i' * sz + j' := by
  intro e
  rcases Nat.lt_or_ge i i' with h1 | h1
  · have : (i + 1) * sz ≤ i' * sz := Nat.mul_le_mul_right _ h1
    rw [Nat.add_mul] at this
    omega
  · have : (i' + 1) * sz ≤ i * sz := Nat.mul_le_mul_right _ (by omega)
    rw [Nat.add_mul] at this
    omega

/-- cells of a row turned: what the row holds then -/
theorem row_put {L G : Hp} (s : Sim g w L G) {loc : Bool} {b : Nat} {l : Loc} {es : List AV} (hr : RowOk g w loc b l es) {i o : Nat} {v x v' : AV} {X : Value} (hi : es[i]? = some v) (hx : Rep g w x X) (hf : x.flat = true)
    (hp : v.put o x = some v') (t : Step g w g (w.setCells l.B (l.base + i * l.sz + o) X.cells.toList) loc b) :
    RowOk g (w.setCells l.B (l.base + i * l.sz + o) X.cells.toList) loc b l (es.set i v') := by
  obtain ⟨p1, p2⟩ := cells_put hp
  obtain ⟨e1, e2⟩ := hx.flat_cells hf
  have hvl := hr.size i v hi
  have hil : i < es.length := (List.getElem?_eq_some_iff.1 hi).1
  have hlen' : v'.cells.length = l.sz := by rw [p2]; simp only [List.length_append, List.length_take, List.length_drop]; omega
  have hthere : ∀ j, j < X.cells.toList.length → (w.cell? ⟨l.B, l.base + i * l.sz + o + j, none⟩).isSome = true := fun j hj => by
    have hj' : o + j < l.sz := by have : j < X.cells.size := by simpa using hj
                                  omega
    have hlt := row_lt hr hi hj'
    obtain ⟨y, hy⟩ := (hr.own _ hlt).2.1
    have e : l.base + i * l.sz + o + j = l.base + (i * l.sz + (o + j)) := by omega
    rw [e, hy]; rfl
  refine ⟨hr.sz, by rw [List.length_set]; exact hr.len, fun i' u hu => ?_, fun i' u j c hu hj => ?_, fun k hk => ?_⟩
  · by_cases hii : i' = i
    · subst hii
      rw [List.getElem?_set_self hil] at hu
      cases hu
      exact hlen'
    · rw [List.getElem?_set_ne (fun e => hii e.symm)] at hu
      exact hr.size i' u hu
  · by_cases hii : i' = i
    · subst hii
      rw [List.getElem?_set_self hil] at hu
      cases hu
      have hjl : j < l.sz := by rw [← hlen']; exact (List.getElem?_eq_some_iff.1 hj).1
      rw [p2] at hj
      by_cases hin : o ≤ j ∧ j < o + x.cells.length
      · have ht : (v.cells.take o).length = o := by simp; omega
        rw [List.append_assoc, List.getElem?_append_right (by rw [ht]; omega), ht, List.getElem?_append_left (by omega)] at hj
        have hjX : j - o < X.cells.size := by omega
        have hy := Array.getElem?_eq_getElem hjX
        obtain ⟨k1, k2⟩ := e2 _ c _ hj hy
        refine ⟨k1, X.cells[j - o], ?_, k2.ext s.own t.ext t.mono⟩
        have := World.cell?_setCells_in l.B X.cells.toList (l.base + i' * l.sz + o) w hthere (j - o) (by simpa using hjX)
        rw [show l.base + i' * l.sz + o + (j - o) = l.base + i' * l.sz + j by omega] at this
        rw [this]
        simp
      · have hjv : v.cells[j]? = some c := by
          rcases Nat.lt_or_ge j o with h' | h'
          · rwa [List.append_assoc, List.getElem?_append_left (by simp; omega), List.getElem?_take_of_lt h'] at hj
          · have ht : (v.cells.take o ++ x.cells).length = o + x.cells.length := by simp; omega
            rw [List.getElem?_append_right (by rw [ht]; omega), ht, List.getElem?_drop] at hj
            rwa [show o + x.cells.length + (j - (o + x.cells.length)) = j by omega] at hj
        obtain ⟨k1, y, k2, k3⟩ := hr.cell i' v j c hi hjv
        refine ⟨k1, y, ?_, k3.ext s.own t.ext t.mono⟩
        rw [World.cell?_setCells_out]
        · exact k2
        · intro _ _
          simp only [Array.length_toList]
          omega
    · rw [List.getElem?_set_ne (fun e => hii e.symm)] at hu
      obtain ⟨k1, y, k2, k3⟩ := hr.cell i' u j c hu hj
      refine ⟨k1, y, ?_, k3.ext s.own t.ext t.mono⟩
      rw [World.cell?_setCells_out]
      · exact k2
      · intro _ _
        simp only [Array.length_toList]
        have hjl : j < l.sz := by rw [← hr.size i' u hu]; exact (List.getElem?_eq_some_iff.1 hj).1
        rcases Nat.lt_or_ge i' i with h1 | h1
        · left
          have : (i' + 1) * l.sz ≤ i * l.sz := Nat.mul_le_mul_right _ h1
          rw [Nat.add_mul] at this
          omega
        · right
          have : (i + 1) * l.sz ≤ i' * l.sz := Nat.mul_le_mul_right _ (by omega)
          rw [Nat.add_mul] at this
          omega
  · obtain ⟨a1, ⟨y, a2⟩, a3⟩ := hr.own k hk
    refine ⟨a1, ?_, by rw [World.frozen?_setCells]; exact a3⟩
    have h := isSome_setCells l.B X.cells.toList (l.base + i * l.sz + o) w ⟨l.B, l.base + k, none⟩ (by rw [a2]; rfl)
    exact Option.isSome_iff_exists.1 h

theorem noLs_get {es : List AV} (h : noLs es = true) {i : Nat} {v : AV} (hv : es[i]? = some v) : v.noL = true := refss_get h hv
theorem noLs_set {es : List AV} (h : noLs es = true) {i : Nat} {v : AV} (hv : v.noL = true) : noLs (es.set i v) = true :=
  refss_of fun u hu => by
    rcases List.mem_or_eq_of_mem_set hu with h1 | h1
    · exact refss_mem h h1
    · rw [h1]; exact hv
theorem refs_of_cells {Q : Bool → Nat → Bool} {v : AV} (h : refss Q v.cells = true) : v.refs Q = true := by
  cases v with
  | agg cs => rw [AV.refs]; exact h
  | _ => simp only [AV.cells, refss, Bool.and_true] at h; exact h
theorem refs_to_cells {Q : Bool → Nat → Bool} {v : AV} (h : v.refs Q = true) : refss Q v.cells = true := by
  cases v with
  | agg cs => rw [AV.refs] at h; exact h
  | _ => simp only [AV.cells, refss, Bool.and_true]; exact h
theorem refs_put {Q : Bool → Nat → Bool} {v x v' : AV} {o : Nat} (h : v.put o x = some v') (hv : v.refs Q = true) (hx : x.refs Q = true) : v'.refs Q = true := by
  refine refs_of_cells ?_
  rw [(cells_put h).2]
  have h1 := refs_to_cells hv
  refine refss_of fun u hu => ?_
  rcases List.mem_append.1 hu with h2 | h2
  · rcases List.mem_append.1 h2 with h3 | h3
    · exact refss_mem h1 (List.mem_of_mem_take h3)
    · exact refss_mem (refs_to_cells hx) h3
  · exact refss_mem h1 (List.mem_of_mem_drop h2)

theorem store_sound {t : TypeId} {p x : AV} {X Y : Value} {L G L' G' : Hp} (s : Sim g w L G) (hp : Rep g w p X) (hx : Rep g w x Y) (h : storeA P t p x L G = some (L', G')) :
    ∃ w', (Instr.storeAt t X Y).run P w = .ok () w' ∧ Sim g w' L' G' ∧ Ext g w g w' := by
  unfold storeA at h
  cases p with
  | ptr loc b gen i o =>
    simp only at h
    cases hb : (hpOf loc L G)[b]? with
    | none => rw [hb] at h; cases h
    | some y =>
      rw [hb] at h
      cases y with
      | row g' es =>
        simp only at h
        split at h
        · rename_i hc
          obtain ⟨rfl, c1, c2, c3, hz⟩ := hc
          replace h := Option.bind_eq_some_iff.1 h
          obtain ⟨v, hv, h⟩ := h
          replace h := Option.map_eq_some_iff.1 h
          obtain ⟨v', hv', h⟩ := h
          obtain ⟨l, m1, m2, m3⟩ := hpOf_blk s hb
          cases hp with
          | ptr _ _ _ _ _ l' m1' =>
            rw [m1] at m1'
            cases m1'
            obtain ⟨p1, p2⟩ := cells_put hv'
            have hvl := m3.size i v hv
            have e1 := (hx.flat_cells c2).1
            have hcell : ∀ j, j < szT P t → (∃ y, w.cell? ⟨l.B, l.base + i * l.sz + o + j, none⟩ = some y) ∧ w.frozen? ⟨l.B, l.base + i * l.sz + o + j, none⟩ = false := fun j hj => by
              have hlt := row_lt m3 hv (j := o + j) (by omega)
              obtain ⟨_, a2, a3⟩ := m3.own _ hlt
              have e : l.base + i * l.sz + o + j = l.base + (i * l.sz + (o + j)) := by omega
              rw [e]
              exact ⟨a2, a3⟩
            have hrun := store_run (P := P) (ag := true) hx c2 c1 hz hcell rfl
            have t := step_cells s (loc := loc) (b := b) (B := l.B) (o := l.base + i * l.sz + o) (vs := Y.cells.toList) (fun j hj => by
              have hj' : j < Y.cells.size := by simpa using hj
              have hlt := row_lt m3 hv (j := o + j) (by omega)
              have e : l.base + i * l.sz + o + j = l.base + (i * l.sz + (o + j)) := by omega
              rw [e]
              exact (m3.own _ hlt).1)
            refine ⟨_, hrun, s.upd (upd_set hb h) t ⟨l, m1, m2, row_put s m3 hv hx c2 hv' t⟩ (fun hl => ?_), t.ext⟩
            subst hl
            have hno := s.g.noL b _ hb
            have hx' : x.noL = true := by rcases c3 with h | h; cases h; exact h
            exact noLs_set hno (refs_put hv' (noLs_get hno hv) hx')
        · cases h
      | _ => cases h
  | _ => cases h
/-! ### append -/
theorem tokOk_drop {both : Bool} {t : Tok} {n sz : Nat} {a : Option Addr} {cap : Nat} (h : TokOk g t n sz a cap) : TokOk g (t.drop both) n sz a cap := by
  cases both with
  | true => trivial
  | false => cases t with
    | own loc k => cases loc with
      | true => trivial
      | false => exact h
    | _ => exact h
mutual
theorem handA_rep {both : Bool} : ∀ {v : AV} {x : Value}, Rep g w v x → Rep g w (handA both v) x
  | .sl es t, _, h => by
    rw [handA]
    cases h with
    | sl _ _ a cap B base sz y hc ht ha h0 h1 h2 =>
      exact .sl es _ a cap B base sz y hc (tokOk_drop ht) ha h0 h1 h2
  | .agg cs, _, h => by
    rw [handA]
    obtain ⟨vs, rfl, hn, hh⟩ := h.agg_inv
    exact .agg _ vs (by rw [handAs_len, hn]) fun i c v hc hv => handAs_rep hh i c v hc hv
  | .tup cs, _, h => by
    rw [handA]
    obtain ⟨vs, rfl, hn, hh⟩ := h.tup_inv
    exact .tup _ vs (by rw [handAs_len, hn]) fun i c v hc hv => handAs_rep hh i c v hc hv
  | .ifc t v, _, h => by
    rw [handA]
    cases h with | ifc _ _ x h => exact .ifc t _ x (handA_rep h)
  | .junk, _, h | .bool _, _, h | .int _ _, _, h | .str _, _, h | .nilp, _, h | .ptr .., _, h | .rptr .., _, h | .hs .., _, h | .fn .., _, h | .nilf, _, h | .nili, _, h | .mp .., _, h | .nilm, _, h => by
    simp only [handA]; exact h
theorem handAs_len {both : Bool} : ∀ (l : List AV), (handAs both l).length = l.length
  | [] => by rw [handAs]
  | v :: l => by rw [handAs, List.length_cons, List.length_cons, handAs_len l]
theorem handAs_rep {both : Bool} : ∀ {l : List AV} {vs : Array Value}, (∀ (i : Nat) c v, l[i]? = some c → vs[i]? = some v → Rep g w c v) → ∀ (i : Nat) c v, (handAs both l)[i]? = some c → vs[i]? = some v → Rep g w c v
  | [], vs, _, i, c, v, hc, _ => by rw [handAs] at hc; simp at hc
  | u :: l, vs, h, i, c, v, hc, hv => by
    rw [handAs] at hc
    cases i with
    | zero => simp only [List.getElem?_cons_zero, Option.some.injEq] at hc; rw [← hc]; exact handA_rep (h 0 u v rfl hv)
    | succ i =>
      refine handAs_rep (vs := vs.extract 1 vs.size) (l := l) (fun j c' v' hc' hv' => ?_) i c v (by simpa using hc) ?_
      · rw [Array.getElem?_extract] at hv'
        split at hv'
        · exact h (j + 1) c' v' (by simpa using hc') (by rw [Nat.add_comm]; exact hv')
        · cases hv'
      · rw [Array.getElem?_extract]
        have : i + 1 < vs.size := (Array.getElem?_eq_some_iff.1 hv).1
        rw [if_pos (by omega), Nat.add_comm]; exact hv
end
theorem handAs_get {both : Bool} : ∀ {l : List AV} {i : Nat} {v : AV}, (handAs both l)[i]? = some v → ∃ u, l[i]? = some u ∧ v = handA both u
  | [], i, v, h => by rw [handAs] at h; simp at h
  | u :: l, i, v, h => by
    rw [handAs] at h
    cases i with
    | zero => simp only [List.getElem?_cons_zero, Option.some.injEq] at h; exact ⟨u, rfl, h.symm⟩
    | succ i => obtain ⟨x, h1, h2⟩ := handAs_get (l := l) (by simpa using h); exact ⟨x, by simpa using h1, h2⟩
theorem handA_cells {both : Bool} (v : AV) : (handA both v).cells = handAs both v.cells := by
  cases v <;> simp [handA, handAs, AV.cells]
theorem handA_isCell {both : Bool} (v : AV) : (handA both v).isCell = v.isCell := by cases v <;> simp [handA, AV.isCell]

/-- where the elements of an append come from: all cells of them, read ahead -/
structure Src (P : Program) (g : Gh) (w : World) (xs : List AV) (sz : Nat) (X : Value) : Prop where
  len : (Builtin.lenOf X).run P w = .ok xs.length w
  cells : ∃ cs : Array Value, (Builtin.firstCells sz xs.length X).run P w = .ok cs w ∧ cs.size = xs.length * sz ∧
    ∀ (i : Nat) v j c, xs[i]? = some v → v.cells[j]? = some c → c.isCell = true ∧ ∃ y, cs[i * sz + j]? = some y ∧ Rep g w c y
  size : ∀ (i : Nat) v, xs[i]? = some v → v.cells.length = sz

theorem cells_of {B base sz : Nat} {es : List AV} (h0 : ∀ (i : Nat) v, es[i]? = some v → v.cells.length = sz)
    (h : ∀ (i : Nat) v j c, es[i]? = some v → v.cells[j]? = some c → c.isCell = true ∧ ∃ y, w.cell? ⟨B, base + i * sz + j, none⟩ = some y ∧ Rep g w c y) :
    ∃ cs : Array Value, (loadCells ⟨B, base, none⟩ (es.length * sz)).run P w = .ok cs w ∧ cs.size = es.length * sz ∧
    ∀ (i : Nat) v j c, es[i]? = some v → v.cells[j]? = some c → c.isCell = true ∧ ∃ y, cs[i * sz + j]? = some y ∧ Rep g w c y := by
  have hx : ∀ k, k < es.length * sz → ∃ y, w.cell? ⟨B, base + k, none⟩ = some y := fun k hk => by
    have hsz : 0 < sz := by rcases Nat.eq_zero_or_pos sz with h' | h'; (rw [h'] at hk; simp at hk); exact h'
    have hi : k / sz < es.length := by rw [Nat.div_lt_iff_lt_mul hsz]; exact hk
    have hv := List.getElem?_eq_getElem hi
    have hj : k % sz < es[k / sz].cells.length := by rw [h0 _ _ hv]; exact Nat.mod_lt _ hsz
    obtain ⟨_, y, hy, _⟩ := h _ _ _ _ hv (List.getElem?_eq_getElem hj)
    refine ⟨y, ?_⟩
    rw [show base + k = base + k / sz * sz + k % sz by have := Nat.div_add_mod k sz; rw [Nat.mul_comm] at this; omega]
    exact hy
  let F : Nat → Value := fun k => (w.cell? ⟨B, base + k, none⟩).getD undef
  have hF : ∀ k, k < es.length * sz → w.cell? ⟨B, base + k, none⟩ = some (F k) := fun k hk => by
    obtain ⟨y, hy⟩ := hx k hk
    show _ = some ((w.cell? ⟨B, base + k, none⟩).getD undef)
    rw [hy]; rfl
  refine ⟨((List.range (es.length * sz)).map F).toArray, run_loadCells (P := P) w _ _ F fun j hj => by rw [add_none]; exact hF j hj, by simp, fun i v j c hv hj => ?_⟩
  obtain ⟨k1, y, k2, k3⟩ := h i v j c hv hj
  have hjl : j < sz := by rw [← h0 i v hv]; exact (List.getElem?_eq_some_iff.1 hj).1
  have hlt : i * sz + j < es.length * sz := by
    have h1 : i < es.length := (List.getElem?_eq_some_iff.1 hv).1
    have : (i + 1) * sz ≤ es.length * sz := Nat.mul_le_mul_right _ h1
    rw [Nat.add_mul] at this
    omega
  refine ⟨k1, F (i * sz + j), ?_, ?_⟩
  · simp only [List.getElem?_toArray, List.getElem?_map, List.getElem?_range hlt, Option.map_some]
  · have := hF _ hlt
    rw [← Nat.add_assoc, k2] at this
    injection this with e
    rw [← e]; exact k3

theorem src_of {L G : Hp} (s : Sim g w L G) {x : AV} {X : Value} {xs : List AV} {el : TypeId} (hx : Rep g w x X) (h : elemsOf L G x = some xs) (hs : szOk P el xs = true) : Src P g w xs (szT P el) X := by
  unfold elemsOf at h
  cases x with
  | sl es t =>
    simp only [Option.some.injEq] at h
    subst h
    cases hx with
    | sl _ _ a cap B base sz y hc ht ha h0 h1 h2 =>
      cases es with
      | nil =>
        refine ⟨rfl, ⟨#[], ?_, by simp, fun i v j c h => by simp at h⟩, fun i v h => by simp at h⟩
        cases a with
        | none => rfl
        | some a => simp [Builtin.firstCells, loadCells, loadCellsFrom]
      | cons u es =>
        obtain ⟨rfl, hpos⟩ := ha (by simp)
        have hsz : sz = szT P el := by rw [← h0 0 u rfl]; simpa [szOk] using hs
        subst hsz
        refine ⟨rfl, ?_, h0⟩
        exact cells_of h0 fun i v j c hv hj => ⟨(h1 i v j c hv hj).1, y i j, (h1 i v j c hv hj).2.2, h2 i v j c hv hj⟩
  | hs loc b gen off len =>
    simp only at h
    cases hb : (hpOf loc L G)[b]? with
    | none => rw [hb] at h; cases h
    | some blk =>
      rw [hb] at h
      cases blk with
      | row g' es =>
        simp only at h
        split at h
        · rename_i hc
          obtain ⟨rfl, hle⟩ := hc
          cases h
          obtain ⟨l, m1, m2, m3⟩ := hpOf_blk s hb
          cases hx with
          | hs _ _ _ _ _ l' m1' hl =>
            rw [m1] at m1'
            cases m1'
            have hlen : ((es.drop off).take len).length = len := by simp; omega
            have hget : ∀ i v, ((es.drop off).take len)[i]? = some v → es[off + i]? = some v := fun i v hv => by
              rcases Nat.lt_or_ge i len with h' | h'
              · rwa [List.getElem?_take_of_lt h', List.getElem?_drop] at hv
              · rw [List.getElem?_eq_none (by rw [hlen]; exact h')] at hv; cases hv
            have hsz : (es.drop off).take len ≠ [] → l.sz = szT P el := fun hne => by
              cases hq : (es.drop off).take len with
              | nil => exact absurd hq hne
              | cons u r =>
                rw [hq] at hs
                have := m3.size (off + 0) u (hget 0 u (by rw [hq]; rfl))
                rw [← this]; simpa [szOk] using hs
            rcases Nat.eq_zero_or_pos len with h0 | h0
            · subst h0
              refine ⟨rfl, ⟨#[], ?_, by simp, fun i v j c h => by simp at h⟩, fun i v h => by simp at h⟩
              simp [Builtin.firstCells, loadCells, loadCellsFrom]
            · have hne : (es.drop off).take len ≠ [] := fun e => by rw [e] at hlen; simp at hlen; omega
              have hz' := hsz hne
              rw [← hz']
              refine ⟨by simp [Builtin.lenOf, hlen], ?_, fun i v hv => m3.size _ v (hget i v hv)⟩
              refine cells_of (fun i v hv => m3.size _ v (hget i v hv)) fun i v j c hv hj => ?_
              obtain ⟨k1, y, k2, k3⟩ := m3.cell _ v j c (hget i v hv) hj
              refine ⟨k1, y, ?_, k3⟩
              rw [show l.base + off * l.sz + i * l.sz + j = l.base + (off + i) * l.sz + j by rw [Nat.add_mul]; omega]
              exact k2
        · cases h
      | _ => cases h
  | str l =>
    simp only [Option.some.injEq] at h
    subst h
    rw [hx.str_inv]
    refine ⟨by simp [Builtin.lenOf, size_bytes], ⟨l.toArray.map fun b => .int .u8 b.toNat, ?_, ?_, fun i v j c hv hj => ?_⟩, fun i v hv => ?_⟩
    · simp [Builtin.firstCells]
    · cases l with
      | nil => simp
      | cons b l => simp [szOk, AV.cells] at hs; simp [← hs]
    · have hsz : szT P el = 1 := by
        cases l with
        | nil => simp at hv
        | cons b l => simp [szOk, AV.cells] at hs; exact hs.symm
      simp only [List.getElem?_map] at hv
      cases hb : l[i]? with
      | none => rw [hb] at hv; cases hv
      | some b =>
        rw [hb] at hv
        cases hv
        cases j with
        | succ j => simp [AV.cells] at hj
        | zero =>
          simp only [AV.cells, List.getElem?_cons_zero, Option.some.injEq] at hj
          subst hj
          refine ⟨rfl, .int .u8 b.toNat, ?_, .int _ _⟩
          rw [hsz]
          simp [hb]
    · simp only [List.getElem?_map] at hv
      cases hb : l[i]? with
      | none => rw [hb] at hv; cases hv
      | some b =>
        rw [hb] at hv
        cases hv
        cases l with
        | nil => simp at hb
        | cons b l => simp [szOk, AV.cells] at hs; simp [AV.cells, hs]
  | _ => cases h
theorem Ext.drew (g : Gh) (w : World) : Ext g w g w.drew :=
  ⟨Nat.le_refl _, rfl, rfl, rfl, fun _ _ _ _ => ⟨rfl, rfl, rfl⟩, fun _ _ _ => rfl, fun _ _ _ h => h, fun _ _ h => h, fun _ I h => ⟨I, h, .inl rfl⟩⟩
theorem Rep.drew {v : AV} {x : Value} (h : Rep g w v x) : Rep g w.drew v x :=
  Rep.keeps (g := g) (w := w) (g' := g) (w' := w.drew) (Q := fun _ _ => true) ⟨fun _ _ h => ⟨h, fun _ h => h⟩, fun _ _ _ _ _ h => h, fun _ _ _ _ h => h, fun _ _ _ I h => ⟨I, h, .inl rfl⟩⟩ h (refs_true v)
theorem BlkOk.drew {loc : Bool} {b : Nat} {x : Blk} (h : BlkOk g w loc b x) : BlkOk g w.drew loc b x :=
  h.keeps (fun _ _ h => h.drew) (fun _ _ h => ⟨h, rfl, rfl, fun _ _ _ => rfl⟩) (fun _ => rfl) rfl rfl
theorem Sim.drew {L G : Hp} (s : Sim g w L G) : Sim g w.drew L G :=
  ⟨⟨fun b x h => (s.l.blk b x h).drew, s.l.new⟩, ⟨⟨fun b x h => (s.g.hp.blk b x h).drew, s.g.hp.new⟩, s.g.noL, s.g.own⟩⟩

theorem growBy_le (need : Nat) : ∀ (r c : Nat), c ≥ 256 → c < need → Builtin.growBy need r c ≤ 2 ^ r * c
  | 0, c, _, _ => by simp [Builtin.growBy]
  | r + 1, c, h, hc => by
    rw [Builtin.growBy]
    split
    · have : 1 * c ≤ 2 ^ (r + 1) * c := Nat.mul_le_mul_right _ (Nat.one_le_two_pow)
      omega
    · have hd : c + (c + 768) / 4 ≤ 2 * c := by omega
      rcases Nat.lt_or_ge (c + (c + 768) / 4) need with h1 | h1
      · have := growBy_le need r (c + (c + 768) / 4) (by omega) h1
        have h2 : 2 ^ r * (c + (c + 768) / 4) ≤ 2 ^ r * (2 * c) := Nat.mul_le_mul_left _ hd
        rw [Nat.pow_succ, Nat.mul_assoc]
        omega
      · have h3 : Builtin.growBy need r (c + (c + 768) / 4) = c + (c + 768) / 4 := by
          cases r with
          | zero => rfl
          | succ r => rw [Builtin.growBy, if_pos h1]
        rw [h3]
        have h4 : 2 * c ≤ 2 ^ (r + 1) * c := Nat.mul_le_mul_right _ (by rw [Nat.pow_succ]; have := Nat.one_le_two_pow (n := r); omega)
        omega
theorem nextcap_le {need cap : Nat} (h : cap < need) : Builtin.nextslicecap need cap ≤ 16 * need := by
  unfold Builtin.nextslicecap
  split
  · omega
  · split
    · omega
    · have := growBy_le need 4 cap (by omega) h
      omega

/-- what an append asks of an element's type -/
structure ElOk (P : Program) (el : TypeId) : Prop where
  sz : szT P el ≠ 0
  bytes : P.bytesOf el ≠ 0
  zero : ∃ i z, P.info? el = some i ∧ i.zero = some z ∧ z.cells.size = szT P el
theorem elOk_of {el : TypeId} (h1 : szT P el ≠ 0) (h2 : P.bytesOf el ≠ 0) (h3 : (zeroT P el).isNone ≠ true) (h4 : zeroSz P el = szT P el) : ElOk P el := by
  refine ⟨h1, h2, ?_⟩
  cases hz : zeroT P el with
  | none => rw [hz] at h3; exact absurd rfl h3
  | some z =>
    obtain ⟨i, x, hi, hx, _⟩ := zeroT_some hz
    refine ⟨i, x, hi, hx, ?_⟩
    unfold zeroSz at h4
    simp only [hi, hx] at h4
    exact h4

theorem run_append_grow {t t' ty el : TypeId} {a : Option Addr} {n k cap : Nat} {X : Value} {d : TypeDesc} {oldc newc : Array Value} (hu : P.underlying t = some (.slice el)) (hu' : P.underlying t' = some d) (hd : ∀ q, d ≠ .int q)
    (ho : ElOk P el) (hlen : (Builtin.lenOf X).run P w = .ok k w) (hold : (Builtin.firstCells (szT P el) n (.slice a n cap)).run P w.drew = .ok oldc w.drew)
    (hnew : (Builtin.firstCells (szT P el) k X).run P w.drew = .ok newc w.drew) (hcap : cap < n + k) (hb : (n + k) * P.bytesOf el ≤ mostBytes) :
    ∃ (newCap : Nat) (rest : Array Value), n + k ≤ newCap ∧ rest.size = (newCap - (n + k)) * szT P el ∧
      (Builtin.append_ #[t, t'] ty #[.slice a n cap, X]).run P w = .ok (.slice (some ⟨w.heap.size, 0, none⟩) (n + k) newCap) (w.drew.alloc (.cells (oldc ++ newc ++ rest) el)) := by
  obtain ⟨i, z, hi, hz, hzs⟩ := ho.zero
  have hbytes : i.bytes = P.bytesOf el := by simp [Program.bytesOf, hi]
  have h1 : ¬ (cap ≥ n + k) := by omega
  have hq : (Question.appendCap (n + k) cap el).forced = false := rfl
  have hne : P.bytesOf el ≠ 0 := ho.bytes
  let nc := (Question.appendCap (n + k) cap el).cut (w.tape w.drawn (.appendCap (n + k) cap el))
  refine ⟨nc, Builtin.zeroCells z.cells (nc - (n + k)), by show n + k ≤ _ + _; omega, by simp [Builtin.zeroCells, hzs], ?_⟩
  have hzeros : (match d with | .int _ => true | _ => false) = false := by cases d <;> first | rfl | exact absurd rfl (hd _)
  have hcapb : ¬ (Builtin.nextslicecap (n + k) cap * i.bytes > 2 ^ 48) := by
    have := nextcap_le hcap
    have h2 : Builtin.nextslicecap (n + k) cap * i.bytes ≤ 16 * (n + k) * i.bytes := Nat.mul_le_mul_right _ this
    rw [Nat.mul_assoc, hbytes] at h2
    rw [hbytes]
    have h3 : 16 * ((n + k) * P.bytesOf el) ≤ 16 * mostBytes := Nat.mul_le_mul_left _ hb
    have h4 : 16 * mostBytes = 2 ^ 48 := by decide
    omega
  have hti : ∀ (u : World), (typeInfo el).run P u = .ok i u := fun u => by simp [typeInfo, hi]
  have hzv : ∀ (u : World), (zeroValue el).run P u = .ok z u := fun u => by simp [zeroValue, hti, hz]
  have hcap1 : (n + k ≤ cap) = False := by simp; omega
  have hcapb1 : (Builtin.nextslicecap (n + k) cap * i.bytes > 2 ^ 48) = False := by simpa using hcapb
  have hb0 : (i.bytes = 0) = False := by rw [hbytes]; simpa using hne
  cases d <;> first
    | exact absurd rfl (hd _)
    | (unfold Builtin.append_
       simp only [List.getElem?_toArray, List.getElem?_cons_zero, List.getElem?_cons_succ, Sem.run_bind, run_underlying hu, run_underlying hu', Result.andThen_ok, run_size hi, Sem.run_pure, hlen,
         Bool.false_eq_true, if_false, Bool.not_false, if_true, Sem.run_ite, hcap1, hti, hb0, or_self, and_false, hcapb1, run_choose, hq, run_askRoom, World.drew_eq, hold, hnew, hzv, newRow, run_newObj]
       rfl)
theorem run_append_fits {t t' ty el : TypeId} {B o n k cap : Nat} {X : Value} {d : TypeDesc} {newc : Array Value} (hu : P.underlying t = some (.slice el)) (hu' : P.underlying t' = some d) (hd : ∀ q, d ≠ .int q)
    (hz : szT P el ≠ 0) (hlen : (Builtin.lenOf X).run P w = .ok k w) (hnew : (Builtin.firstCells (szT P el) k X).run P w = .ok newc w) (hcap : n + k ≤ cap)
    (hst : (storeCells ⟨B, o + n * szT P el, none⟩ newc.toList).run P w = .ok () (w.setCells B (o + n * szT P el) newc.toList)) :
    (Builtin.append_ #[t, t'] ty #[.slice (some ⟨B, o, none⟩) n cap, X]).run P w = .ok (.slice (some ⟨B, o, none⟩) (n + k) cap) (w.setCells B (o + n * szT P el) newc.toList) := by
  have hcap1 : (n + k ≤ cap) = True := by simp; omega
  cases d <;> first
    | exact absurd rfl (hd _)
    | (unfold Builtin.append_
       simp only [List.getElem?_toArray, List.getElem?_cons_zero, List.getElem?_cons_succ, Sem.run_bind, run_underlying hu, run_underlying hu', Result.andThen_ok, run_sizeOf hz, Sem.run_pure, hlen,
         Bool.false_eq_true, if_false, Bool.not_false, if_true, Sem.run_ite, hcap1, hnew, add_none, hst])
theorem run_append_nil {t t' ty el : TypeId} {a : Option Addr} {n cap : Nat} {X : Value} {d : TypeDesc} {newc : Array Value} (hu : P.underlying t = some (.slice el)) (hu' : P.underlying t' = some d) (hd : ∀ q, d ≠ .int q)
    (hz : szT P el ≠ 0) (hlen : (Builtin.lenOf X).run P w = .ok 0 w) (hnew : (Builtin.firstCells (szT P el) 0 X).run P w = .ok newc w) (hn : newc.size = 0) (hcap : n ≤ cap) :
    (Builtin.append_ #[t, t'] ty #[.slice a n cap, X]).run P w = .ok (.slice a n cap) w := by
  have hcap1 : (n ≤ cap) = True := by simp; omega
  have hnil : newc.toList = [] := by have : newc = #[] := by simpa using hn
                                     rw [this]
  cases a <;> (cases d <;> first
    | exact absurd rfl (hd _)
    | (unfold Builtin.append_
       simp only [List.getElem?_toArray, List.getElem?_cons_zero, List.getElem?_cons_succ, Sem.run_bind, run_underlying hu, run_underlying hu', Result.andThen_ok, run_sizeOf hz, Sem.run_pure, hlen,
         Bool.false_eq_true, if_false, Bool.not_false, if_true, Sem.run_ite, hcap1, hnew, hnil, storeCells, Nat.add_zero]))

/-- elements that a new row holds: the old ones, and those that are appended -/
theorem grown_cells {B base sz n k : Nat} {es xs : List AV} {oldc newc rest : Array Value} (hn : es.length = n) (hk : xs.length = k)
    (h0 : ∀ (i : Nat) v, es[i]? = some v → v.cells.length = sz) (hx0 : ∀ (i : Nat) v, xs[i]? = some v → v.cells.length = sz)
    (ho : oldc.size = n * sz) (hold : ∀ (i : Nat) v j c, es[i]? = some v → v.cells[j]? = some c → c.isCell = true ∧ ∃ y, oldc[i * sz + j]? = some y ∧ Rep g w c y)
    (hnn : newc.size = k * sz) (hnew : ∀ (i : Nat) v j c, xs[i]? = some v → v.cells[j]? = some c → c.isCell = true ∧ ∃ y, newc[i * sz + j]? = some y ∧ Rep g w c y) (_hB : B = B) (_hb : base = base) :
    (∀ (i : Nat) v, (es ++ xs)[i]? = some v → v.cells.length = sz) ∧
    ∀ (i : Nat) v j c, (es ++ xs)[i]? = some v → v.cells[j]? = some c → c.isCell = true ∧ ∃ y, (oldc ++ newc ++ rest)[i * sz + j]? = some y ∧ Rep g w c y := by
  have hbound : ∀ (l : List AV) (q : Nat), l.length = q → (∀ (i : Nat) v, l[i]? = some v → v.cells.length = sz) → ∀ (i : Nat) v j c, l[i]? = some v → v.cells[j]? = some c → i * sz + j < q * sz := fun l q hl h i v j c hv hj => by
    have h1 : i < q := by rw [← hl]; exact (List.getElem?_eq_some_iff.1 hv).1
    have h2 : j < sz := by rw [← h i v hv]; exact (List.getElem?_eq_some_iff.1 hj).1
    have : (i + 1) * sz ≤ q * sz := Nat.mul_le_mul_right _ h1
    rw [Nat.add_mul] at this
    omega
  refine ⟨fun i v hv => ?_, fun i v j c hv hj => ?_⟩
  · rcases Nat.lt_or_ge i n with h' | h'
    · rw [List.getElem?_append_left (by omega)] at hv; exact h0 i v hv
    · rw [List.getElem?_append_right (by omega)] at hv; exact hx0 _ v hv
  · rcases Nat.lt_or_ge i n with h' | h'
    · rw [List.getElem?_append_left (by omega)] at hv
      obtain ⟨k1, y, k2, k3⟩ := hold i v j c hv hj
      have := hbound es n hn h0 i v j c hv hj
      refine ⟨k1, y, ?_, k3⟩
      rw [Array.append_assoc, Array.getElem?_append_left (by omega)]; exact k2
    · rw [List.getElem?_append_right (by omega), hn] at hv
      obtain ⟨k1, y, k2, k3⟩ := hnew _ v j c hv hj
      have := hbound xs k hk hx0 _ v j c hv hj
      refine ⟨k1, y, ?_, k3⟩
      have e : i * sz + j = oldc.size + ((i - n) * sz + j) := by
        rw [ho]
        have : n * sz + (i - n) * sz = i * sz := by rw [← Nat.add_mul]; congr 1; omega
        omega
      rw [Array.append_assoc, e, Array.getElem?_append_right (by omega), Nat.add_sub_cancel_left, Array.getElem?_append_left (by omega)]; exact k2
theorem handed {both : Bool} {xs : List AV} {sz : Nat} {newc : Array Value} (hx0 : ∀ (i : Nat) v, xs[i]? = some v → v.cells.length = sz)
    (hnew : ∀ (i : Nat) v j c, xs[i]? = some v → v.cells[j]? = some c → c.isCell = true ∧ ∃ y, newc[i * sz + j]? = some y ∧ Rep g w c y) :
    (∀ (i : Nat) v, (handAs both xs)[i]? = some v → v.cells.length = sz) ∧
    ∀ (i : Nat) v j c, (handAs both xs)[i]? = some v → v.cells[j]? = some c → c.isCell = true ∧ ∃ y, newc[i * sz + j]? = some y ∧ Rep g w c y := by
  refine ⟨fun i v hv => ?_, fun i v j c hv hj => ?_⟩
  · obtain ⟨u, h1, rfl⟩ := handAs_get hv
    rw [handA_cells, handAs_len (g := g) (w := w)]; exact hx0 i u h1
  · obtain ⟨u, h1, rfl⟩ := handAs_get hv
    rw [handA_cells] at hj
    obtain ⟨q, h2, rfl⟩ := handAs_get hj
    obtain ⟨k1, y, k2, k3⟩ := hnew i u j q h1 h2
    exact ⟨by rw [handA_isCell]; exact k1, y, k2, handA_rep k3⟩
theorem handY_rep {v : AV} {x : Value} (h : Rep g w v x) : Rep g w (handY v) x := by
  unfold handY
  split
  · exact h
  · exact handA_rep h
theorem handX_eq (xs : List AV) : handX xs = xs ∨ handX xs = handAs true xs := by
  unfold handX
  split
  · exact .inl rfl
  · exact .inr rfl
theorem handX_len {g : Gh} {w : World} (xs : List AV) : (handX xs).length = xs.length := by
  rcases handX_eq xs with h | h <;> rw [h]
  exact handAs_len (g := g) (w := w) xs
theorem handedX {xs : List AV} {sz : Nat} {newc : Array Value} (hx0 : ∀ (i : Nat) v, xs[i]? = some v → v.cells.length = sz)
    (hnew : ∀ (i : Nat) v j c, xs[i]? = some v → v.cells[j]? = some c → c.isCell = true ∧ ∃ y, newc[i * sz + j]? = some y ∧ Rep g w c y) :
    (∀ (i : Nat) v, (handX xs)[i]? = some v → v.cells.length = sz) ∧
    ∀ (i : Nat) v j c, (handX xs)[i]? = some v → v.cells[j]? = some c → c.isCell = true ∧ ∃ y, newc[i * sz + j]? = some y ∧ Rep g w c y := by
  rcases handX_eq xs with h | h <;> rw [h]
  · exact ⟨hx0, hnew⟩
  · exact handed (both := true) hx0 hnew
/-- a new slice that grows at its end alone -/
theorem sim_tok {L G L' G' : Hp} (s : Sim g w L G) {loc : Bool} {b : Nat} {es : List AV} {sz cap : Nat} {el : TypeId} (hsz : 0 < sz) (hne : 0 < es.length)
    (hes : ∀ (i : Nat) v, es[i]? = some v → v.cells.length = sz)
    (htk : ∀ I, g.tk loc b = some I → I.n < es.length ∧ I.sz = sz) (u : HpUpd loc b (.tok es.length sz) L G L' G') (cs : Array Value) (hcap : cap * sz = cs.size) (hcap' : es.length ≤ cap)
    (hcs : ∀ (i : Nat) v j c, es[i]? = some v → v.cells[j]? = some c → c.isCell = true ∧ ∃ y, cs[i * sz + j]? = some y ∧ Rep g w c y) :
    ∃ g', Sim g' (w.alloc (.cells cs el)) L' G' ∧ Ext g w g' (w.alloc (.cells cs el)) ∧ Mono g g' ∧ Rep g' (w.alloc (.cells cs el)) (.sl es (.own loc b)) (.slice (some ⟨w.heap.size, 0, none⟩) es.length cap) := by
  let on : Nat → Own := fun o => if o < es.length * sz then .prot else if o < cap * sz then .blk loc b else .no
  let I : TkI := ⟨es.length, w.heap.size, 0, sz, cap⟩
  let g' : Gh := ⟨ownAt g.own w.heap.size on, g.mu, g.mp, setTk g.tk loc b I⟩
  have htk' : ∀ l' b' J, g.tk l' b' = some J → ∃ J', setTk g.tk loc b I l' b' = some J' ∧ TkLe J J' := fun l' b' J hJ => by
    unfold setTk
    by_cases e : l' = loc ∧ b' = b
    · rw [if_pos e]
      obtain ⟨rfl, rfl⟩ := e
      obtain ⟨h1, h2⟩ := htk J hJ
      exact ⟨I, rfl, .inr ⟨h1, h2.symm⟩⟩
    · rw [if_neg e]; exact ⟨J, hJ, .inl rfl⟩
  have hB : ∀ {B o : Nat}, B < w.heap.size → ownAt g.own w.heap.size on B o = g.own B o := fun h => ownAt_lt (by omega)
  have t : Step g w g' (w.alloc (.cells cs el)) loc b := by
    refine ⟨⟨by simp, rfl, rfl, rfl, fun B k hB' h => ⟨hB hB', World.cell?_alloc_lt w _ _ hB', World.frozen?_alloc_old w _ _ (by simp; omega)⟩, fun B hB' h => ?_, fun _ _ _ h => h, fun _ _ h => h, fun _ J h => htk' _ _ J h⟩,
      ⟨fun _ _ _ h => h, fun _ _ h => h, fun _ J h => htk' _ _ J h⟩, fun B k hB' => ?_, fun l' b' hne => ⟨fun _ => rfl, rfl, if_neg hne⟩, fun l' b' _ B k h => ?_⟩
    · simp only [World.alloc, Array.getElem?_push]
      rw [if_neg (by omega)]
    · simp only [World.size_alloc] at hB'
      show ownAt g.own w.heap.size on B k = .no
      rw [ownAt_lt (by omega)]
      exact s.own B k (by omega)
    · have hB' : B < w.heap.size := by
        rcases Nat.lt_or_ge B w.heap.size with h' | h'
        · exact h'
        · rw [s.own B k h'] at h; cases h
      refine ⟨by show ownAt g.own w.heap.size on B k = _; rw [hB hB']; exact h, World.cell?_alloc_lt w _ _ hB', World.frozen?_alloc_old w _ _ (by simp; omega), fun es k h => ?_⟩
      simp only [World.alloc, Array.getElem?_push]
      rw [if_neg (by omega)]
  have hI : g'.tk loc b = some I := if_pos ⟨rfl, rfl⟩
  have hbnd : ∀ (i : Nat) v j c, es[i]? = some v → v.cells[j]? = some c → i * sz + j < es.length * sz := fun i v j c hv hj => by
    have h1 : i < es.length := (List.getElem?_eq_some_iff.1 hv).1
    have h2 : j < sz := by rw [← hes i v hv]; exact (List.getElem?_eq_some_iff.1 hj).1
    have : (i + 1) * sz ≤ es.length * sz := Nat.mul_le_mul_right _ h1
    rw [Nat.add_mul] at this
    omega
  refine ⟨g', s.upd u t ⟨I, hI, rfl, rfl, hsz, hne, hcap', fun o o1 o2 => ⟨?_, ?_, World.frozen?_alloc_new w cs el _⟩⟩ (fun _ => rfl), t.ext, t.mono, ?_⟩
  · show ownAt g.own w.heap.size on w.heap.size (0 + o) = .blk loc b
    rw [ownAt_new, Nat.zero_add]
    show (if o < es.length * sz then Own.prot else if o < cap * sz then .blk loc b else .no) = _
    rw [if_neg (by omega), if_pos o2]
  · refine ⟨cs[o]'(by have : o < cap * sz := o2; omega), ?_⟩
    rw [World.cell?_alloc_new]
    show cs[0 + o]? = _
    rw [Nat.zero_add]
    exact Array.getElem?_eq_getElem _
  · refine .sl es _ _ cap w.heap.size 0 sz (fun i j => (cs[i * sz + j]?).getD undef) hcap' ⟨I, hI, hne, Nat.le_refl _, rfl, fun _ => ⟨rfl, rfl⟩⟩ (fun _ => ⟨rfl, hsz⟩) hes (fun i v j c hv hj => ?_) fun i v j c hv hj => ?_
    · obtain ⟨k1, y, k2, k3⟩ := hcs i v j c hv hj
      have hlt := hbnd i v j c hv hj
      refine ⟨k1, ?_, ?_⟩
      · show ownAt g.own w.heap.size on w.heap.size (0 + i * sz + j) = .prot
        rw [ownAt_new, Nat.zero_add]
        exact if_pos hlt
      · rw [World.cell?_alloc_new, Nat.zero_add, k2]; rfl
    · obtain ⟨k1, y, k2, k3⟩ := hcs i v j c hv hj
      rw [k2]
      exact k3.ext s.own t.ext t.mono
end
end Ev
