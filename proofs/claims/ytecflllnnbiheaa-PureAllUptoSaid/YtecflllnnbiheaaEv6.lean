/- append: what the evaluator says of it is what the model does. -/
import Derived.Test.YtecflllnnbiheaaEv5
set_option maxHeartbeats 4000000
set_option linter.unusedVariables false
set_option linter.unusedSimpArgs false
namespace Ev
open Go
section
variable {P : Program} {g g' : Gh} {w w' : World}

theorem setCells_run {B o : Nat} {newc : Array Value} (h1 : ∀ v ∈ newc.toList, v.oneCell' = true) (h2 : ∀ j, j < newc.size → (∃ y, w.cell? ⟨B, o + j, none⟩ = some y) ∧ w.frozen? ⟨B, o + j, none⟩ = false) :
    (storeCells ⟨B, o, none⟩ newc.toList).run P w = .ok () (w.setCells B o newc.toList) := by
  have := run_storeCells_cells (P := P) B o newc.toList 0 w (fun j hj => by
      obtain ⟨y, hy⟩ := (h2 j (by simpa using hj)).1
      rw [Nat.add_zero, hy]; rfl) (fun j hj => by rw [Nat.add_zero]; exact (h2 j (by simpa using hj)).2) h1
  rw [Nat.add_zero] at this
  exact this

/-- all cells of the elements, each one cell -/
theorem newc_one {xs : List AV} {sz : Nat} {newc : Array Value} (hn : newc.size = xs.length * sz) (hs : ∀ (i : Nat) v, xs[i]? = some v → v.cells.length = sz)
    (h : ∀ (i : Nat) v j c, xs[i]? = some v → v.cells[j]? = some c → c.isCell = true ∧ ∃ y, newc[i * sz + j]? = some y ∧ Rep g w c y) : ∀ v ∈ newc.toList, v.oneCell' = true := fun v hv => by
  obtain ⟨k, hk⟩ := List.mem_iff_getElem?.1 hv
  have hk' : newc[k]? = some v := by simpa using hk
  have hlt : k < xs.length * sz := by rw [← hn]; exact (Array.getElem?_eq_some_iff.1 hk').1
  have hsz : 0 < sz := by rcases Nat.eq_zero_or_pos sz with h' | h'; (rw [h'] at hlt; simp at hlt); exact h'
  have hi : k / sz < xs.length := by rw [Nat.div_lt_iff_lt_mul hsz]; exact hlt
  have hu := List.getElem?_eq_getElem hi
  have hj : k % sz < xs[k / sz].cells.length := by rw [hs _ _ hu]; exact Nat.mod_lt _ hsz
  obtain ⟨k1, y, k2, k3⟩ := h _ _ _ _ hu (List.getElem?_eq_getElem hj)
  have e : k / sz * sz + k % sz = k := by have := Nat.div_add_mod k sz; rw [Nat.mul_comm] at this; exact this
  rw [e, hk'] at k2
  cases k2
  exact (k3.oneCell k1).1

theorem cell_in {B o : Nat} {newc : Array Value} (h2 : ∀ j, j < newc.size → ∃ y, w.cell? ⟨B, o + j, none⟩ = some y) {j : Nat} {y : Value} (hj : newc[j]? = some y) : (w.setCells B o newc.toList).cell? ⟨B, o + j, none⟩ = some y := by
  have hlt := (Array.getElem?_eq_some_iff.1 hj).1
  have := World.cell?_setCells_in B newc.toList o w (fun k hk => by obtain ⟨y, hy⟩ := h2 k (by simpa using hk); rw [hy]; rfl) j (by simpa using hlt)
  rw [this]
  rw [Array.getElem?_eq_getElem hlt] at hj
  simpa using hj

/-- an append within the room that is one's own -/
theorem sim_tok_fits {L G L' G' : Hp} (s : Sim g w L G) {loc : Bool} {b : Nat} {es xs : List AV} {sz : Nat} {newc : Array Value} {a : Option Addr} {cap : Nat} (hb : (hpOf loc L G)[b]? = some (.tok es.length sz))
    (hes : Rep g w (.sl es (.own loc b)) (.slice a es.length cap)) (hfit : es.length + xs.length ≤ cap) (hxne : 0 < xs.length) (hsz : 0 < sz)
    (hn : newc.size = xs.length * sz) (hxs : ∀ (i : Nat) v, xs[i]? = some v → v.cells.length = sz)
    (hx : ∀ (i : Nat) v j c, xs[i]? = some v → v.cells[j]? = some c → c.isCell = true ∧ ∃ y, newc[i * sz + j]? = some y ∧ Rep g w c y)
    (e : setHp loc b (.tok (es.length + xs.length) sz) L G = (L', G')) :
    ∃ B o g', a = some ⟨B, o, none⟩ ∧ (storeCells ⟨B, o + es.length * sz, none⟩ newc.toList).run P w = .ok () (w.setCells B (o + es.length * sz) newc.toList) ∧
      Sim g' (w.setCells B (o + es.length * sz) newc.toList) L' G' ∧ Ext g w g' (w.setCells B (o + es.length * sz) newc.toList) ∧ Mono g g' ∧
      Rep g' (w.setCells B (o + es.length * sz) newc.toList) (.sl (es ++ xs) (.own loc b)) (.slice a (es.length + xs.length) cap) := by
  obtain ⟨I, i1, i2, i3, i4, i5, i6, i7⟩ := hpOf_blk s hb
  cases hes with
  | sl _ _ _ _ B0 base0 sz0 y hc ht ha h0 h1 h2 =>
    obtain ⟨J, j1, j2, j3, j4, j5⟩ := ht
    rw [i1] at j1
    cases j1
    obtain ⟨ea, ec⟩ := j5 i2.symm
    have hne : es ≠ [] := fun e => by rw [e] at j2; simp at j2
    obtain ⟨ea', _⟩ := ha hne
    subst ea
    injection ea' with ea'
    injection ea' with eB eo
    subst eB; subst eo
    have hsz0 : sz0 = sz := j4.symm.trans i3
    subst hsz0
    subst ec
    let start := I.base + es.length * sz0
    have hcell : ∀ j, j < newc.size → g.own I.B (start + j) = .blk loc b ∧ (∃ y, w.cell? ⟨I.B, start + j, none⟩ = some y) ∧ w.frozen? ⟨I.B, start + j, none⟩ = false := fun j hj => by
      have h3 : (es.length + xs.length) * sz0 ≤ I.cap * sz0 := Nat.mul_le_mul_right _ hfit
      rw [Nat.add_mul] at h3
      have := i7 (es.length * sz0 + j) (by omega) (by omega)
      rw [← Nat.add_assoc] at this
      exact this
    let w1 := w.setCells I.B start newc.toList
    let own' : Nat → Nat → Own := fun B o => if B = I.B ∧ start ≤ o ∧ o < start + newc.size then .prot else g.own B o
    let I' : TkI := { I with n := es.length + xs.length }
    let g' : Gh := ⟨own', g.mu, g.mp, setTk g.tk loc b I'⟩
    have t0 := step_cells s (loc := loc) (b := b) (B := I.B) (o := start) (vs := newc.toList) (fun j hj => (hcell j (by simpa using hj)).1)
    have htk' : ∀ l' b' K, g.tk l' b' = some K → ∃ K', setTk g.tk loc b I' l' b' = some K' ∧ TkLe K K' := fun l' b' K hK => by
      unfold setTk
      by_cases e : l' = loc ∧ b' = b
      · rw [if_pos e]
        obtain ⟨rfl, rfl⟩ := e
        rw [i1] at hK
        cases hK
        exact ⟨I', rfl, .inr ⟨by show I.n < es.length + xs.length; omega, rfl⟩⟩
      · rw [if_neg e]; exact ⟨K, hK, .inl rfl⟩
    have hown' : ∀ B o, g.own B o ≠ .blk loc b → own' B o = g.own B o := fun B o h => by
      show (if _ then _ else _) = _
      by_cases hc' : B = I.B ∧ start ≤ o ∧ o < start + newc.size
      · exfalso
        obtain ⟨rfl, q1, q2⟩ := hc'
        have := (hcell (o - start) (by omega)).1
        rw [show start + (o - start) = o by omega] at this
        exact h this
      · rw [if_neg hc']
    have t : Step g w g' w1 loc b := by
      refine ⟨⟨t0.ext.size, t0.ext.os, t0.ext.tape, t0.ext.output, fun B o hB h => ?_, fun B hB h => t0.ext.blk B hB h, fun _ _ _ h => h, fun _ _ h => h, fun _ K h => htk' _ _ K h⟩,
        ⟨fun _ _ _ h => h, fun _ _ h => h, fun _ K h => htk' _ _ K h⟩, fun B o hB => ?_, fun l' b' hne => ⟨fun _ => rfl, rfl, if_neg hne⟩, fun l' b' hne B o h => ?_⟩
      · obtain ⟨_, k2, k3⟩ := t0.ext.keep B o hB h
        exact ⟨hown' B o (by rcases h with h | h <;> rw [h] <;> intro e <;> cases e), k2, k3⟩
      · have h3 := t0.own B o hB
        show own' B o = .no
        rw [hown' B o (by rw [h3]; intro e; cases e)]
        exact h3
      · obtain ⟨k1, k2, k3, k4⟩ := t0.cells l' b' hne B o h
        refine ⟨?_, k2, k3, k4⟩
        show own' B o = _
        rw [hown' B o (by rw [h]; intro e; injection e with e1 e2; exact hne ⟨e1, e2⟩)]
        exact h
    have hI : g'.tk loc b = some I' := if_pos ⟨rfl, rfl⟩
    refine ⟨I.B, I.base, g', rfl, setCells_run (newc_one hn hxs hx) fun j hj => ⟨(hcell j hj).2.1, (hcell j hj).2.2⟩, s.upd (upd_set hb e) t ⟨I', hI, rfl, i3, hsz, by omega, hfit, fun o o1 o2 => ?_⟩ (fun _ => rfl), t.ext, t.mono, ?_⟩
    · have o1' : es.length * sz0 + newc.size ≤ o := by rw [hn, ← Nat.add_mul]; exact o1
      obtain ⟨q1, ⟨y, q2⟩, q3⟩ := i7 o (by omega) o2
      refine ⟨?_, ?_, by rw [World.frozen?_setCells]; exact q3⟩
      · show own' I.B (I.base + o) = _
        show (if _ then _ else _) = _
        rw [if_neg (by show ¬ (I.B = I.B ∧ I.base + es.length * sz0 ≤ I.base + o ∧ I.base + o < I.base + es.length * sz0 + newc.size); omega)]
        exact q1
      · exact Option.isSome_iff_exists.1 (isSome_setCells _ _ _ w ⟨I.B, I.base + o, none⟩ (by rw [q2]; rfl))
    · have hlenapp : (es ++ xs).length = es.length + xs.length := by simp
      rw [← hlenapp]
      have hbnd : ∀ (i : Nat) v j c, es[i]? = some v → v.cells[j]? = some c → i * sz0 + j < es.length * sz0 := fun i v j c hv hj => by
        have h1 : i < es.length := (List.getElem?_eq_some_iff.1 hv).1
        have h2 : j < sz0 := by rw [← h0 i v hv]; exact (List.getElem?_eq_some_iff.1 hj).1
        have : (i + 1) * sz0 ≤ es.length * sz0 := Nat.mul_le_mul_right _ h1
        rw [Nat.add_mul] at this
        omega
      refine .sl (es ++ xs) _ _ I.cap I.B I.base sz0 (fun i j => (w1.cell? ⟨I.B, I.base + i * sz0 + j, none⟩).getD undef) (by rw [hlenapp]; exact hfit)
        ⟨I', hI, by rw [hlenapp]; omega, by rw [hlenapp]; exact Nat.le_refl _, j4, fun _ => ⟨rfl, rfl⟩⟩ (fun _ => ⟨rfl, hsz⟩) (fun i v hv => ?_) (fun i v j c hv hj => ?_) fun i v j c hv hj => ?_
      · rcases Nat.lt_or_ge i es.length with h' | h'
        · rw [List.getElem?_append_left h'] at hv; exact h0 i v hv
        · rw [List.getElem?_append_right h'] at hv; exact hxs _ v hv
      all_goals
        rcases Nat.lt_or_ge i es.length with h' | h'
        · rw [List.getElem?_append_left h'] at hv
          obtain ⟨k1, k2, k3⟩ := h1 i v j c hv hj
          have hlt := hbnd i v j c hv hj
          have hout : w1.cell? ⟨I.B, I.base + i * sz0 + j, none⟩ = some (y i j) := by
            rw [← k3]
            exact World.cell?_setCells_out _ _ _ _ _ fun _ _ => .inl (by show I.base + i * sz0 + j < I.base + es.length * sz0; omega)
          first
            | (refine ⟨k1, ?_, by rw [hout]; rfl⟩
               show own' I.B _ = .prot
               rw [hown' _ _ (by rw [k2]; intro e; cases e)]
               exact k2)
            | (rw [hout]; exact (h2 i v j c hv hj).ext s.own t.ext t.mono)
        · rw [List.getElem?_append_right h'] at hv
          obtain ⟨k1, z, k2, k3⟩ := hx _ v j c hv hj
          have hlt := (Array.getElem?_eq_some_iff.1 k2).1
          have hee : I.base + i * sz0 + j = start + ((i - es.length) * sz0 + j) := by
            have : es.length * sz0 + (i - es.length) * sz0 = i * sz0 := by rw [← Nat.add_mul]; congr 1; omega
            show _ = I.base + es.length * sz0 + _
            omega
          have hin : w1.cell? ⟨I.B, I.base + i * sz0 + j, none⟩ = some z := by rw [hee]; exact cell_in (fun j hj => (hcell j hj).2.1) k2
          first
            | (refine ⟨k1, ?_, by rw [hin]; rfl⟩
               show (if _ then _ else _) = _
               rw [hee, if_pos ⟨rfl, by omega, by omega⟩])
            | (rw [hin]; exact k3.ext s.own t.ext t.mono)
/-- elements of a row turned, or put behind its last one -/
theorem row_splice {L G : Hp} (s : Sim g w L G) {loc : Bool} {b p : Nat} {l : Loc} {es xs : List AV} {newc : Array Value} (hr : RowOk g w loc b l es) (hp : p ≤ es.length) (hfit : p + xs.length ≤ l.cap)
    (hn : newc.size = xs.length * l.sz) (hxs : ∀ (i : Nat) v, xs[i]? = some v → v.cells.length = l.sz)
    (hx : ∀ (i : Nat) v j c, xs[i]? = some v → v.cells[j]? = some c → c.isCell = true ∧ ∃ y, newc[i * l.sz + j]? = some y ∧ Rep g w c y) :
    (storeCells ⟨l.B, l.base + p * l.sz, none⟩ newc.toList).run P w = .ok () (w.setCells l.B (l.base + p * l.sz) newc.toList) ∧
    Step g w g (w.setCells l.B (l.base + p * l.sz) newc.toList) loc b ∧
    RowOk g (w.setCells l.B (l.base + p * l.sz) newc.toList) loc b l (es.take p ++ xs ++ es.drop (p + xs.length)) := by
  have hcell : ∀ j, j < newc.size → g.own l.B (l.base + p * l.sz + j) = .blk loc b ∧ (∃ y, w.cell? ⟨l.B, l.base + p * l.sz + j, none⟩ = some y) ∧ w.frozen? ⟨l.B, l.base + p * l.sz + j, none⟩ = false := fun j hj => by
    have h3 : (p + xs.length) * l.sz ≤ l.cap * l.sz := Nat.mul_le_mul_right _ hfit
    rw [Nat.add_mul] at h3
    have := hr.own (p * l.sz + j) (by omega)
    rw [← Nat.add_assoc] at this
    exact this
  have t := step_cells s (loc := loc) (b := b) (B := l.B) (o := l.base + p * l.sz) (vs := newc.toList) (fun j hj => (hcell j (by simpa using hj)).1)
  refine ⟨setCells_run (newc_one hn hxs hx) fun j hj => ⟨(hcell j hj).2.1, (hcell j hj).2.2⟩, t, hr.sz, ?_, ?_, ?_, fun o ho => ?_⟩
  · simp only [List.length_append, List.length_take, List.length_drop]
    have := hr.len
    omega
  · -- sizes
    intro i v hv
    have ht : (es.take p).length = p := by simp; omega
    rw [List.append_assoc] at hv
    rcases Nat.lt_or_ge i p with h' | h'
    · rw [List.getElem?_append_left (by omega), List.getElem?_take_of_lt h'] at hv; exact hr.size i v hv
    · rw [List.getElem?_append_right (by omega), ht] at hv
      rcases Nat.lt_or_ge (i - p) xs.length with h'' | h''
      · rw [List.getElem?_append_left h''] at hv; exact hxs _ v hv
      · rw [List.getElem?_append_right h'', List.getElem?_drop] at hv; exact hr.size _ v hv
  · intro i v j c hv hj
    have ht : (es.take p).length = p := by simp; omega
    rw [List.append_assoc] at hv
    have old : ∀ i' , es[i']? = some v → (i' < p ∨ p + xs.length ≤ i') → c.isCell = true ∧ ∃ y, (w.setCells l.B (l.base + p * l.sz) newc.toList).cell? ⟨l.B, l.base + i' * l.sz + j, none⟩ = some y ∧ Rep g (w.setCells l.B (l.base + p * l.sz) newc.toList) c y := fun i' hv' hor => by
      obtain ⟨k1, y, k2, k3⟩ := hr.cell i' v j c hv' hj
      have hjl : j < l.sz := by rw [← hr.size i' v hv']; exact (List.getElem?_eq_some_iff.1 hj).1
      refine ⟨k1, y, ?_, k3.ext s.own t.ext t.mono⟩
      rw [World.cell?_setCells_out]
      · exact k2
      · intro _ _
        simp only [Array.length_toList]
        rcases hor with h1 | h1
        · left
          have : (i' + 1) * l.sz ≤ p * l.sz := Nat.mul_le_mul_right _ h1
          rw [Nat.add_mul] at this
          omega
        · right
          have : (p + xs.length) * l.sz ≤ i' * l.sz := Nat.mul_le_mul_right _ h1
          rw [Nat.add_mul] at this
          omega
    rcases Nat.lt_or_ge i p with h' | h'
    · rw [List.getElem?_append_left (by omega), List.getElem?_take_of_lt h'] at hv
      exact old i hv (.inl h')
    · rw [List.getElem?_append_right (by omega), ht] at hv
      rcases Nat.lt_or_ge (i - p) xs.length with h'' | h''
      · rw [List.getElem?_append_left h''] at hv
        obtain ⟨k1, y, k2, k3⟩ := hx _ v j c hv hj
        refine ⟨k1, y, ?_, k3.ext s.own t.ext t.mono⟩
        have : p * l.sz + (i - p) * l.sz = i * l.sz := by rw [← Nat.add_mul]; congr 1; omega
        have := cell_in (B := l.B) (o := l.base + p * l.sz) (fun j hj => (hcell j hj).2.1) k2
        rw [show l.base + i * l.sz + j = l.base + p * l.sz + ((i - p) * l.sz + j) by omega]
        exact this
      · rw [List.getElem?_append_right h'', List.getElem?_drop] at hv
        have e : p + xs.length + (i - p - xs.length) = i := by omega
        rw [e] at hv
        exact old i hv (.inr (by omega))
  · obtain ⟨a1, ⟨y, a2⟩, a3⟩ := hr.own o ho
    refine ⟨a1, ?_, by rw [World.frozen?_setCells]; exact a3⟩
    exact Option.isSome_iff_exists.1 (isSome_setCells _ _ _ w ⟨l.B, l.base + o, none⟩ (by rw [a2]; rfl))

/-- a row grown into a new one, of the next generation -/
theorem sim_regrow {L G L' G' : Hp} (s : Sim g w L G) {loc : Bool} {b gen : Nat} {es es' : List AV} {sz cap : Nat} {el : TypeId} (hb : (hpOf loc L G)[b]? = some (.row gen es)) (hsz : 0 < sz)
    (hes : ∀ (i : Nat) v, es'[i]? = some v → v.cells.length = sz) (hno : loc = false → noLs es' = true)
    (e : setHp loc b (.row (gen + 1) es') L G = (L', G')) (cs : Array Value) (hcap : cap * sz = cs.size) (hcap' : es'.length ≤ cap)
    (hcs : ∀ (i : Nat) v j c, es'[i]? = some v → v.cells[j]? = some c → c.isCell = true ∧ ∃ y, cs[i * sz + j]? = some y ∧ Rep g w c y) :
    ∃ g', Sim g' (w.alloc (.cells cs el)) L' G' ∧ Ext g w g' (w.alloc (.cells cs el)) ∧ Mono g g' ∧ g'.mu loc b (gen + 1) = some ⟨w.heap.size, 0, sz, cap⟩ := by
  obtain ⟨l, m1, m2, m3⟩ := hpOf_blk s hb
  let g' : Gh := ⟨ownAt g.own w.heap.size (fun o => if o < cap * sz then .blk loc b else .no), setMu g.mu loc b (gen + 1) ⟨w.heap.size, 0, sz, cap⟩, g.mp, g.tk⟩
  have hmono : ∀ l' b' gen' l0, g.mu l' b' gen' = some l0 → setMu g.mu loc b (gen + 1) ⟨w.heap.size, 0, sz, cap⟩ l' b' gen' = some l0 := fun l' b' gen' l0 h => by
    unfold setMu
    rw [if_neg fun ⟨e1, e2, e3⟩ => by subst e1; subst e2; subst e3; rw [m2 _ (by omega)] at h; cases h]
    exact h
  have t : Step g w g' (w.alloc (.cells cs el)) loc b := step_alloc s _ _ _ _ _ hmono (fun _ _ _ h => h) (fun _ _ _ h => h) fun l' b' hne => ⟨fun gen => if_neg fun ⟨a, b, _⟩ => hne ⟨a, b⟩, rfl, rfl⟩
  have hmu : g'.mu loc b (gen + 1) = some ⟨w.heap.size, 0, sz, cap⟩ := if_pos ⟨rfl, rfl, rfl⟩
  refine ⟨g', s.upd (upd_set hb e) t ⟨_, hmu, fun gen' hg => ?_, hsz, hcap', hes, fun i v j c hv hj => ?_, fun o ho => ⟨?_, ?_, ?_⟩⟩ (fun e => hno e), t.ext, t.mono, hmu⟩
  · show setMu g.mu loc b (gen + 1) _ loc b gen' = none
    unfold setMu
    rw [if_neg (by omega)]
    exact m2 _ (by omega)
  · obtain ⟨k1, y, k2, k3⟩ := hcs i v j c hv hj
    refine ⟨k1, y, ?_, k3.ext s.own t.ext t.mono⟩
    rw [World.cell?_alloc_new, Nat.zero_add]
    exact k2
  · show ownAt g.own w.heap.size (fun o => if o < cap * sz then .blk loc b else .no) w.heap.size (0 + o) = .blk loc b
    rw [ownAt_new, Nat.zero_add, if_pos ho]
  · simp only at ho
    refine ⟨cs[o]'(by omega), ?_⟩
    rw [World.cell?_alloc_new, Nat.zero_add]
    exact Array.getElem?_eq_getElem _
  · exact World.frozen?_alloc_new w cs el _

/-- a row of the next generation, where it was -/
theorem sim_regen {L G L' G' : Hp} (s : Sim g w L G) {loc : Bool} {b gen : Nat} {es es' : List AV} {l : Loc} (hb : (hpOf loc L G)[b]? = some (.row gen es)) (m1 : g.mu loc b gen = some l) (m2 : ∀ gen', gen < gen' → g.mu loc b gen' = none)
    (t : Step g w g w' loc b) (hr : RowOk g w' loc b l es') (hno : loc = false → noLs es' = true) (e : setHp loc b (.row (gen + 1) es') L G = (L', G')) :
    ∃ g', Sim g' w' L' G' ∧ Ext g w g' w' ∧ Mono g g' ∧ g'.mu loc b (gen + 1) = some l := by
  let g' : Gh := ⟨g.own, setMu g.mu loc b (gen + 1) l, g.mp, g.tk⟩
  have hmono : ∀ l' b' gen' l0, g.mu l' b' gen' = some l0 → setMu g.mu loc b (gen + 1) l l' b' gen' = some l0 := fun l' b' gen' l0 h => by
    unfold setMu
    rw [if_neg fun ⟨e1, e2, e3⟩ => by subst e1; subst e2; subst e3; rw [m2 _ (by omega)] at h; cases h]
    exact h
  have t' : Step g w g' w' loc b :=
    ⟨⟨t.ext.size, t.ext.os, t.ext.tape, t.ext.output, t.ext.keep, t.ext.blk, fun _ _ _ h => hmono _ _ _ _ h, t.ext.gmp, t.ext.gtk⟩, ⟨fun _ _ _ h => hmono _ _ _ _ h, t.mono.mp, t.mono.tk⟩, t.own,
      fun l' b' hne => ⟨fun gen => if_neg fun ⟨a, b, _⟩ => hne ⟨a, b⟩, rfl, rfl⟩, t.cells⟩
  have hmu : g'.mu loc b (gen + 1) = some l := if_pos ⟨rfl, rfl, rfl⟩
  have hR : ∀ v y, Rep g w' v y → Rep g' w' v y := fun v y h => Rep.keeps (g := g) (w := w') (g' := g') (w' := w') (Q := fun _ _ => true) ⟨fun _ _ h => ⟨h, fun _ h => h⟩, fun _ _ _ _ _ h => hmono _ _ _ _ h, fun _ _ _ _ h => h, fun _ _ _ I h => ⟨I, h, .inl rfl⟩⟩ h (refs_true v)
  refine ⟨g', s.upd (upd_set hb e) t' ⟨l, hmu, fun gen' hg => ?_, hr.sz, hr.len, hr.size, fun i v j c hv hj => ?_, hr.own⟩ (fun e => hno e), t'.ext, t'.mono, hmu⟩
  · show setMu g.mu loc b (gen + 1) _ loc b gen' = none
    unfold setMu
    rw [if_neg (by omega)]
    exact m2 _ (by omega)
  · obtain ⟨k1, y, k2, k3⟩ := hr.cell i v j c hv hj
    exact ⟨k1, y, k2, hR _ _ k3⟩

theorem append_sound {A : Ann} {f d : Nat} {el t t' ty : TypeId} {slot : Option Nat} {sv x v : AV} {xs : List AV} {S X : Value} {L G L' G' : Hp} {dt : TypeDesc}
    (s : Sim g w L G) (hslot : ∀ k, slot = some k → L[k]? = some .dead) (hs : Rep g w sv S) (hx : Rep g w x X) (hel : elemsOf L G x = some xs) (hu : P.underlying t = some (.slice el))
    (hu' : P.underlying t' = some dt) (hd : ∀ q, dt ≠ .int q) (h : appendA P A f d el slot sv xs L G = some (v, L', G')) :
    ∃ V g' w', (Builtin.append_ #[t, t'] ty #[S, X]).run P w = .ok V w' ∧ Rep g' w' v V ∧ Sim g' w' L' G' ∧ Ext g w g' w' ∧ Mono g g' := by
  unfold appendA at h
  simp only at h
  split at h
  · cases h
  rename_i hc
  simp only [not_or, Classical.not_not, ne_eq] at hc
  obtain ⟨c1, c2, c3, c4, c5, c6⟩ := hc
  have ho : ElOk P el := elOk_of c1 c2 c5 c6
  have c3' : szOk P el xs = true := by cases hh : szOk P el xs with | true => rfl | false => exact absurd hh c3
  have hlenx : (handX xs).length = xs.length := handX_len (g := g) (w := w) xs
  have src := src_of (P := P) s hx hel c3'
  obtain ⟨newc, n1, n2, n3⟩ := src.cells
  obtain ⟨hd1, hd2⟩ := handedX src.size n3
  have srcd := src_of (P := P) s.drew hx.drew hel c3'
  obtain ⟨newd, d1, d2, d3⟩ := srcd.cells
  obtain ⟨hdd1, hdd2⟩ := handedX srcd.size d3
  have hsz : 0 < szT P el := Nat.pos_of_ne_zero c1
  -- a slice that must be made anew
  have grow : ∀ {a : Option Addr} {cap : Nat} {es : List AV} (sv' : AV), S = .slice a es.length cap → Rep g w sv' S → elemsOf L G sv' = some es → szOk P el es = true → cap < es.length + xs.length → (es.length + xs.length) * P.bytesOf el ≤ mostBytes →
      ∃ (newCap : Nat) (cs : Array Value), es.length + xs.length ≤ newCap ∧ newCap * szT P el = cs.size ∧
        (∀ (i : Nat) v, (es ++ handX xs)[i]? = some v → v.cells.length = szT P el) ∧
        (∀ (i : Nat) v j c, (es ++ handX xs)[i]? = some v → v.cells[j]? = some c → c.isCell = true ∧ ∃ y, cs[i * szT P el + j]? = some y ∧ Rep g w.drew c y) ∧
        (Builtin.append_ #[t, t'] ty #[S, X]).run P w = .ok (.slice (some ⟨w.heap.size, 0, none⟩) (es.length + xs.length) newCap) (w.drew.alloc (.cells cs el)) := by
    intro a cap es sv' hS hr he hok hcap hbd
    have so := src_of (P := P) s.drew hr.drew he hok
    obtain ⟨oldc, o1, o2, o3⟩ := so.cells
    subst hS
    obtain ⟨newCap, rest, r1, r2, r3⟩ := run_append_grow (P := P) (w := w) (ty := ty) hu hu' hd ho src.len o1 d1 hcap hbd
    obtain ⟨q1, q2⟩ := grown_cells (B := 0) (base := 0) (rest := rest) rfl hlenx so.size hdd1 o2 o3 d2 hdd2 rfl rfl
    refine ⟨newCap, oldc ++ newd ++ rest, r1, ?_, q1, q2, r3⟩
    simp only [Array.size_append, o2, d2, r2]
    rw [← Nat.add_mul, ← Nat.add_mul]
    congr 1
    omega
  cases sv with
  | sl es tk =>
    have hS : ∃ a cap, S = .slice a es.length cap ∧ es.length ≤ cap := by cases hs with | sl _ _ a cap _ _ _ _ hc => exact ⟨a, cap, rfl, hc⟩
    obtain ⟨a, cap, hS, hcap⟩ := hS
    simp only [lenS] at c4
    simp only at h
    by_cases hx0 : (handX xs).length = 0
    · rw [if_pos hx0] at h
      cases h
      rw [hlenx] at hx0
      rw [hx0] at n1 n2
      have hl0 := src.len
      rw [hx0] at hl0
      subst hS
      exact ⟨_, g, w, run_append_nil hu hu' hd c1 hl0 n1 (by rw [n2]; simp) hcap, hs, s, Ext.refl g w, Mono.refl g⟩
    · rw [if_neg hx0] at h
      rw [hlenx] at hx0
      cases tk with
      | no => cases h
      | full =>
        simp only at h
        split at h
        · cases h
        rename_i hok
        have hok' : szOk P el es = true := by cases hh : szOk P el es with | true => rfl | false => exact absurd hh hok
        have hfull : cap = es.length := by
          subst hS
          cases hs with | sl _ _ _ _ _ _ _ _ _ ht => exact ht
        obtain ⟨newCap, cs, r1, r2, r3, r4, r5⟩ := grow _ hS hs rfl hok' (by omega) (by omega)
        by_cases hrows : A.rows f d = true
        · rw [if_pos hrows] at h
          split at h
          · rename_i hno
            cases hnb : newBlk (!A.glob f d) slot (.row 0 (es ++ handX xs)) L G with
            | mk b LG =>
              obtain ⟨L1, G1⟩ := LG
              rw [hnb] at h
              cases h
              obtain ⟨f1, f2⟩ := newBlk_spec s.drew hslot hnb
              obtain ⟨g', k1, k2, k3, k4⟩ := sim_row (el := el) s.drew hsz r3 (fun hl => by rcases hno with h | h; (rw [h] at hl; cases hl); exact h) f1 f2 cs r2 (by rw [List.length_append, hlenx]; exact r1) r4
              refine ⟨_, g', _, r5, ?_, k1, (Ext.drew g w).trans k2, k3⟩
              have := Rep.hs (g := g') (w := w.drew.alloc (.cells cs el)) (!A.glob f d) b 0 0 (es.length + xs.length) _ k4 (by simpa using r1)
              simpa [hlenx] using this
          · cases h
        · rw [if_neg hrows] at h
          cases hnb : newBlk (!A.glob f d) slot (.tok (es.length + (handX xs).length) (szT P el)) L G with
          | mk b LG =>
            obtain ⟨L1, G1⟩ := LG
            rw [hnb] at h
            cases h
            obtain ⟨f1, f2⟩ := newBlk_spec s.drew hslot hnb
            have hlen : (es ++ handX xs).length = es.length + (handX xs).length := by simp
            rw [← hlen] at f2
            obtain ⟨g', k1, k2, k3, k4⟩ := sim_tok (el := el) s.drew hsz (by rw [hlen, hlenx]; omega) r3 (fun I hI => by rw [f1.2.2] at hI; cases hI) f2 cs r2 (by rw [hlen, hlenx]; exact r1) r4
            refine ⟨_, g', _, r5, ?_, k1, (Ext.drew g w).trans k2, k3⟩
            rw [hlen, hlenx] at k4
            exact k4
      | own loc b =>
        simp only at h
        cases hb : (hpOf loc L G)[b]? with
        | none => rw [hb] at h; cases h
        | some blk =>
          rw [hb] at h
          cases blk with
          | tok n sz' =>
            simp only at h
            split at h
            · rename_i hn
              obtain ⟨rfl, rfl⟩ := hn
              cases hst : setHp loc b (.tok (es.length + (handX xs).length) (szT P el)) L G with
              | mk L1 G1 =>
                rw [hst] at h
                cases h
                subst hS
                by_cases hfit : es.length + xs.length ≤ cap
                · obtain ⟨B, o, g', e1, e2, e3, e4, e5, e6⟩ := sim_tok_fits (P := P) s hb hs (by rw [hlenx]; exact hfit) (by omega) hsz (by rw [hlenx]; exact n2) hd1 hd2 hst
                  subst e1
                  rw [hlenx] at e6
                  exact ⟨_, g', _, run_append_fits hu hu' hd c1 src.len n1 hfit e2, e6, e3, e4, e5⟩
                · obtain ⟨I, i1, i2, i3, i4, i5, i6, i7⟩ := hpOf_blk s.drew hb
                  have hne : es ≠ [] := fun e => by rw [e] at i5; simp at i5
                  have hok' : szOk P el es = true := by
                    cases es with
                    | nil => rfl
                    | cons u r =>
                      cases hs with
                      | sl _ _ _ _ B0 b0 sz0 y hc ht ha h0 h1 h2 =>
                        obtain ⟨J, j1, _, _, j4, _⟩ := ht
                        rw [i1] at j1
                        cases j1
                        simp only [szOk, beq_iff_eq]
                        rw [h0 0 u rfl, ← j4, i3]
                  obtain ⟨newCap, cs, r1, r2, r3, r4, r5⟩ := grow _ rfl hs rfl hok' (by omega) (by omega)
                  have hlen : (es ++ handX xs).length = es.length + (handX xs).length := by simp
                  have hu1 := upd_set hb hst
                  rw [← hlen] at hu1
                  obtain ⟨g', k1, k2, k3, k4⟩ := sim_tok (el := el) s.drew hsz (by rw [hlen, hlenx]; omega) r3 (fun J hJ => by rw [i1] at hJ; cases hJ; rw [hlen, hlenx]; exact ⟨by omega, i3⟩) hu1 cs r2 (by rw [hlen, hlenx]; exact r1) r4
                  refine ⟨_, g', _, r5, ?_, k1, (Ext.drew g w).trans k2, k3⟩
                  rw [hlen, hlenx] at k4
                  exact k4
            · cases h
          | _ => cases h
  | hs loc b gen off len =>
    simp only [lenS] at c4
    simp only at h
    cases hb : (hpOf loc L G)[b]? with
    | none => rw [hb] at h; cases h
    | some blk =>
      rw [hb] at h
      cases blk with
      | row g' es =>
        simp only at h
        split at h
        · cases h
        rename_i hq
        simp only [not_or, Classical.not_not, ne_eq] at hq
        obtain ⟨rfl, q2, q3, q4⟩ := hq
        have hok' : szOk P el es = true := by cases hh : szOk P el es with | true => rfl | false => exact absurd hh q3
        obtain ⟨l, m1, m2, m3⟩ := hpOf_blk s hb
        have hlsz : l.sz = szT P el := by
          cases es with
          | nil => simp at q2
          | cons u r => rw [← m3.size 0 u rfl]; simpa [szOk] using hok'
        have hnox : loc = false → noLs (handX xs) = true := fun e => by
          cases hh : noLs (handX xs) with
          | true => rfl
          | false => exact absurd ⟨e, hh⟩ q4
        have hnoe : loc = false → noLs es = true := fun e => by subst e; exact s.g.noL b _ hb
        cases hs with
        | hs _ _ _ _ _ l' m1' hl =>
          rw [m1] at m1'
          cases m1'
          by_cases hin : off + len + (handX xs).length ≤ es.length
          · rw [if_pos hin] at h
            cases hst : setHp loc b (.row g' (es.take (off + len) ++ handX xs ++ es.drop (off + len + (handX xs).length))) L G with
            | mk L1 G1 =>
              rw [hst] at h
              cases h
              have hlen := m3.len
              rw [hlenx] at hin
              obtain ⟨e1, e2, e3⟩ := row_splice (P := P) s m3 (p := off + len) (xs := handX xs) (newc := newc) (by omega) (by rw [hlenx]; omega) (by rw [hlenx, hlsz]; exact n2) (by rw [hlsz]; exact hd1) (by rw [hlsz]; exact hd2)
              have e1' := e1
              rw [show l.base + (off + len) * l.sz = l.base + off * l.sz + len * szT P el by rw [← hlsz, Nat.add_mul]; omega] at e1'
              refine ⟨_, g, _, run_append_fits (ty := ty) hu hu' hd c1 src.len n1 (by omega) e1', ?_, ?_, ?_, Mono.refl g⟩
              · have := Rep.hs (g := g) (w := w.setCells l.B (l.base + off * l.sz + len * szT P el) newc.toList) loc b g' off (len + xs.length) l m1 (by omega)
                rw [hlenx]
                exact this
              · rw [show l.base + off * l.sz + len * szT P el = l.base + (off + len) * l.sz by rw [← hlsz, Nat.add_mul]; omega]
                refine s.upd (upd_set hb hst) e2 ⟨l, m1, m2, e3⟩ fun e => ?_
                refine refss_of fun u hu => ?_
                rcases List.mem_append.1 hu with h2 | h2
                · rcases List.mem_append.1 h2 with h3 | h3
                  · exact refss_mem (hnoe e) (List.mem_of_mem_take h3)
                  · exact refss_mem (hnox e) h3
                · exact refss_mem (hnoe e) (List.mem_of_mem_drop h2)
              · rw [show l.base + off * l.sz + len * szT P el = l.base + (off + len) * l.sz by rw [← hlsz, Nat.add_mul]; omega]
                exact e2.ext
          · rw [if_neg hin] at h
            split at h
            · rename_i ho2
              obtain ⟨rfl, rfl⟩ := ho2
              have hno' : loc = false → noLs (es ++ handX xs) = true := fun e => by
                unfold noLs
                rw [refss_append]
                have h1 := hnoe e
                have h2 := hnox e
                unfold noLs at h1 h2
                rw [h1, h2]; rfl
              cases hst : setHp loc b (.row (g' + 1) (es ++ handX xs)) L G with
              | mk L1 G1 =>
                rw [hst] at h
                cases h
                rw [hlenx] at hin
                by_cases hfit : es.length + xs.length ≤ l.cap
                · obtain ⟨e1, e2, e3⟩ := row_splice (P := P) s m3 (p := es.length) (xs := handX xs) (newc := newc) (Nat.le_refl _) (by rw [hlenx]; exact hfit) (by rw [hlenx, hlsz]; exact n2) (by rw [hlsz]; exact hd1) (by rw [hlsz]; exact hd2)
                  rw [List.take_length, List.drop_of_length_le (by omega), List.append_nil] at e3
                  obtain ⟨g2, k1, k2, k3, k4⟩ := sim_regen s hb m1 m2 e2 e3 hno' hst
                  have e1' := e1
                  rw [show l.base + es.length * l.sz = l.base + 0 * l.sz + es.length * szT P el by rw [← hlsz]; omega] at e1'
                  refine ⟨_, g2, _, run_append_fits (ty := ty) hu hu' hd c1 src.len n1 (by omega) e1', ?_, ?_, ?_, k3⟩
                  · have := Rep.hs (g := g2) (w := w.setCells l.B (l.base + 0 * l.sz + es.length * szT P el) newc.toList) loc b (g' + 1) 0 (es.length + xs.length) l k4 (by omega)
                    rw [hlenx]
                    exact this
                  · rw [show l.base + 0 * l.sz + es.length * szT P el = l.base + es.length * l.sz by rw [← hlsz]; omega]; exact k1
                  · rw [show l.base + 0 * l.sz + es.length * szT P el = l.base + es.length * l.sz by rw [← hlsz]; omega]; exact k2
                · have hrep : Rep g w (.hs loc b g' 0 es.length) (.slice (some ⟨l.B, l.base + 0 * l.sz, none⟩) es.length (l.cap - 0)) := .hs loc b g' 0 es.length l m1 hl
                  have hels : elemsOf L G (.hs loc b g' 0 es.length) = some es := by
                    simp only [elemsOf, hb]
                    rw [if_pos ⟨trivial, by omega⟩]
                    simp
                  obtain ⟨newCap, cs, r1, r2, r3, r4, r5⟩ := grow _ rfl hrep hels hok' (by omega) (by omega)
                  obtain ⟨g2, k1, k2, k3, k4⟩ := sim_regrow (el := el) s.drew hb hsz r3 hno' hst cs r2 (by rw [List.length_append, hlenx]; exact r1) r4
                  refine ⟨_, g2, _, r5, ?_, k1, (Ext.drew g w).trans k2, k3⟩
                  have := Rep.hs (g := g2) (w := w.drew.alloc (.cells cs el)) loc b (g' + 1) 0 (es.length + xs.length) _ k4 (by simpa using r1)
                  simpa [hlenx] using this
            · cases h
      | _ => cases h
  | _ => cases h
end
end Ev
