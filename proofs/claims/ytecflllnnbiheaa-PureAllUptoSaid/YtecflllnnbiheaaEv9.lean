/- Other ghosts: what a callee sees, what a frame leaves behind. -/
import Derived.Test.YtecflllnnbiheaaEv8
set_option maxHeartbeats 4000000
set_option linter.unusedVariables false
set_option linter.unusedSimpArgs false
namespace Ev
open Go
section
variable {P : Program} {g g' : Gh} {w w' : World}

/-- of these blocks alone -/
def Blk.refs (Q : Bool → Nat → Bool) : Blk → Bool
  | .row _ es => refss Q es
  | .map kvs => refss Q (kvs.map Prod.snd)
  | _ => true
theorem key_refs {Q : Bool → Nat → Bool} {k : AV} (h : k.isKey = true) : k.refs Q = true := by cases k <;> simp_all [AV.isKey, AV.refs]

theorem BlkOk.keepsQ {Q : Bool → Nat → Bool} {loc : Bool} {b : Nat} {x : Blk} (h : BlkOk g w loc b x) (hx : x.refs Q = true) (hR : ∀ v y, v.refs Q = true → Rep g w v y → Rep g' w' v y)
    (hc : ∀ B o, g.own B o = .blk loc b → g'.own B o = .blk loc b ∧ w'.cell? ⟨B, o, none⟩ = w.cell? ⟨B, o, none⟩ ∧ w'.frozen? ⟨B, o, none⟩ = w.frozen? ⟨B, o, none⟩)
    (hm : ∀ B, (∀ o, g.own B o = .blk loc b) → w'.heap[B]? = w.heap[B]?)
    (hmu : ∀ gen, g'.mu loc b gen = g.mu loc b gen) (hmp : g'.mp loc b = g.mp loc b) (htk : g'.tk loc b = g.tk loc b) : BlkOk g' w' loc b x := by
  cases x with
  | dead => exact ⟨fun gen => by rw [hmu]; exact h.1 gen, by rw [hmp]; exact h.2.1, by rw [htk]; exact h.2.2⟩
  | row gen es =>
    obtain ⟨l, h1, h2, h3⟩ := h
    refine ⟨l, by rw [hmu]; exact h1, fun gen' hg => by rw [hmu]; exact h2 gen' hg, h3.sz, h3.len, h3.size, fun i v j c hv hj => ?_, fun o ho => ?_⟩
    · obtain ⟨a1, y, a2, a3⟩ := h3.cell i v j c hv hj
      refine ⟨a1, y, ?_, hR _ _ (refs_cells (refss_get hx hv) hj) a3⟩
      have hjl : j < l.sz := by rw [← h3.size i v hv]; exact (List.getElem?_eq_some_iff.1 hj).1
      have hh := hc _ _ (h3.own _ (row_lt h3 hv hjl)).1
      rw [← Nat.add_assoc] at hh
      rw [hh.2.1]; exact a2
    · obtain ⟨a1, a2, a3⟩ := h3.own o ho
      obtain ⟨b1, b2, b3⟩ := hc _ _ a1
      exact ⟨b1, by rw [b2]; exact a2, by rw [b3]; exact a3⟩
  | tok n sz =>
    obtain ⟨I, h1, h2, h3, h4, h5, h6, h7⟩ := h
    refine ⟨I, by rw [htk]; exact h1, h2, h3, h4, h5, h6, fun o o1 o2 => ?_⟩
    obtain ⟨a1, a2, a3⟩ := h7 o o1 o2
    obtain ⟨b1, b2, b3⟩ := hc _ _ a1
    exact ⟨b1, by rw [b2]; exact a2, by rw [b3]; exact a3⟩
  | map kvs =>
    obtain ⟨B, es, clk, h1, h2, h3, h4, h5⟩ := h
    refine ⟨B, es, clk, by rw [hmp]; exact h1, by rw [hm B h3]; exact h2, fun o => (hc _ _ (h3 o)).1, h4, fun i k v e hk he => ?_⟩
    obtain ⟨q1, q2, q3⟩ := h5 i k v e hk he
    refine ⟨q1, hR _ _ (key_refs q1) q2, hR _ _ ?_ q3⟩
    exact refss_mem hx (List.mem_map.2 ⟨_, List.mem_of_getElem? hk, rfl⟩)

theorem noL_refs {x : Blk} (h : x.noL = true) : x.refs (fun loc _ => !loc) = true := by cases x <;> first | rfl | exact h
theorem blk_refs_true (x : Blk) : x.refs (fun _ _ => true) = true := by cases x <;> first | rfl | exact refss_true _

/-! ### a callee that sees the heap -/
def Own.hideL : Own → Own
  | .blk true _ => .no
  | x => x
/-- the ghost of a callee: the frame's own blocks are nobody's -/
def Gh.see (g : Gh) : Gh := ⟨fun B o => (g.own B o).hideL, fun loc b gen => if loc then none else g.mu false b gen, fun loc b => if loc then none else g.mp false b, fun loc b => if loc then none else g.tk false b⟩
theorem hide_prot {x : Own} (h : x = .prot) : x.hideL = .prot := by subst h; rfl
theorem hide_glob {x : Own} {b : Nat} (h : x = .blk false b) : x.hideL = .blk false b := by subst h; rfl
theorem keeps_see : Keeps g w g.see w (fun loc _ => !loc) where
  prot := fun B o h => ⟨hide_prot h, fun x hx => hx⟩
  mu := fun loc b hl gen l h => by cases loc with
    | true => cases hl
    | false => exact h
  mp := fun loc b hl B h => by cases loc with
    | true => cases hl
    | false => exact h
  tk := fun loc b hl I h => by cases loc with
    | true => cases hl
    | false => exact ⟨I, h, .inl rfl⟩
theorem sim_see {L G : Hp} (s : Sim g w L G) : Sim g.see w [] G := by
  refine ⟨⟨fun b x h => by simp at h, fun b _ => ⟨fun _ => rfl, rfl, rfl⟩⟩, ⟨⟨fun b x h => ?_, fun b h => ?_⟩, s.g.noL, fun B o h => by show (g.own B o).hideL = _; rw [s.own B o h]; rfl⟩⟩
  · refine (s.g.hp.blk b x h).keepsQ (noL_refs (s.g.noL b x h)) (fun v y hv hr => hr.keeps keeps_see hv) (fun B o ho => ⟨hide_glob ho, rfl, rfl⟩) (fun B _ => rfl) (fun gen => rfl) rfl rfl
  · exact s.g.hp.new b h
/-- the caller's ghost, behind the callee's end -/
def Gh.back (g g' : Gh) : Gh := ⟨fun B o => match g.own B o with | .blk true b => .blk true b | _ => g'.own B o, fun loc b gen => if loc then g.mu true b gen else g'.mu false b gen, fun loc b => if loc then g.mp true b else g'.mp false b, fun loc b => if loc then g.tk true b else g'.tk false b⟩
theorem back_loc {B o b : Nat} (h : g.own B o = .blk true b) : (g.back g').own B o = .blk true b := by simp [Gh.back, h]
theorem back_oth {B o : Nat} (h : ∀ b, g.own B o ≠ .blk true b) : (g.back g').own B o = g'.own B o := by
  simp only [Gh.back]
theorem back_see (e : Ext g.see w g' w') : Ext g w (g.back g') w' where
  size := e.size
  os := e.os
  tape := e.tape
  output := e.output
  keep := fun B o hB h => by
    have hne : ∀ b, g.own B o ≠ .blk true b := fun b hb => by rw [hb] at h; rcases h with h | h <;> cases h
    have hs : g.see.own B o = g.own B o := by show (g.own B o).hideL = _; rcases h with h | h <;> rw [h] <;> rfl
    obtain ⟨k1, k2, k3⟩ := e.keep B o hB (by rw [hs]; exact h)
    exact ⟨by rw [back_oth hne, k1, hs], k2, k3⟩
  blk := fun B hB h => e.blk B hB fun o => by
    show (g.own B o).hideL = .prot ∨ (g.own B o).hideL = .no
    rcases h o with h | h <;> rw [h]
    · exact .inl rfl
    · exact .inr rfl
  gmu := fun b gen l h => e.gmu b gen l h
  gmp := fun b B h => e.gmp b B h
  gtk := fun b I h => e.gtk b I h
theorem back_mono : Mono g (g.back g') := ⟨fun _ _ _ h => h, fun _ _ h => h, fun _ I h => ⟨I, h, .inl rfl⟩⟩
/-- what was hidden is as it was -/
theorem hid_keep (hown : ∀ B o, w.heap.size ≤ B → g.own B o = .no) (e : Ext g.see w g' w') {B o b : Nat} (h : g.own B o = .blk true b) :
    B < w.heap.size ∧ g'.own B o = .no ∧ w'.cell? ⟨B, o, none⟩ = w.cell? ⟨B, o, none⟩ ∧ w'.frozen? ⟨B, o, none⟩ = w.frozen? ⟨B, o, none⟩ := by
  have hB : B < w.heap.size := by
    rcases Nat.lt_or_ge B w.heap.size with h' | h'
    · exact h'
    · rw [hown B o h'] at h; cases h
  have hs : g.see.own B o = .no := by show (g.own B o).hideL = _; rw [h]; rfl
  obtain ⟨k1, k2, k3⟩ := e.keep B o hB (.inr hs)
  exact ⟨hB, by rw [k1, hs], k2, k3⟩
theorem back_of {B o : Nat} (hown : ∀ B o, w.heap.size ≤ B → g.own B o = .no) (e : Ext g.see w g' w') (h : g'.own B o ≠ .no) : (g.back g').own B o = g'.own B o :=
  back_oth fun b hb => h (hid_keep hown e hb).2.1
theorem keeps_back (hown : ∀ B o, w.heap.size ≤ B → g.own B o = .no) (e : Ext g.see w g' w') : Keeps g' w' (g.back g') w' (fun loc _ => !loc) where
  prot := fun B o h => ⟨by rw [back_of hown e (by rw [h]; simp)]; exact h, fun x hx => hx⟩
  mu := fun loc b hl gen l h => by cases loc with
    | true => cases hl
    | false => exact h
  mp := fun loc b hl B h => by cases loc with
    | true => cases hl
    | false => exact h
  tk := fun loc b hl I h => by cases loc with
    | true => cases hl
    | false => exact ⟨I, h, .inl rfl⟩
theorem sim_back {L G G' : Hp} (s : Sim g w L G) (e : Ext g.see w g' w') (s' : Sim g' w' [] G') : Sim (g.back g') w' L G' := by
  have hext := back_see e
  refine ⟨⟨fun b x h => ?_, fun b h => s.l.new b h⟩, ⟨⟨fun b x h => ?_, fun b h => s'.g.hp.new b h⟩, s'.g.noL, fun B o h => ?_⟩⟩
  · refine (s.l.blk b x h).keepsQ (blk_refs_true x) (fun v y _ hr => hr.ext s.own hext back_mono) (fun B o ho => ?_) (fun B ho => ?_) (fun _ => rfl) rfl rfl
    · obtain ⟨_, _, k2, k3⟩ := hid_keep s.own e ho
      exact ⟨back_loc ho, k2, k3⟩
    · have hB := (hid_keep s.own e (ho 0)).1
      exact e.blk B hB fun o => .inr (by show (g.own B o).hideL = _; rw [ho o]; rfl)
  · exact (s'.g.hp.blk b x h).keepsQ (noL_refs (s'.g.noL b x h)) (fun v y hv hr => hr.keeps (keeps_back s.own e) hv)
      (fun B o ho => ⟨by rw [back_of s.own e (by rw [ho]; simp)]; exact ho, rfl, rfl⟩) (fun B _ => rfl) (fun _ => rfl) rfl rfl
  · have h0 : g.own B o = .no := s.own B o (Nat.le_trans e.size h)
    rw [back_oth (fun b hb => by rw [h0] at hb; cases hb)]
    exact s'.own B o h

/-! ### a callee that sees none -/
def Own.hideA : Own → Own
  | .prot => .prot
  | _ => .no
def Gh.none (g : Gh) : Gh := ⟨fun B o => (g.own B o).hideA, fun _ _ _ => .none, fun _ _ => .none, fun _ _ => .none⟩
theorem keeps_none : Keeps g w g.none w (fun _ _ => false) where
  prot := fun B o h => ⟨by show (g.own B o).hideA = _; rw [h]; rfl, fun x hx => hx⟩
  mu := fun _ _ h => by cases h
  mp := fun _ _ h => by cases h
  tk := fun _ _ h => by cases h
theorem sim_nil (hm : ∀ loc b gen, g.mu loc b gen = .none) (hp : ∀ loc b, g.mp loc b = .none) (ht : ∀ loc b, g.tk loc b = .none) (hown : ∀ B o, w.heap.size ≤ B → g.own B o = .no) : Sim g w [] [] :=
  ⟨⟨fun b x h => by simp at h, fun b _ => ⟨fun _ => hm _ _ _, hp _ _, ht _ _⟩⟩, ⟨⟨fun b x h => by simp at h, fun b _ => ⟨fun _ => hm _ _ _, hp _ _, ht _ _⟩⟩, fun b x h => by simp at h, hown⟩⟩
theorem sim_none {L G : Hp} (s : Sim g w L G) : Sim g.none w [] [] :=
  sim_nil (fun _ _ _ => rfl) (fun _ _ => rfl) (fun _ _ => rfl) fun B o h => by show (g.own B o).hideA = _; rw [s.own B o h]; rfl
/-- the caller's ghost, behind the end of a callee that saw none of its blocks -/
def Gh.over (g g' : Gh) : Gh := ⟨fun B o => match g.own B o with | .blk loc b => .blk loc b | _ => g'.own B o, g.mu, g.mp, g.tk⟩
theorem over_blk {B o b : Nat} {loc : Bool} (h : g.own B o = .blk loc b) : (g.over g').own B o = .blk loc b := by simp [Gh.over, h]
theorem over_oth {B o : Nat} (h : ∀ loc b, g.own B o ≠ .blk loc b) : (g.over g').own B o = g'.own B o := by
  simp only [Gh.over]
theorem over_ext {g0 : Gh} (hi : ∀ B o, (g.own B o = .prot → g0.own B o = .prot) ∧ (g.own B o = .no → g0.own B o = .no)) (hb : ∀ B o loc b, g.own B o = .blk loc b → g0.own B o = .no ∨ g0.own B o = .prot) (e : Ext g0 w g' w') :
    Ext g w (g.over g') w' ∧ Mono g (g.over g') where
  left := by
    refine ⟨e.size, e.os, e.tape, e.output, fun B o hB h => ?_, fun B hB h => ?_, fun _ _ _ h => h, fun _ _ h => h, fun _ I h => ⟨I, h, .inl rfl⟩⟩
    · have hne : ∀ loc b, g.own B o ≠ .blk loc b := fun loc b hb => by rw [hb] at h; rcases h with h | h <;> cases h
      rcases h with h | h
      · obtain ⟨k1, k2, k3⟩ := e.keep B o hB (.inl ((hi B o).1 h))
        exact ⟨by rw [over_oth hne, k1, h, (hi B o).1 h], k2, k3⟩
      · obtain ⟨k1, k2, k3⟩ := e.keep B o hB (.inr ((hi B o).2 h))
        exact ⟨by rw [over_oth hne, k1, h, (hi B o).2 h], k2, k3⟩
    · exact e.blk B hB fun o => by
        rcases h o with h | h
        · exact .inl ((hi B o).1 h)
        · exact .inr ((hi B o).2 h)
  right := ⟨fun _ _ _ h => h, fun _ _ h => h, fun _ I h => ⟨I, h, .inl rfl⟩⟩
theorem sim_over {g0 : Gh} {L G : Hp} (s : Sim g w L G) (hi : ∀ B o, (g.own B o = .prot → g0.own B o = .prot) ∧ (g.own B o = .no → g0.own B o = .no)) (hb : ∀ B o loc b, g.own B o = .blk loc b → g0.own B o = .no ∨ g0.own B o = .prot)
    (e : Ext g0 w g' w') (hown : ∀ B o, w'.heap.size ≤ B → g'.own B o = .no) : Sim (g.over g') w' L G := by
  obtain ⟨x1, x2⟩ := over_ext hi hb e
  have key : ∀ (loc : Bool) (b : Nat) y, BlkOk g w loc b y → BlkOk (g.over g') w' loc b y := fun loc b y h => by
    refine h.keepsQ (blk_refs_true y) (fun v y _ hr => hr.ext s.own x1 x2) (fun B o ho => ?_) (fun B ho => ?_) (fun _ => rfl) rfl rfl
    · have hB : B < w.heap.size := by
        rcases Nat.lt_or_ge B w.heap.size with h' | h'
        · exact h'
        · rw [s.own B o h'] at ho; cases ho
      obtain ⟨_, k2, k3⟩ := e.keep B o hB ((hb B o loc b ho).symm)
      exact ⟨over_blk ho, k2, k3⟩
    · have hB : B < w.heap.size := by
        rcases Nat.lt_or_ge B w.heap.size with h' | h'
        · exact h'
        · have := ho 0; rw [s.own B 0 h'] at this; cases this
      exact e.blk B hB fun o => (hb B o loc b (ho o)).symm
  refine ⟨⟨fun b x h => key true b x (s.l.blk b x h), s.l.new⟩, ⟨⟨fun b x h => key false b x (s.g.hp.blk b x h), s.g.hp.new⟩, s.g.noL, fun B o h => ?_⟩⟩
  have h0 : g.own B o = .no := s.own B o (Nat.le_trans e.size h)
  rw [over_oth (fun loc b hb => by rw [h0] at hb; cases hb)]
  exact hown B o h

/-! ### what is left behind -/
/-- cells that now never change: of the frame's own heap, or of both -/
structure Left (both : Bool) (g g' : Gh) : Prop where
  prot : ∀ B o, g.own B o = .prot → g'.own B o = .prot
  blk : ∀ B o loc b, g.own B o = .blk loc b → (loc || both) = true → g'.own B o = .prot
  mu : both = false → ∀ b gen l, g.mu false b gen = some l → g'.mu false b gen = some l
  mp : both = false → ∀ b B, g.mp false b = some B → g'.mp false b = some B
  tk : both = false → ∀ b I, g.tk false b = some I → g'.tk false b = some I
def qLeft (both : Bool) : Bool → Nat → Bool := fun loc _ => !loc && !both
theorem Left.keeps {both : Bool} (h : Left both g g') : Keeps g w g' w (qLeft both) where
  prot := fun B o hp => ⟨h.prot B o hp, fun x hx => hx⟩
  mu := fun loc b hl gen l hm => by
    unfold qLeft at hl
    cases loc <;> cases both <;> first | cases hl | skip
    exact h.mu rfl _ _ _ hm
  mp := fun loc b hl B hm => by
    unfold qLeft at hl
    cases loc <;> cases both <;> first | cases hl | skip
    exact h.mp rfl _ _ hm
  tk := fun loc b hl I hm => by
    unfold qLeft at hl
    cases loc <;> cases both <;> first | cases hl | skip
    exact ⟨I, h.tk rfl _ _ hm, .inl rfl⟩

theorem leave_row {both : Bool} (hl : Left both g g') {L G : Hp} (s : Sim g w L G) {loc : Bool} {b gen off len : Nat} {x : Value} (hr : Rep g w (.hs loc b gen off len) x) (hb : (loc || both) = true) {es : List AV}
    (he : elemsOf L G (.hs loc b gen off len) = some es) (fs : List AV) (hfl : fs.length = es.length)
    (hf : ∀ (i : Nat) (u v : AV), es[i]? = some u → fs[i]? = some v → v.cells.length = u.cells.length ∧ ∀ (j : Nat) (c q : AV), v.cells[j]? = some c → u.cells[j]? = some q → c.isCell = q.isCell ∧ ∀ y, Rep g w q y → Rep g' w c y) : Rep g' w (.sl fs .no) x := by
  cases hr with
  | hs _ _ _ _ _ l hm hlen =>
    unfold elemsOf at he
    cases hb' : (hpOf loc L G)[b]? with
    | none => simp only [hb'] at he; cases he
    | some blk =>
      simp only [hb'] at he
      cases blk with
      | row gen' rows =>
        simp only at he
        by_cases hg : gen' = gen ∧ off + len ≤ rows.length
        · rw [if_pos hg] at he
          obtain ⟨rfl, hle⟩ := hg
          cases he
          obtain ⟨l', m1, m2, m3⟩ := hpOf_blk s hb'
          rw [hm] at m1
          cases m1
          have hlen' : ((rows.drop off).take len).length = len := by rw [List.length_take, List.length_drop]; omega
          have hget : ∀ {i : Nat} {v : AV}, ((rows.drop off).take len)[i]? = some v → rows[off + i]? = some v := fun {i v} h => by
            rw [List.getElem?_take] at h
            split at h
            · rwa [List.getElem?_drop] at h
            · cases h
          have hcell : ∀ (i : Nat) v (j : Nat) c, ((rows.drop off).take len)[i]? = some v → v.cells[j]? = some c →
              c.isCell = true ∧ g.own l.B (l.base + off * l.sz + i * l.sz + j) = .blk loc b ∧ ∃ y, w.cell? ⟨l.B, l.base + off * l.sz + i * l.sz + j, none⟩ = some y ∧ Rep g w c y := fun i v j c hv hc => by
            obtain ⟨a1, y, a2, a3⟩ := m3.cell _ _ _ _ (hget hv) hc
            have hj : j < l.sz := by rw [← m3.size _ _ (hget hv)]; exact (List.getElem?_eq_some_iff.1 hc).1
            have ho := (m3.own _ (row_lt m3 (hget hv) hj)).1
            have e : l.base + off * l.sz + i * l.sz + j = l.base + (off + i) * l.sz + j := by rw [Nat.add_mul]; omega
            have e' : l.base + (off + i) * l.sz + j = l.base + ((off + i) * l.sz + j) := by omega
            rw [e]
            refine ⟨a1, by rw [e']; exact ho, y, a2, a3⟩
          have hlen2 : fs.length = len := by rw [hfl]; exact hlen'
          have hof : ∀ {i : Nat} {v : AV}, fs[i]? = some v → ∃ u, ((rows.drop off).take len)[i]? = some u := fun {i v} h => ⟨_, List.getElem?_eq_getElem (by rw [← hfl]; exact (List.getElem?_eq_some_iff.1 h).1)⟩
          have hcell2 : ∀ (i : Nat) v (j : Nat) c, fs[i]? = some v → v.cells[j]? = some c →
              c.isCell = true ∧ g.own l.B (l.base + off * l.sz + i * l.sz + j) = .blk loc b ∧ ∃ y, w.cell? ⟨l.B, l.base + off * l.sz + i * l.sz + j, none⟩ = some y ∧ Rep g' w c y := fun i v j c hv hc => by
            obtain ⟨u, h1⟩ := hof hv
            obtain ⟨f1, f2⟩ := hf i u v h1 hv
            obtain ⟨q, h2⟩ : ∃ q, u.cells[j]? = some q := ⟨_, List.getElem?_eq_getElem (by rw [← f1]; exact (List.getElem?_eq_some_iff.1 hc).1)⟩
            obtain ⟨a1, a2, y, a3, a4⟩ := hcell i u j q h1 h2
            obtain ⟨f3, f4⟩ := f2 j c q hc h2
            exact ⟨by rw [f3]; exact a1, a2, y, a3, f4 y a4⟩
          have := Rep.sl (g := g') (w := w) fs .no (some ⟨l.B, l.base + off * l.sz, none⟩) (l.cap - off) l.B (l.base + off * l.sz) l.sz
            (fun i j => (w.cell? ⟨l.B, l.base + off * l.sz + i * l.sz + j, none⟩).getD undef) (by omega) trivial (fun _ => ⟨rfl, m3.sz⟩) (fun i v hv => by
              obtain ⟨u, h1⟩ := hof hv
              rw [(hf i u v h1 hv).1]
              exact m3.size _ _ (hget h1))
            (fun i v j c hv hc => by
              obtain ⟨a1, a2, y, a3, _⟩ := hcell2 i v j c hv hc
              exact ⟨a1, hl.blk _ _ _ _ a2 hb, by rw [a3]; rfl⟩)
            (fun i v j c hv hc => by
              obtain ⟨a1, a2, y, a3, a4⟩ := hcell2 i v j c hv hc
              rw [a3]
              exact a4)
          rwa [hlen2] at this
        · rw [if_neg hg] at he; cases he
      | _ => cases he

theorem leave_hs {both : Bool} (hl : Left both g g') {L G : Hp} (s : Sim g w L G) {loc : Bool} {b gen off len : Nat} {x : Value} (hr : Rep g w (.hs loc b gen off len) x) (hb : (loc || both) = true) {es : List AV}
    (he : elemsOf L G (.hs loc b gen off len) = some es) (hq : refss (qLeft both) (handAs true es) = true) : Rep g' w (.sl (handAs true es) .no) x := by
  refine leave_row hl s hr hb he _ (handAs_len (g := g) (w := w) es) fun i u v hu hv => ?_
  obtain ⟨u', h1, rfl⟩ := handAs_get hv
  rw [hu] at h1
  cases h1
  refine ⟨by rw [handA_cells, handAs_len (g := g) (w := w)], fun j c q hc hq' => ?_⟩
  have hc' := hc
  rw [handA_cells] at hc'
  obtain ⟨q', h2, rfl⟩ := handAs_get hc'
  rw [hq'] at h2
  cases h2
  exact ⟨by rw [handA_isCell], fun y hy => (handA_rep hy).keeps hl.keeps (refs_cells (refss_get hq hv) hc)⟩
theorem unhs_isCell {F : List AV → List AV} {both : Bool} {L G : Hp} {q : AV} : (unhs F both L G q).isCell = q.isCell := by
  cases q with
  | hs loc b g1 off len =>
    simp only [unhs]
    by_cases h : (loc || both) = true
    · rw [if_pos h]
      cases elemsOf L G (.hs loc b g1 off len) <;> rfl
    · rw [if_neg h]
  | _ => simp only [unhs]; rw [handA_isCell]
theorem onCells_one {f : AV → AV} {v : AV} (h : ∀ cs, v ≠ .agg cs) : onCells f v = f v ∧ v.cells = [v] := by
  cases v <;> first | exact absurd rfl (h _) | exact ⟨rfl, rfl⟩
theorem unhs_one {F : List AV → List AV} {both : Bool} {L G : Hp} {v : AV} (h : ∀ cs, v ≠ .agg cs) : (unhs F both L G v).cells = [unhs F both L G v] := by
  cases v with
  | agg cs => exact absurd rfl (h _)
  | hs loc b g1 off len =>
    simp only [unhs]
    by_cases h : (loc || both) = true
    · rw [if_pos h]
      cases elemsOf L G (.hs loc b g1 off len) <;> rfl
    · rw [if_neg h]; rfl
  | _ => rfl
theorem leave_deep {both : Bool} (hl : Left both g g') {L G : Hp} (s : Sim g w L G) : ∀ (n : Nat) {loc : Bool} {b gen off len : Nat} {x : Value}, Rep g w (.hs loc b gen off len) x → (loc || both) = true → ∀ {es : List AV},
    elemsOf L G (.hs loc b gen off len) = some es → refss (qLeft both) (deepS both L G n es) = true → Rep g' w (.sl (deepS both L G n es) .no) x
  | 0, loc, b, gen, off, len, x, hr, hb, es, he, hq => by
    rw [deepS] at hq ⊢
    exact leave_hs hl s hr hb he hq
  | n + 1, loc, b, gen, off, len, x, hr, hb, es, he, hq => by
    rw [deepS] at hq ⊢
    split at hq
    · next hany =>
      rw [if_pos hany]
      have one : ∀ (q : AV) {y : Value}, (unhs (deepS both L G n) both L G q).refs (qLeft both) = true → Rep g w q y → Rep g' w (unhs (deepS both L G n) both L G q) y := fun q y hqv hy => by
        cases q with
        | hs loc1 b1 g1 off1 len1 =>
          simp only [unhs] at hqv ⊢
          by_cases hb1 : (loc1 || both) = true
          · rw [if_pos hb1] at hqv ⊢
            cases he1 : elemsOf L G (.hs loc1 b1 g1 off1 len1) with
            | none =>
              rw [he1] at hqv
              simp only [AV.refs, qLeft] at hqv
              cases loc1 <;> cases both <;> simp_all
            | some es1 =>
              rw [he1] at hqv
              simp only [AV.refs, Tok.refs, Bool.true_and] at hqv
              exact leave_deep hl s n hy hb1 he1 hqv
          · rw [if_neg hb1] at hqv ⊢
            exact hy.keeps hl.keeps hqv
        | _ => exact (handA_rep (both := true) hy).keeps hl.keeps hqv
      refine leave_row hl s hr hb he _ (by simp) fun i u v hu hv => ?_
      rw [List.getElem?_map, hu] at hv
      simp only [Option.map_some, Option.some.injEq] at hv
      subst hv
      have hqv : (onCells (unhs (deepS both L G n) both L G) u).refs (qLeft both) = true := refss_get hq (i := i) (by rw [List.getElem?_map, hu]; rfl)
      by_cases hu' : ∃ cs, u = .agg cs
      · obtain ⟨cs, rfl⟩ := hu'
        simp only [onCells] at hqv ⊢
        refine ⟨by simp [AV.cells], fun j c q hc hq' => ?_⟩
        simp only [AV.cells] at hc hq'
        rw [List.getElem?_map, hq'] at hc
        simp only [Option.map_some, Option.some.injEq] at hc
        subst hc
        rw [AV.refs] at hqv
        have hqc := refss_get hqv (i := j) (v := unhs (deepS both L G n) both L G q) (by rw [List.getElem?_map, hq']; rfl)
        exact ⟨unhs_isCell, fun y hy => one q hqc hy⟩
      · have hn : ∀ cs, u ≠ .agg cs := fun cs e => hu' ⟨cs, e⟩
        obtain ⟨e1, e2⟩ := onCells_one (f := unhs (deepS both L G n) both L G) hn
        rw [e1] at hqv ⊢
        rw [unhs_one hn, e2]
        refine ⟨rfl, fun j c q hc hq' => ?_⟩
        cases j with
        | zero =>
          simp only [List.getElem?_cons_zero, Option.some.injEq] at hc hq'
          subst hc hq'
          exact ⟨unhs_isCell, fun y hy => one _ hqv hy⟩
        | succ j => simp at hc
    · next hany =>
      rw [if_neg hany]
      exact leave_hs hl s hr hb he hq
mutual
theorem leave_rep {both : Bool} (hl : Left both g g') {L G : Hp} (s : Sim g w L G) : ∀ (v : AV) {x : Value}, Rep g w v x → (leave both L G v).refs (qLeft both) = true → Rep g' w (leave both L G v) x
  | .sl es t, x, hr, hq => by
    rw [leave] at hq ⊢
    have hr' : Rep g w (.sl es (t.drop both)) x := by
      cases hr with
      | sl _ _ a cap B base sz y hc ht ha h0 h1 h2 => exact .sl _ _ a cap B base sz y hc (tokOk_drop ht) ha h0 h1 h2
    exact hr'.keeps hl.keeps hq
  | .hs loc b gen off len, x, hr, hq => by
    rw [leave] at hq ⊢
    by_cases hb : (loc || both) = true
    · rw [if_pos hb] at hq ⊢
      cases he : elemsOf L G (.hs loc b gen off len) with
      | none => exact .junk x
      | some es =>
        rw [he] at hq
        simp only [AV.refs, Tok.refs, Bool.true_and] at hq
        exact leave_deep hl s 3 hr hb he hq
    · rw [if_neg hb] at hq ⊢
      exact hr.keeps hl.keeps hq
  | .agg cs, x, hr, hq => by
    rw [leave] at hq ⊢
    rw [AV.refs] at hq
    obtain ⟨vs, rfl, h1, h2⟩ := hr.agg_inv
    obtain ⟨k1, k2⟩ := leaves_rep hl s cs h2 hq
    exact .agg _ _ (by rw [k1]; exact h1) k2
  | .tup cs, x, hr, hq => by
    rw [leave] at hq ⊢
    rw [AV.refs] at hq
    obtain ⟨vs, rfl, h1, h2⟩ := hr.tup_inv
    obtain ⟨k1, k2⟩ := leaves_rep hl s cs h2 hq
    exact .tup _ _ (by rw [k1]; exact h1) k2
  | .ifc t v, x, hr, hq => by
    rw [leave] at hq ⊢
    rw [AV.refs] at hq
    cases hr with
    | ifc _ _ y h => exact .ifc t _ y (leave_rep hl s v h hq)
  | .junk, x, hr, hq => by simp only [leave] at hq ⊢; exact hr.keeps hl.keeps hq
  | .bool _, x, hr, hq => by simp only [leave] at hq ⊢; exact hr.keeps hl.keeps hq
  | .int _ _, x, hr, hq => by simp only [leave] at hq ⊢; exact hr.keeps hl.keeps hq
  | .str _, x, hr, hq => by simp only [leave] at hq ⊢; exact hr.keeps hl.keeps hq
  | .nilp, x, hr, hq => by simp only [leave] at hq ⊢; exact hr.keeps hl.keeps hq
  | .ptr .., x, hr, hq => by simp only [leave] at hq ⊢; exact hr.keeps hl.keeps hq
  | .rptr .., x, hr, hq => by simp only [leave] at hq ⊢; exact hr.keeps hl.keeps hq
  | .fn .., x, hr, hq => by simp only [leave] at hq ⊢; exact hr.keeps hl.keeps hq
  | .nilf, x, hr, hq => by simp only [leave] at hq ⊢; exact hr.keeps hl.keeps hq
  | .nili, x, hr, hq => by simp only [leave] at hq ⊢; exact hr.keeps hl.keeps hq
  | .mp .., x, hr, hq => by simp only [leave] at hq ⊢; exact hr.keeps hl.keeps hq
  | .nilm, x, hr, hq => by simp only [leave] at hq ⊢; exact hr.keeps hl.keeps hq
theorem leaves_rep {both : Bool} (hl : Left both g g') {L G : Hp} (s : Sim g w L G) : ∀ (l : List AV) {vs : Array Value}, (∀ (i : Nat) c v, l[i]? = some c → vs[i]? = some v → Rep g w c v) → refss (qLeft both) (leaves both L G l) = true →
    (leaves both L G l).length = l.length ∧ ∀ (i : Nat) c v, (leaves both L G l)[i]? = some c → vs[i]? = some v → Rep g' w c v
  | [], vs, _, _ => by rw [leaves]; exact ⟨rfl, fun i c v h => by simp at h⟩
  | u :: l, vs, hr, hq => by
    rw [leaves] at hq ⊢
    rw [refss, Bool.and_eq_true] at hq
    obtain ⟨k1, k2⟩ := leaves_rep hl s l (vs := vs.toList.tail.toArray) (fun i c v hc hv => hr (i + 1) c v (by simpa using hc) (by simpa [List.getElem?_tail] using hv)) hq.2
    refine ⟨by simp [k1], fun i c v hc hv => ?_⟩
    cases i with
    | zero =>
      simp only [List.getElem?_cons_zero, Option.some.injEq] at hc
      subst hc
      exact leave_rep hl s u (hr 0 u v rfl hv) hq.1
    | succ i => exact k2 i c v (by simpa using hc) (by simpa [List.getElem?_tail] using hv)
end
end
end Ev
