/- How abstract values stand to the model's: a reading of memory with an owner for every cell. -/
import Derived.Test.YtecflllnnbiheaaEv1
import Derived.Laws.World
import Derived.Laws.Sem
set_option maxHeartbeats 4000000
set_option linter.unusedVariables false
set_option linter.unusedSimpArgs false
namespace Ev
open Go

/-- Whose a cell is: nobody's (it is left alone); it never changes; a block's of an abstract heap. -/
inductive Own where
  | no
  | prot
  | blk (loc : Bool) (b : Nat)
  deriving DecidableEq

structure Loc where
  B : Nat
  base : Nat
  sz : Nat
  cap : Nat
structure TkI where
  n : Nat
  B : Nat
  base : Nat
  sz : Nat
  cap : Nat
structure Gh where
  own : Nat → Nat → Own
  mu : Bool → Nat → Nat → Option Loc
  mp : Bool → Nat → Option Nat
  tk : Bool → Nat → Option TkI

def TokOk (g : Gh) (t : Tok) (n sz : Nat) (a : Option Addr) (cap : Nat) : Prop :=
  match t with
  | .no => True
  | .full => cap = n
  | .own loc k => ∃ I, g.tk loc k = some I ∧ 0 < n ∧ n ≤ I.n ∧ I.sz = sz ∧ (n = I.n → a = some ⟨I.B, I.base, none⟩ ∧ cap = I.cap)

inductive Rep (g : Gh) (w : World) : AV → Value → Prop where
  | junk (x : Value) : Rep g w .junk x
  | bool (b : Bool) : Rep g w (.bool b) (.bool b)
  | int (k : IntKind) (n : Int) : Rep g w (.int k n) (.int k n)
  | str (l : List UInt8) : Rep g w (.str l) (.string ⟨l.toArray⟩)
  | agg (cs : List AV) (vs : Array Value) (hn : cs.length = vs.size) (h : ∀ (i : Nat) c v, cs[i]? = some c → vs[i]? = some v → Rep g w c v) : Rep g w (.agg cs) (.agg vs)
  | tup (cs : List AV) (vs : Array Value) (hn : cs.length = vs.size) (h : ∀ (i : Nat) c v, cs[i]? = some c → vs[i]? = some v → Rep g w c v) : Rep g w (.tup cs) (.tuple vs)
  | nilp : Rep g w .nilp (.pointer none)
  | ptr (loc : Bool) (b gen i o : Nat) (l : Loc) (h : g.mu loc b gen = some l) : Rep g w (.ptr loc b gen i o) (.pointer (some ⟨l.B, l.base + i * l.sz + o, none⟩))
  | rptr (v : AV) (o B base : Nat) (y : Nat → Value)
      (h1 : ∀ (j : Nat) c, v.cells[j]? = some c → c.isCell = true ∧ g.own B (base + j) = .prot ∧ w.cell? ⟨B, base + j, none⟩ = some (y j))
      (h2 : ∀ (j : Nat) c, v.cells[j]? = some c → Rep g w c (y j)) : Rep g w (.rptr v o) (.pointer (some ⟨B, base + o, none⟩))
  | sl (es : List AV) (t : Tok) (a : Option Addr) (cap B base sz : Nat) (y : Nat → Nat → Value) (hc : es.length ≤ cap) (ht : TokOk g t es.length sz a cap)
      (ha : es ≠ [] → a = some ⟨B, base, none⟩ ∧ 0 < sz)
      (h0 : ∀ (i : Nat) v, es[i]? = some v → v.cells.length = sz)
      (h1 : ∀ (i : Nat) v (j : Nat) c, es[i]? = some v → v.cells[j]? = some c → c.isCell = true ∧ g.own B (base + i * sz + j) = .prot ∧ w.cell? ⟨B, base + i * sz + j, none⟩ = some (y i j))
      (h2 : ∀ (i : Nat) v (j : Nat) c, es[i]? = some v → v.cells[j]? = some c → Rep g w c (y i j)) : Rep g w (.sl es t) (.slice a es.length cap)
  | hs (loc : Bool) (b gen off len : Nat) (l : Loc) (h : g.mu loc b gen = some l) (hl : off + len ≤ l.cap) :
      Rep g w (.hs loc b gen off len) (.slice (some ⟨l.B, l.base + off * l.sz, none⟩) len (l.cap - off))
  | fn (f : Nat) (cs : List AV) (vs : Array Value) (hn : cs.length = vs.size) (h : ∀ (i : Nat) c v, cs[i]? = some c → vs[i]? = some v → Rep g w c v) :
      Rep g w (.fn f cs) (.func (.func f) #[] vs)
  | nilf : Rep g w .nilf .nilFunc
  | ifc (t : Nat) (v : AV) (x : Value) (h : Rep g w v x) : Rep g w (.ifc t v) (.iface t x)
  | nili : Rep g w .nili .nilIface
  | mp (loc : Bool) (b B : Nat) (h : g.mp loc b = some B) : Rep g w (.mp loc b) (.map (some B))
  | nilm : Rep g w .nilm (.map none)

/-! ### references -/
theorem refss_get {Q : Bool → Nat → Bool} : ∀ {l : List AV}, refss Q l = true → ∀ {i : Nat} {v : AV}, l[i]? = some v → v.refs Q = true
  | [], _, i, v, hv => by simp at hv
  | x :: l, h, i, v, hv => by
    rw [refss, Bool.and_eq_true] at h
    cases i with
    | zero => simp at hv; rw [← hv]; exact h.1
    | succ i => exact refss_get h.2 (by simpa using hv)
theorem refss_of {Q : Bool → Nat → Bool} : ∀ {l : List AV}, (∀ v ∈ l, v.refs Q = true) → refss Q l = true
  | [], _ => by rw [refss]
  | x :: l, h => by rw [refss, h x (by simp), refss_of (fun v hv => h v (by simp [hv]))]; rfl
theorem refss_append {Q : Bool → Nat → Bool} {l m : List AV} : refss Q (l ++ m) = (refss Q l && refss Q m) := by
  induction l with
  | nil => simp [refss]
  | cons x l ih => simp [refss, ih, Bool.and_assoc]
theorem refss_mem {Q : Bool → Nat → Bool} {l : List AV} (h : refss Q l = true) {v : AV} (hv : v ∈ l) : v.refs Q = true := by
  obtain ⟨i, hi⟩ := List.mem_iff_getElem?.1 hv
  exact refss_get h hi
theorem refs_cells {Q : Bool → Nat → Bool} {v : AV} (h : v.refs Q = true) {j : Nat} {c : AV} (hc : v.cells[j]? = some c) : c.refs Q = true := by
  cases v with
  | agg cs => rw [AV.refs] at h; exact refss_get h hc
  | _ => cases j <;> simp [AV.cells] at hc <;> (subst hc; exact h)
mutual
theorem refs_mono {Q Q' : Bool → Nat → Bool} (hQ : ∀ l b, Q l b = true → Q' l b = true) : ∀ (v : AV), v.refs Q = true → v.refs Q' = true
  | .junk, _ | .bool _, _ | .int _ _, _ | .str _, _ | .nilp, _ | .nilf, _ | .nili, _ | .nilm, _ => by simp [AV.refs]
  | .agg cs, h => by rw [AV.refs] at h ⊢; exact refss_mono hQ cs h
  | .tup cs, h => by rw [AV.refs] at h ⊢; exact refss_mono hQ cs h
  | .fn _ cs, h => by rw [AV.refs] at h ⊢; exact refss_mono hQ cs h
  | .sl es t, h => by
    rw [AV.refs, Bool.and_eq_true] at h ⊢
    refine ⟨?_, refss_mono hQ es h.2⟩
    cases t <;> first | rfl | exact hQ _ _ h.1
  | .rptr v _, h => by rw [AV.refs] at h ⊢; exact refs_mono hQ v h
  | .ifc _ v, h => by rw [AV.refs] at h ⊢; exact refs_mono hQ v h
  | .ptr .., h => by rw [AV.refs] at h ⊢; exact hQ _ _ h
  | .hs .., h => by rw [AV.refs] at h ⊢; exact hQ _ _ h
  | .mp .., h => by rw [AV.refs] at h ⊢; exact hQ _ _ h
theorem refss_mono {Q Q' : Bool → Nat → Bool} (hQ : ∀ l b, Q l b = true → Q' l b = true) : ∀ (l : List AV), refss Q l = true → refss Q' l = true
  | [], _ => by rw [refss]
  | v :: l, h => by rw [refss, Bool.and_eq_true] at h ⊢; exact ⟨refs_mono hQ v h.1, refss_mono hQ l h.2⟩
end
mutual
theorem refs_true : ∀ (v : AV), v.refs (fun _ _ => true) = true
  | .junk | .bool _ | .int _ _ | .str _ | .nilp | .nilf | .nili | .nilm | .ptr .. | .hs .. | .mp .. => by simp [AV.refs]
  | .agg cs => by rw [AV.refs]; exact refss_true cs
  | .tup cs => by rw [AV.refs]; exact refss_true cs
  | .fn _ cs => by rw [AV.refs]; exact refss_true cs
  | .sl es t => by rw [AV.refs, refss_true es]; cases t <;> rfl
  | .rptr v _ => by rw [AV.refs]; exact refs_true v
  | .ifc _ v => by rw [AV.refs]; exact refs_true v
theorem refss_true : ∀ (l : List AV), refss (fun _ _ => true) l = true
  | [] => by rw [refss]
  | v :: l => by rw [refss, refs_true v, refss_true l]; rfl
end

/-! ### a reading lasts -/
def TkLe (I I' : TkI) : Prop := I' = I ∨ (I.n < I'.n ∧ I'.sz = I.sz)

structure Keeps (g : Gh) (w : World) (g' : Gh) (w' : World) (Q : Bool → Nat → Bool) : Prop where
  prot : ∀ B o, g.own B o = .prot → g'.own B o = .prot ∧ ∀ x, w.cell? ⟨B, o, none⟩ = some x → w'.cell? ⟨B, o, none⟩ = some x
  mu : ∀ loc b, Q loc b = true → ∀ gen l, g.mu loc b gen = some l → g'.mu loc b gen = some l
  mp : ∀ loc b, Q loc b = true → ∀ B, g.mp loc b = some B → g'.mp loc b = some B
  tk : ∀ loc b, Q loc b = true → ∀ I, g.tk loc b = some I → ∃ I', g'.tk loc b = some I' ∧ TkLe I I'

theorem TokOk.keeps {g g' : Gh} {w w' : World} {Q : Bool → Nat → Bool} (k : Keeps g w g' w' Q) {t : Tok} {n sz : Nat} {a : Option Addr} {cap : Nat}
    (ht : t.refs Q = true) (h : TokOk g t n sz a cap) : TokOk g' t n sz a cap := by
  cases t with
  | no => trivial
  | full => exact h
  | own loc b =>
    obtain ⟨I, h1, h2, h3, h4, h5⟩ := h
    obtain ⟨I', h1', hle⟩ := k.tk loc b ht I h1
    rcases hle with rfl | ⟨hlt, hsz⟩
    · exact ⟨I', h1', h2, h3, h4, h5⟩
    · exact ⟨I', h1', h2, by omega, hsz.trans h4, fun e => by omega⟩

theorem Rep.keeps {g g' : Gh} {w w' : World} {Q : Bool → Nat → Bool} (k : Keeps g w g' w' Q) {v : AV} {x : Value} (h : Rep g w v x) : v.refs Q = true → Rep g' w' v x := by
  induction h with
  | junk x => intro _; exact .junk x
  | bool b => intro _; exact .bool b
  | int k n => intro _; exact .int k n
  | str l => intro _; exact .str l
  | agg cs vs hn h ih => intro hr; rw [AV.refs] at hr; exact .agg cs vs hn fun i c v hc hv => ih i c v hc hv (refss_get hr hc)
  | tup cs vs hn h ih => intro hr; rw [AV.refs] at hr; exact .tup cs vs hn fun i c v hc hv => ih i c v hc hv (refss_get hr hc)
  | nilp => intro _; exact .nilp
  | ptr loc b gen i o l h => intro hr; rw [AV.refs] at hr; exact .ptr loc b gen i o l (k.mu _ _ hr _ _ h)
  | rptr v o B base y h1 h2 ih =>
    intro hr
    rw [AV.refs] at hr
    refine .rptr v o B base y (fun j c hc => ?_) fun j c hc => ih j c hc (refs_cells hr hc)
    obtain ⟨a1, a2, a3⟩ := h1 j c hc
    exact ⟨a1, (k.prot _ _ a2).1, (k.prot _ _ a2).2 _ a3⟩
  | sl es t a cap B base sz y hc ht ha h0 h1 h2 ih =>
    intro hr
    rw [AV.refs, Bool.and_eq_true] at hr
    refine .sl es t a cap B base sz y hc (ht.keeps k hr.1) ha h0 (fun i v j c hv hc => ?_) fun i v j c hv hc => ih i v j c hv hc (refs_cells (refss_get hr.2 hv) hc)
    obtain ⟨a1, a2, a3⟩ := h1 i v j c hv hc
    exact ⟨a1, (k.prot _ _ a2).1, (k.prot _ _ a2).2 _ a3⟩
  | hs loc b gen off len l h hl => intro hr; rw [AV.refs] at hr; exact .hs loc b gen off len l (k.mu _ _ hr _ _ h) hl
  | fn f cs vs hn h ih => intro hr; rw [AV.refs] at hr; exact .fn f cs vs hn fun i c v hc hv => ih i c v hc hv (refss_get hr hc)
  | nilf => intro _; exact .nilf
  | ifc t v x h ih => intro hr; rw [AV.refs] at hr; exact .ifc t v x (ih hr)
  | nili => intro _; exact .nili
  | mp loc b B h => intro hr; rw [AV.refs] at hr; exact .mp loc b B (k.mp _ _ hr _ h)
  | nilm => intro _; exact .nilm

/-! ### heaps -/
def Fresh (g : Gh) (loc : Bool) (b : Nat) : Prop := (∀ gen, g.mu loc b gen = none) ∧ g.mp loc b = none ∧ g.tk loc b = none

structure RowOk (g : Gh) (w : World) (loc : Bool) (b : Nat) (l : Loc) (es : List AV) : Prop where
  sz : 0 < l.sz
  len : es.length ≤ l.cap
  size : ∀ (i : Nat) v, es[i]? = some v → v.cells.length = l.sz
  cell : ∀ (i : Nat) v (j : Nat) c, es[i]? = some v → v.cells[j]? = some c → c.isCell = true ∧ ∃ y, w.cell? ⟨l.B, l.base + i * l.sz + j, none⟩ = some y ∧ Rep g w c y
  own : ∀ o, o < l.cap * l.sz → g.own l.B (l.base + o) = .blk loc b ∧ (∃ y, w.cell? ⟨l.B, l.base + o, none⟩ = some y) ∧ w.frozen? ⟨l.B, l.base + o, none⟩ = false

def AV.isKey : AV → Bool
  | .str _ | .int _ _ | .bool _ => true
  | _ => false

def BlkOk (g : Gh) (w : World) (loc : Bool) (b : Nat) : Blk → Prop
  | .dead => Fresh g loc b
  | .row gen es => ∃ l, g.mu loc b gen = some l ∧ (∀ gen', gen < gen' → g.mu loc b gen' = none) ∧ RowOk g w loc b l es
  | .tok n sz => ∃ I, g.tk loc b = some I ∧ I.n = n ∧ I.sz = sz ∧ 0 < sz ∧ 0 < n ∧ n ≤ I.cap ∧ ∀ o, n * sz ≤ o → o < I.cap * sz →
      g.own I.B (I.base + o) = .blk loc b ∧ (∃ y, w.cell? ⟨I.B, I.base + o, none⟩ = some y) ∧ w.frozen? ⟨I.B, I.base + o, none⟩ = false
  | .map kvs => ∃ B es clk, g.mp loc b = some B ∧ w.heap[B]? = some (.map es clk) ∧ (∀ o, g.own B o = .blk loc b) ∧ kvs.length = es.size ∧
      ∀ (i : Nat) k v e, kvs[i]? = some (k, v) → es[i]? = some e → k.isKey = true ∧ Rep g w k e.key ∧ Rep g w v e.val

def Blk.noL : Blk → Bool
  | .row _ es => noLs es
  | .map kvs => noLs (kvs.map Prod.snd)
  | _ => true

structure HpOk (g : Gh) (w : World) (loc : Bool) (H : Hp) : Prop where
  blk : ∀ (b : Nat) x, H[b]? = some x → BlkOk g w loc b x
  new : ∀ b, H.length ≤ b → Fresh g loc b

structure SimG (g : Gh) (w : World) (G : Hp) : Prop where
  hp : HpOk g w false G
  noL : ∀ (b : Nat) x, G[b]? = some x → x.noL = true
  own : ∀ B o, w.heap.size ≤ B → g.own B o = .no
structure Sim (g : Gh) (w : World) (L G : Hp) : Prop where
  l : HpOk g w true L
  g : SimG g w G

def EnvOk (g : Gh) (w : World) (e : Env) (t : Array Value) : Prop := ∀ (i : Nat) v, getE? e i = some v → ∃ x, t[i]? = some x ∧ Rep g w v x
def Reps (g : Gh) (w : World) (l : List AV) (t : List Value) : Prop := l.length = t.length ∧ ∀ (i : Nat) v x, l[i]? = some v → t[i]? = some x → Rep g w v x

/-- What a step leaves alone. -/
structure Ext (g : Gh) (w : World) (g' : Gh) (w' : World) : Prop where
  size : w.heap.size ≤ w'.heap.size
  os : w'.os = w.os
  tape : w'.tape = w.tape
  output : w'.output = w.output
  keep : ∀ B o, B < w.heap.size → g.own B o = .prot ∨ g.own B o = .no → g'.own B o = g.own B o ∧ w'.cell? ⟨B, o, none⟩ = w.cell? ⟨B, o, none⟩ ∧ w'.frozen? ⟨B, o, none⟩ = w.frozen? ⟨B, o, none⟩
  blk : ∀ B, B < w.heap.size → (∀ o, g.own B o = .prot ∨ g.own B o = .no) → w'.heap[B]? = w.heap[B]?
  gmu : ∀ b gen l, g.mu false b gen = some l → g'.mu false b gen = some l
  gmp : ∀ b B, g.mp false b = some B → g'.mp false b = some B
  gtk : ∀ b I, g.tk false b = some I → ∃ I', g'.tk false b = some I' ∧ TkLe I I'
/-- The frame's own heap keeps its places. -/
structure Mono (g g' : Gh) : Prop where
  mu : ∀ b gen l, g.mu true b gen = some l → g'.mu true b gen = some l
  mp : ∀ b B, g.mp true b = some B → g'.mp true b = some B
  tk : ∀ b I, g.tk true b = some I → ∃ I', g'.tk true b = some I' ∧ TkLe I I'

theorem TkLe.trans {I J K : TkI} (h : TkLe I J) (k : TkLe J K) : TkLe I K := by
  rcases h with rfl | ⟨h1, h2⟩
  · exact k
  · rcases k with rfl | ⟨k1, k2⟩
    · exact .inr ⟨h1, h2⟩
    · exact .inr ⟨by omega, by rw [k2, h2]⟩
theorem Ext.refl (g : Gh) (w : World) : Ext g w g w :=
  ⟨Nat.le_refl _, rfl, rfl, rfl, fun _ _ _ _ => ⟨rfl, rfl, rfl⟩, fun _ _ _ => rfl, fun _ _ _ h => h, fun _ _ h => h, fun _ I h => ⟨I, h, .inl rfl⟩⟩
theorem Ext.trans {g1 g2 g3 : Gh} {w1 w2 w3 : World} (a : Ext g1 w1 g2 w2) (b : Ext g2 w2 g3 w3) : Ext g1 w1 g3 w3 where
  size := Nat.le_trans a.size b.size
  os := b.os.trans a.os
  tape := b.tape.trans a.tape
  output := b.output.trans a.output
  keep := fun B o hB h => by
    obtain ⟨a1, a2, a3⟩ := a.keep B o hB h
    obtain ⟨b1, b2, b3⟩ := b.keep B o (by have := a.size; omega) (by rw [a1]; exact h)
    exact ⟨b1.trans a1, b2.trans a2, b3.trans a3⟩
  blk := fun B hB h => (b.blk B (by have := a.size; omega) fun o => by rw [(a.keep B o hB (h o)).1]; exact h o).trans (a.blk B hB h)
  gmu := fun x gen l h => b.gmu _ _ _ (a.gmu _ _ _ h)
  gmp := fun x B h => b.gmp _ _ (a.gmp _ _ h)
  gtk := fun x I h => by
    obtain ⟨J, h1, h2⟩ := a.gtk _ _ h
    obtain ⟨K, h3, h4⟩ := b.gtk _ _ h1
    exact ⟨K, h3, h2.trans h4⟩
theorem Mono.refl (g : Gh) : Mono g g := ⟨fun _ _ _ h => h, fun _ _ h => h, fun _ I h => ⟨I, h, .inl rfl⟩⟩
theorem Mono.trans {g1 g2 g3 : Gh} (a : Mono g1 g2) (b : Mono g2 g3) : Mono g1 g3 where
  mu := fun x gen l h => b.mu _ _ _ (a.mu _ _ _ h)
  mp := fun x B h => b.mp _ _ (a.mp _ _ h)
  tk := fun x I h => by
    obtain ⟨J, h1, h2⟩ := a.tk _ _ h
    obtain ⟨K, h3, h4⟩ := b.tk _ _ h1
    exact ⟨K, h3, h2.trans h4⟩

theorem prot_lt {g : Gh} {w : World} (hown : ∀ B o, w.heap.size ≤ B → g.own B o = .no) {B o : Nat} (h : g.own B o = .prot) : B < w.heap.size := by
  rcases Nat.lt_or_ge B w.heap.size with h' | h'
  · exact h'
  · rw [hown B o h'] at h; cases h
theorem keeps_of {g g' : Gh} {w w' : World} (hown : ∀ B o, w.heap.size ≤ B → g.own B o = .no) (e : Ext g w g' w') (m : Mono g g') : Keeps g w g' w' (fun _ _ => true) where
  prot := fun B o h => by
    obtain ⟨a1, a2, _⟩ := e.keep B o (prot_lt hown h) (.inl h)
    exact ⟨by rw [a1]; exact h, fun x hx => by rw [a2]; exact hx⟩
  mu := fun loc b _ gen l h => by cases loc; exact e.gmu _ _ _ h; exact m.mu _ _ _ h
  mp := fun loc b _ B h => by cases loc; exact e.gmp _ _ h; exact m.mp _ _ h
  tk := fun loc b _ I h => by cases loc; exact e.gtk _ _ h; exact m.tk _ _ h
theorem Rep.ext {g g' : Gh} {w w' : World} (hown : ∀ B o, w.heap.size ≤ B → g.own B o = .no) (e : Ext g w g' w') (m : Mono g g') {v : AV} {x : Value} (h : Rep g w v x) : Rep g' w' v x :=
  h.keeps (keeps_of hown e m) (refs_true v)
theorem EnvOk.map {g g' : Gh} {w w' : World} {E : Env} {t : Array Value} (h : EnvOk g w E t) (hr : ∀ i v x, getE? E i = some v → Rep g w v x → Rep g' w' v x) : EnvOk g' w' E t := fun i v hv => by
  obtain ⟨x, h1, h2⟩ := h i v hv
  exact ⟨x, h1, hr i v x hv h2⟩
theorem EnvOk.ext {g g' : Gh} {w w' : World} (hown : ∀ B o, w.heap.size ≤ B → g.own B o = .no) (e : Ext g w g' w') (m : Mono g g') {E : Env} {t : Array Value} (h : EnvOk g w E t) : EnvOk g' w' E t :=
  h.map fun _ _ _ _ hr => hr.ext hown e m

/-- A block whose cells are left alone stays. -/
theorem BlkOk.keeps {g g' : Gh} {w w' : World} {loc : Bool} {b : Nat} {x : Blk} (h : BlkOk g w loc b x) (hR : ∀ v y, Rep g w v y → Rep g' w' v y)
    (hc : ∀ B o, g.own B o = .blk loc b → g'.own B o = .blk loc b ∧ w'.cell? ⟨B, o, none⟩ = w.cell? ⟨B, o, none⟩ ∧ w'.frozen? ⟨B, o, none⟩ = w.frozen? ⟨B, o, none⟩ ∧ (∀ es k, w.heap[B]? = some (.map es k) → w'.heap[B]? = w.heap[B]?))
    (hmu : ∀ gen, g'.mu loc b gen = g.mu loc b gen) (hmp : g'.mp loc b = g.mp loc b) (htk : g'.tk loc b = g.tk loc b) : BlkOk g' w' loc b x := by
  cases x with
  | dead => exact ⟨fun gen => by rw [hmu]; exact h.1 gen, by rw [hmp]; exact h.2.1, by rw [htk]; exact h.2.2⟩
  | row gen es =>
    obtain ⟨l, h1, h2, h3⟩ := h
    refine ⟨l, by rw [hmu]; exact h1, fun gen' hg => by rw [hmu]; exact h2 gen' hg, h3.sz, h3.len, h3.size, fun i v j c hv hj => ?_, fun o ho => ?_⟩
    · obtain ⟨a1, y, a2, a3⟩ := h3.cell i v j c hv hj
      refine ⟨a1, y, ?_, hR _ _ a3⟩
      have hi : i < es.length := (List.getElem?_eq_some_iff.1 hv).1
      have hjl : j < l.sz := by rw [← h3.size i v hv]; exact (List.getElem?_eq_some_iff.1 hj).1
      have hlt : i * l.sz + j < l.cap * l.sz := by
        have : (i + 1) * l.sz ≤ l.cap * l.sz := Nat.mul_le_mul_right _ (by have := h3.len; omega)
        rw [Nat.add_mul] at this
        omega
      have hh := hc _ _ (h3.own _ hlt).1
      rw [← Nat.add_assoc] at hh
      rw [hh.2.1]; exact a2
    · obtain ⟨a1, a2, a3⟩ := h3.own o ho
      obtain ⟨b1, b2, b3, _⟩ := hc _ _ a1
      exact ⟨b1, by rw [b2]; exact a2, by rw [b3]; exact a3⟩
  | tok n sz =>
    obtain ⟨I, h1, h2, h3, h4, h5, h6, h7⟩ := h
    refine ⟨I, by rw [htk]; exact h1, h2, h3, h4, h5, h6, fun o o1 o2 => ?_⟩
    obtain ⟨a1, a2, a3⟩ := h7 o o1 o2
    obtain ⟨b1, b2, b3, _⟩ := hc _ _ a1
    exact ⟨b1, by rw [b2]; exact a2, by rw [b3]; exact a3⟩
  | map kvs =>
    obtain ⟨B, es, clk, h1, h2, h3, h4, h5⟩ := h
    obtain ⟨_, _, _, b4⟩ := hc _ _ (h3 0)
    exact ⟨B, es, clk, by rw [hmp]; exact h1, by rw [b4 es clk h2]; exact h2, fun o => (hc _ _ (h3 o)).1, h4, fun i k v e hk he => ⟨(h5 i k v e hk he).1, hR _ _ (h5 i k v e hk he).2.1, hR _ _ (h5 i k v e hk he).2.2⟩⟩
end Ev
