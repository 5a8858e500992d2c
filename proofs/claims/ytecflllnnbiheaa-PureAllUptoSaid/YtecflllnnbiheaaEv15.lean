/- From a row's reading to abstract values; from the evaluator's answer to the row's call. -/
import Derived.Test.YtecflllnnbiheaaEv14
import Derived.Below
import Derived.ChangeArms
set_option maxHeartbeats 4000000
set_option linter.unusedVariables false
set_option linter.unusedSimpArgs false
namespace Ev
open Go Go.RowKit

/-- all that there is never changes -/
def gAll (w : World) : Gh := ⟨fun B _ => if B < w.heap.size then .prot else .no, fun _ _ _ => Option.none, fun _ _ => Option.none, fun _ _ => Option.none⟩
theorem sim_all (w : World) : Sim (gAll w) w [] [] :=
  sim_nil (fun _ _ _ => rfl) (fun _ _ => rfl) (fun _ _ => rfl) fun B o h => if_neg (by omega)
/-- what the evaluator answers with 'true', the call returns; nothing that was there is turned -/
theorem law_calls {P : Program} {A : Ann} (hm : P.follows .mixedOrders = true) (hn : NoNum P) (hfit : FitsP P A) (ho : OrcOk P A) {f : Nat} {args : List AV} {V : Array Value} {W : World} {G' : Hp} (h : ev P A f args [] = some (.val (.bool true), G'))
    (hr : RepsA (gAll W) W args V) : Calls P f V W fun e W' => e = .returned (.bool true) ∧ Below W.heap.size W W' := by
  obtain ⟨_, hc⟩ := ev_ok hm hn hfit ho f args [] _ G' h (fun _ => rfl)
  refine (hc (gAll W) W V (sim_all W) hr).mono fun e W' => ?_
  rintro ⟨g', s', x, y, rfl, hy⟩
  have := (hy rfl).bool_inv
  subst this
  exact ⟨rfl, x.os, x.tape, x.output, x.size, fun k hk => x.blk k hk fun o => .inl (if_pos hk)⟩

/-! ### readers -/
/-- cells that hold these -/
def CellsRep (W : World) (cs : List Value) (as : List AV) : Prop := as.length = cs.length ∧ ∀ (i : Nat) a v, as[i]? = some a → cs[i]? = some v → a.isCell = true ∧ Rep (gAll W) W a v
theorem CellsRep.append {W : World} {cs ds : List Value} {as bs : List AV} (h : CellsRep W cs as) (k : CellsRep W ds bs) : CellsRep W (cs ++ ds) (as ++ bs) := by
  refine ⟨by simp [h.1, k.1], fun i a v ha hv => ?_⟩
  rcases Nat.lt_or_ge i as.length with hi | hi
  · rw [List.getElem?_append_left hi] at ha
    rw [List.getElem?_append_left (by rw [← h.1]; exact hi)] at hv
    exact h.2 i a v ha hv
  · rw [List.getElem?_append_right hi] at ha
    rw [List.getElem?_append_right (by rw [← h.1]; exact hi), ← h.1] at hv
    exact k.2 _ a v ha hv

/-- how much a reading is: what a part is, the whole is at least -/
structure BulkOk (B : {H : Type} → DataW H → Nat) : Prop where
  one : ∀ {H : Type} (d : DataW H), 1 ≤ B d
  str : ∀ {H : Type} (l : List UInt8), l.length ≤ B (DataW.lit (H := H) (.string l))
  slice : ∀ {H : Type} (es sp : List (DataW H)), (es.map B).sum + 1 ≤ B (.slice es sp)
  agg : ∀ {H : Type} (ps : List (DataW H)), (ps.map B).sum ≤ B (.agg ps)
  ptr : ∀ {H : Type} (d : DataW H), B d + 1 ≤ B (.ptr d)

structure Rd (α : Type) where
  av : α → AV
  bulk : α → Nat
  good : α → Prop
/-- what is read at a type is one of these (with so much fuel) -/
def Rd.OkAt {α : Type} (R : Rd α) (P : Program) (B : {H : Type} → DataW H → Nat) (t : TypeId) (n : Nat) : Prop :=
  ∀ {H : Type} (enc : TypeId × Value → H) (W : World) (fuel : Nat) (cs : List Value) (x : DataW H × List MemPlace), fuel ≤ n → DataW.trod enc P W 0 (fun _ => true) true fuel t cs = some x →
    ∃ a, CellsRep W cs (R.av a).cells ∧ R.bulk a ≤ B x.1 ∧ R.good a
theorem Rd.OkAt.le {α : Type} {R : Rd α} {P : Program} {B : {H : Type} → DataW H → Nat} {t : TypeId} {n m : Nat} (h : R.OkAt P B t n) (hm : m ≤ n) : R.OkAt P B t m := fun enc W fuel cs x hf hx => h enc W fuel cs x (Nat.le_trans hf hm) hx

variable {P : Program} {B : {H : Type} → DataW H → Nat}
theorem cells_one {W : World} {a : AV} {v : Value} (hc : a.isCell = true) (h : Rep (gAll W) W a v) : CellsRep W [v] [a] := by
  refine ⟨rfl, fun i c y ha hv => ?_⟩
  cases i with
  | zero => simp at ha hv; rw [← ha, ← hv]; exact ⟨hc, h⟩
  | succ i => simp at ha

def rdInt (k : IntKind) : Rd Int := ⟨fun n => .int k n, fun _ => 1, fun n => (Lit.int k n).wf = true⟩
theorem rdInt_ok (hB : BulkOk B) {t : TypeId} {k : IntKind} (ht : P.underlying t = some (.int k)) (n : Nat) : (rdInt k).OkAt P B t n := fun enc W fuel cs x _ hx => by
  obtain ⟨m, rfl, rfl, hw⟩ := DataW.trod_int ht hx
  exact ⟨m, cells_one rfl (.int k m), hB.one _, hw⟩
def rdStr : Rd (List UInt8) := ⟨fun s => .str s, List.length, fun _ => True⟩
theorem rdStr_ok (hB : BulkOk B) {t : TypeId} (ht : P.underlying t = some .string) (n : Nat) : rdStr.OkAt P B t n := fun enc W fuel cs x _ hx => by
  obtain ⟨s, rfl, rfl, _⟩ := DataW.trod_string ht hx
  refine ⟨s.data.toList, cells_one rfl ?_, hB.str _, trivial⟩
  show Rep (gAll W) W (.str s.data.toList) (.string s)
  have := Rep.str (g := gAll W) (w := W) s.data.toList
  rwa [Array.toArray_toList] at this
def rdBool : Rd Bool := ⟨fun b => .bool b, fun _ => 1, fun _ => True⟩
theorem rdBool_ok (hB : BulkOk B) {t : TypeId} (ht : P.underlying t = some .bool) (n : Nat) : rdBool.OkAt P B t n := fun enc W fuel cs x _ hx => by
  obtain ⟨b, rfl, rfl⟩ := DataW.trod_bool ht hx
  exact ⟨b, cells_one rfl (.bool b), hB.one _, trivial⟩

/-! ### slices -/
def rdSl {α : Type} (R : Rd α) : Rd (List α) := ⟨fun l => .sl (l.map R.av) .no, fun l => (l.map R.bulk).sum + 1, fun l => ∀ a ∈ l, R.good a⟩
theorem cells?_get {W : World} {a : Addr} {n : Nat} {cs : List Value} (h : W.cells? 0 a n = some cs) : cs.length = n ∧ ∀ (i : Nat) v, cs[i]? = some v → W.cell? (a.add i) = some v := by
  unfold World.cells? at h
  rw [if_pos (Nat.zero_le _)] at h
  have hl : ∀ {l : List Nat} {cs : List Value}, l.mapM (fun i => W.cell? (a.add i)) = some cs → cs.length = l.length ∧ ∀ (i : Nat) v k, cs[i]? = some v → l[i]? = some k → W.cell? (a.add k) = some v := by
    intro l
    induction l with
    | nil => intro cs h; simp at h; subst h; exact ⟨rfl, fun i v k h => by simp at h⟩
    | cons j l ih =>
      intro cs h
      rw [List.mapM_cons] at h
      replace h := Option.bind_eq_some_iff.1 h
      obtain ⟨v, hv, h⟩ := h
      replace h := Option.bind_eq_some_iff.1 h
      obtain ⟨vs, hvs, h⟩ := h
      cases h
      obtain ⟨k1, k2⟩ := ih hvs
      refine ⟨by simp [k1], fun i u k hu hk => ?_⟩
      cases i with
      | zero => simp at hu hk; rw [← hk, ← hu]; exact hv
      | succ i => exact k2 i u k (by simpa using hu) (by simpa using hk)
  obtain ⟨h1, h2⟩ := hl h
  refine ⟨by simpa using h1, fun i v hv => h2 i v i hv ?_⟩
  have : i < n := by rw [← List.length_range (n := n), ← h1]; exact (List.getElem?_eq_some_iff.1 hv).1
  simp [this]
theorem cell_block {W : World} {a : Addr} {v : Value} (h : W.cell? a = some v) : a.block < W.heap.size ∧ a.spot = none := by
  unfold World.cell? at h
  split at h
  · rename_i c _ _ hb
    refine ⟨?_, ?_⟩
    · rcases Nat.lt_or_ge a.block W.heap.size with h' | h'
      · exact h'
      · rw [Array.getElem?_eq_none h'] at hb; cases hb
    · cases hs : a.spot with
      | none => rfl
      | some k => rw [hs] at h; simp at h
  · cases h
theorem addr_eq {a : Addr} (h : a.spot = none) (n : Nat) : a.add n = ⟨a.block, a.off + n, none⟩ := by
  unfold Addr.add
  split
  · rename_i h0; subst h0; cases a; simp_all
  · rfl

theorem rdSl_ok (hB : BulkOk B) {α : Type} {R : Rd α} {t e : TypeId} (ht : P.underlying t = some (.slice e)) (hz : 0 < P.cellsOf e) (hsz : ∀ a, (R.av a).cells.length = P.cellsOf e) {n : Nat} (hR : R.OkAt P B e n) : (rdSl R).OkAt P B t (n + 1) := fun {H} enc W fuel cs x hf hx => by
  rcases DataW.trod_slice ht hx with ⟨rfl, rfl⟩ | ⟨a, len, cap, elems, rest, m, rfl, rfl, rfl, _, hl, _, hlen, hel, _, _⟩
  · refine ⟨[], cells_one rfl ?_, hB.one _, fun a h => by cases h⟩
    exact .sl [] .no none 0 0 0 1 (fun _ _ => .nilFunc) (Nat.le_refl _) trivial (fun h => absurd rfl h) (fun i v h => by simp at h) (fun i v j c h => by simp at h) (fun i v j c h => by simp at h)
  · -- element by element
    have each : ∀ i y, elems[i]? = some y → ∃ b cl, W.cells? 0 (a.add (i * P.cellsOf e)) (P.cellsOf e) = some cl ∧ CellsRep W cl (R.av b).cells ∧ R.bulk b ≤ B y.1 ∧ R.good b := fun i y hy => by
      have hi : i < len := by rw [← hlen]; exact (List.getElem?_eq_some_iff.1 hy).1
      have := hel i hi
      rw [hy] at this
      replace this := Option.bind_eq_some_iff.1 this
      obtain ⟨cl, h1, h2⟩ := this
      obtain ⟨b, k1, k2, k3⟩ := hR enc W m cl y (by omega) h2
      exact ⟨b, cl, h1, k1, k2, k3⟩
    have : ∃ l : List α, l.length = elems.length ∧ ∀ i b y, l[i]? = some b → elems[i]? = some y → ∃ cl, W.cells? 0 (a.add (i * P.cellsOf e)) (P.cellsOf e) = some cl ∧ CellsRep W cl (R.av b).cells ∧ R.bulk b ≤ B y.1 ∧ R.good b := by
      refine ⟨List.ofFn fun i : Fin elems.length => (each i.1 elems[i.1] (List.getElem?_eq_getElem i.2)).choose, by simp, fun i b y hb hy => ?_⟩
      have hi : i < elems.length := (List.getElem?_eq_some_iff.1 hy).1
      have hb' : b = (each i elems[i] (List.getElem?_eq_getElem hi)).choose := by
        rw [List.getElem?_ofFn] at hb
        simp [hi] at hb
        exact hb.symm
      have hy' : y = elems[i] := by rw [List.getElem?_eq_getElem hi] at hy; exact (Option.some.inj hy).symm
      subst hb'
      subst hy'
      exact (each i elems[i] (List.getElem?_eq_getElem hi)).choose_spec
    obtain ⟨l, l1, l2⟩ := this
    have hget : ∀ (i : Nat) v, (l.map R.av)[i]? = some v → ∃ b y, l[i]? = some b ∧ elems[i]? = some y ∧ v = R.av b := fun i v hv => by
      rw [List.getElem?_map] at hv
      cases hb : l[i]? with
      | none => rw [hb] at hv; cases hv
      | some b =>
        rw [hb] at hv
        cases hv
        have hi : i < elems.length := by rw [← l1]; exact (List.getElem?_eq_some_iff.1 hb).1
        exact ⟨b, _, rfl, List.getElem?_eq_getElem hi, rfl⟩
    have hcell : ∀ (i : Nat) v j c, (l.map R.av)[i]? = some v → v.cells[j]? = some c → c.isCell = true ∧ ∃ y, W.cell? (a.add (i * P.cellsOf e + j)) = some y ∧ Rep (gAll W) W c y := fun i v j c hv hj => by
      obtain ⟨b, y, h1, h2, rfl⟩ := hget i v hv
      obtain ⟨cl, k1, k2, _⟩ := l2 i b y h1 h2
      obtain ⟨c1, c2⟩ := cells?_get k1
      have hjl : j < cl.length := by rw [← k2.1]; exact (List.getElem?_eq_some_iff.1 hj).1
      have hx := List.getElem?_eq_getElem hjl
      obtain ⟨q1, q2⟩ := k2.2 j c _ hj hx
      refine ⟨q1, _, ?_, q2⟩
      have := c2 j _ hx
      rw [← this]
      congr 1
      unfold Addr.add
      split <;> split <;> split <;> simp_all <;> omega
    have hspot : l ≠ [] → a.spot = none ∧ a.block < W.heap.size := fun hne => by
      cases l with
      | nil => exact absurd rfl hne
      | cons b l =>
        have h0 : (R.av b).cells.length = P.cellsOf e := hsz b
        obtain ⟨c, hc⟩ : ∃ c, (R.av b).cells[0]? = some c := ⟨_, List.getElem?_eq_getElem (by omega)⟩
        obtain ⟨_, y, hy, _⟩ := hcell 0 (R.av b) 0 c (by simp) hc
        have e0 : a.add (0 * P.cellsOf e + 0) = a := by simp [Addr.add]
        rw [e0] at hy
        exact ⟨(cell_block hy).2, (cell_block hy).1⟩
    refine ⟨l, cells_one rfl ?_, ?_, fun b hb => ?_⟩
    · have hll : (l.map R.av).length = len := by rw [List.length_map, l1, hlen]
      rw [← hll]
      refine .sl _ .no (some a) cap a.block a.off (P.cellsOf e) (fun i j => (W.cell? ⟨a.block, a.off + i * P.cellsOf e + j, none⟩).getD undef) (by omega) trivial (fun hne => ⟨?_, hz⟩) (fun i v hv => ?_) (fun i v j c hv hj => ?_) (fun i v j c hv hj => ?_)
      · have := (hspot (fun h => hne (by rw [h]; rfl))).1
        rw [← this]
      · obtain ⟨b, _, _, _, rfl⟩ := hget i v hv
        exact hsz b
      · have hne : l ≠ [] := fun h => by subst h; simp at hv
        obtain ⟨s1, s2⟩ := hspot hne
        obtain ⟨q1, y, q2, q3⟩ := hcell i v j c hv hj
        rw [addr_eq s1, ← Nat.add_assoc] at q2
        exact ⟨q1, if_pos s2, by rw [q2]; rfl⟩
      · have hne : l ≠ [] := fun h => by subst h; simp at hv
        obtain ⟨s1, s2⟩ := hspot hne
        obtain ⟨q1, y, q2, q3⟩ := hcell i v j c hv hj
        rw [addr_eq s1, ← Nat.add_assoc] at q2
        rw [q2]
        exact q3
    · refine Nat.le_trans ?_ (hB.slice _ _)
      have : ∀ (l : List α) (elems : List (DataW H × List MemPlace)), l.length = elems.length → (∀ (i : Nat) (b : α) (y : DataW H × List MemPlace), l[i]? = some b → elems[i]? = some y → R.bulk b ≤ B y.1) → (l.map R.bulk).sum ≤ ((elems.map (·.1)).map B).sum := by
        intro l
        induction l with
        | nil => intro elems _ _; simp
        | cons b l ih =>
          intro elems hl hb
          cases elems with
          | nil => simp at hl
          | cons y elems =>
            simp only [List.map_cons, List.sum_cons]
            have h1 := hb 0 b y rfl rfl
            have h2 := ih elems (by simpa using hl) fun i b y h1 h2 => hb (i + 1) b y (by simpa using h1) (by simpa using h2)
            omega
      have := this l elems l1 fun i b y h1 h2 => by obtain ⟨_, _, _, k, _⟩ := l2 i b y h1 h2; exact k
      show (l.map R.bulk).sum + 1 ≤ _
      omega
    · obtain ⟨i, hi⟩ := List.mem_iff_getElem?.1 hb
      have hlt : i < elems.length := by rw [← l1]; exact (List.getElem?_eq_some_iff.1 hi).1
      obtain ⟨_, _, _, _, k⟩ := l2 i b _ hi (List.getElem?_eq_getElem hlt)
      exact k

/-! ### structs: field by field -/
structure FRd (α : Type) where
  cells : α → List AV
  bulk : α → Nat
  good : α → Prop
/-- fields one behind the other, from a place on -/
def FRd.OkAt {α : Type} (R : FRd α) (P : Program) (B : {H : Type} → DataW H → Nat) (fs : List Field) (o n : Nat) : Prop :=
  ∀ {H : Type} (enc : TypeId × Value → H) (W : World) (fuel : Nat) (cs : List Value) (xs : List (DataW H × List MemPlace)), fuel ≤ n → xs.length = fs.length →
    (∀ (i : Nat) (f : Field), fs[i]? = some f → DataW.trod enc P W 0 (fun _ => true) true fuel f.type ((cs.drop f.offset).take (P.cellsOf f.type)) = xs[i]?) →
    ∃ a, CellsRep W (((cs.drop o).take (R.cells a).length)) (R.cells a) ∧ R.bulk a ≤ ((xs.map (·.1)).map B).sum ∧ R.good a
def frNil : FRd Unit := ⟨fun _ => [], fun _ => 0, fun _ => True⟩
theorem frNil_ok {o n : Nat} : frNil.OkAt P B [] o n := fun enc W fuel cs xs _ _ _ => ⟨(), ⟨by simp [frNil], fun i a v h => by simp [frNil] at h⟩, Nat.zero_le _, trivial⟩
def frCons {α β : Type} (R : Rd α) (F : FRd β) : FRd (α × β) := ⟨fun x => (R.av x.1).cells ++ F.cells x.2, fun x => R.bulk x.1 + F.bulk x.2, fun x => R.good x.1 ∧ F.good x.2⟩
theorem frCons_ok {α β : Type} {R : Rd α} {F : FRd β} {f : Field} {fs : List Field} {o n : Nat} (ho : f.offset = o) (hsz : ∀ a, (R.av a).cells.length = P.cellsOf f.type) (hR : R.OkAt P B f.type n) (hF : F.OkAt P B fs (o + P.cellsOf f.type) n) :
    (frCons R F).OkAt P B (f :: fs) o n := fun {H} enc W fuel cs xs hf hl hx => by
  cases xs with
  | nil => simp at hl
  | cons x xs =>
    have h0 := hx 0 f rfl
    simp only [List.getElem?_cons_zero] at h0
    obtain ⟨a, a1, a2, a3⟩ := hR enc W fuel _ x hf h0
    obtain ⟨b, b1, b2, b3⟩ := hF enc W fuel cs xs hf (by simpa using hl) fun i g hg => by
      have := hx (i + 1) g (by simpa using hg)
      simpa using this
    refine ⟨(a, b), ?_, ?_, a3, b3⟩
    · have e : (cs.drop o).take ((frCons R F).cells (a, b)).length = (cs.drop f.offset).take (P.cellsOf f.type) ++ (cs.drop (o + P.cellsOf f.type)).take (F.cells b).length := by
        show (cs.drop o).take ((R.av a).cells ++ F.cells b).length = _
        rw [List.length_append, hsz a, ho, List.take_add, List.drop_drop]
      rw [e]
      exact a1.append b1
    · simp only [List.map_cons, List.sum_cons]
      exact Nat.add_le_add a2 b2
/-- a struct out of its fields -/
theorem rdStruct_ok (hB : BulkOk B) {α γ : Type} {F : FRd α} {R : Rd γ} {t : TypeId} {fs : List Field} (mk : α → γ) (ht : P.underlying t = some (.struct fs.toArray)) {n : Nat} (hF : F.OkAt P B fs 0 n) (hlen : ∀ a, (F.cells a).length = P.cellsOf t)
    (hc : ∀ a, (R.av (mk a)).cells = F.cells a) (hb : ∀ a, R.bulk (mk a) ≤ F.bulk a) (hg : ∀ a, F.good a → R.good (mk a)) : R.OkAt P B t (n + 1) := fun enc W fuel cs x hf hx => by
  obtain ⟨xs, m, rfl, rfl, h1, h2, h3⟩ := DataW.trod_struct ht hx
  obtain ⟨a, a1, a2, a3⟩ := hF enc W m cs xs (by omega) (by simpa using h2) fun i f hf => h3 i f (by simpa using hf)
  rw [List.drop_zero, hlen a, ← h1, List.take_length] at a1
  exact ⟨mk a, by rw [hc]; exact a1, Nat.le_trans (hb a) (Nat.le_trans a2 (hB.agg _)), hg a a3⟩

theorem rdSl_at (hB : BulkOk B) {α : Type} (R : Rd α) {t e k n : Nat} (ht : P.underlying t = some (.slice e)) (hk : szT P e = k + 1) (hsz : ∀ a, (R.av a).cells.length = k + 1) (hR : R.OkAt P B e n) : (rdSl R).OkAt P B t (n + 1) :=
  rdSl_ok hB ht (by show 0 < szT P e; omega) (fun a => (hsz a).trans hk.symm) hR
theorem frCons_at {α β : Type} {R : Rd α} {F : FRd β} {f : Field} {fs : List Field} {o k n : Nat} (ho : f.offset = o) (hk : szT P f.type = k) (hsz : ∀ a, (R.av a).cells.length = k) (hR : R.OkAt P B f.type n) (hF : F.OkAt P B fs (o + k) n) :
    (frCons R F).OkAt P B (f :: fs) o n := frCons_ok ho (fun a => (hsz a).trans hk.symm) hR (by subst hk; exact hF)
theorem rdStruct_at (hB : BulkOk B) {α γ : Type} (F : FRd α) (R : Rd γ) {t k : Nat} {fs : List Field} (mk : α → γ) (ht : P.underlying t = some (.struct fs.toArray)) (hk : szT P t = k) {n : Nat} (hF : F.OkAt P B fs 0 n) (hlen : ∀ a, (F.cells a).length = k)
    (hc : ∀ a, (R.av (mk a)).cells = F.cells a) (hb : ∀ a, R.bulk (mk a) ≤ F.bulk a) (hg : ∀ a, F.good a → R.good (mk a)) : R.OkAt P B t (n + 1) :=
  rdStruct_ok hB mk ht hF (fun a => (hlen a).trans hk.symm) hc hb hg
/-! ### a call's arguments -/
/-- one value: as its type has it -/
theorem rep_val {W : World} {a : AV} {v : Value} (h : CellsRep W v.cells.toList a.cells) (hs : (∃ cs, a = .agg cs) ↔ ∃ vs, v = .agg vs) (ht : ∀ vs, v ≠ .tuple vs) : Rep (gAll W) W a v := by
  by_cases hag : ∃ cs, a = .agg cs
  · obtain ⟨vs, rfl⟩ := hs.1 hag
    obtain ⟨cs, rfl⟩ := hag
    have h' : CellsRep W vs.toList cs := h
    exact .agg cs vs (by simpa using h'.1) fun i c x hc hx => (h'.2 i c x hc (by simpa using hx)).2
  · have hv : ∀ vs, v ≠ .agg vs := fun vs e => hag (hs.2 ⟨vs, e⟩)
    have e1 : a.cells = [a] := cells_agg fun cs e => hag ⟨cs, e⟩
    have e2 : v.cells = #[v] := by cases v <;> first | rfl | exact absurd rfl (hv _) | exact absurd rfl (ht _)
    rw [e1, e2] at h
    exact (h.2 0 a v rfl rfl).2

/-! ### a program's facts -/
def progOk (P : Program) (A : Ann) : Bool := P.funcs.toList.zipIdx.all fun x => match x.1.body with | some c => fitsC P A x.2 x.1.ntmps c && !(x.1.name == "runtime.NumGoroutine") | none => true
theorem progOk_at {P : Program} {A : Ann} (h : progOk P A = true) {f : Nat} {fn : Func} {c : Code} (hf : P.funcs[f]? = some fn) (hb : fn.body = some c) : fitsC P A f fn.ntmps c = true ∧ (fn.name == "runtime.NumGoroutine") = false := by
  have := List.all_eq_true.1 h (fn, f) (List.mem_zipIdx_iff_getElem?.2 (by simpa using hf))
  simp only [hb, Bool.and_eq_true, Bool.not_eq_true'] at this
  exact this
theorem noNum_of {P : Program} {A : Ann} (h : progOk P A = true) : NoNum P := fun _ fn hf hb => by
  cases hc : fn.body with
  | none => rw [hc] at hb; cases hb
  | some c => exact (progOk_at h hf hc).2
theorem fitsP_of {P : Program} {A : Ann} (h : progOk P A = true) : FitsP P A := fun _ _ _ hf hb => (progOk_at h hf hb).1
theorem orcOk_none {P : Program} {A : Ann} (h : ∀ f, A.orc f = none) : OrcOk P A := ⟨(fun f F hF => by rw [h] at hF; cases hF), (fun f F hF => by rw [h] at hF; cases hF)⟩
end Ev
