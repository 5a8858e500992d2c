/- Operations that only reckon: what the evaluator says of them is what the model does. -/
import Derived.Test.YtecflllnnbiheaaEv3
import GoSem.Dispatch
import Derived.Lib.Strings
import Derived.Laws.Cells
import Derived.Laws.IdiomCopy
set_option maxHeartbeats 4000000
set_option linter.unusedVariables false
set_option linter.unusedSimpArgs false
namespace Ev
open Go

section
variable {P : Program} {g : Gh} {w : World}

theorem ofCell_rep (v : Value) : Rep g w (ofCell v) v := by
  unfold ofCell
  split
  case h_1 b => exact .bool b
  case h_2 k n => exact .int k n
  case h_3 s => exact (show s = ⟨s.data.toList.toArray⟩ by simp) ▸ .str s.data.toList
  case h_4 => exact .nilp
  case h_5 => exact .sl [] .full none 0 0 0 1 (fun _ _ => .nilFunc) (Nat.le_refl _) rfl (fun h => absurd rfl h) (fun i v h => by simp at h) (fun i v j c h => by simp at h) (fun i v j c h => by simp at h)
  case h_6 => exact .nilf
  case h_7 => exact .nili
  case h_8 => exact .nilm
  all_goals exact .junk _
theorem ofVal_rep (v : Value) : Rep g w (ofVal v) v := by
  unfold ofVal
  split
  case h_1 cs =>
    refine .agg _ _ (by simp) fun i c v hc hv => ?_
    simp only [List.getElem?_map, Array.getElem?_toList, hv, Option.map_some, Option.some.injEq] at hc
    rw [← hc]
    exact ofCell_rep v
  case h_2 vs =>
    split
    · rename_i h
      have : vs = #[] := by simpa using h
      subst this
      exact .tup [] #[] rfl fun i c v h => by simp at h
    · exact .junk _
  all_goals exact ofCell_rep _

theorem getE_of {t : Nat} : ∀ {e : Env}, getE e t = (getE? e t).getD .junk
  | [] => rfl
  | (i, v) :: e => by
    unfold getE getE?
    by_cases h : i = t
    · rw [if_pos h, if_pos h]; rfl
    · rw [if_neg h, if_neg h]; exact getE_of
theorem getE_rep {e : Env} {t : Array Value} (he : EnvOk g w e t) (k : Nat) : Rep g w (getE e k) (t.getD k undef) := by
  rw [getE_of]
  cases h : getE? e k with
  | none => exact .junk _
  | some v =>
    obtain ⟨x, h1, h2⟩ := he k v h
    rw [Array.getD_eq_getD_getElem?, h1]
    exact h2
theorem opd_rep {e : Env} {a : Act} (he : EnvOk g w e a.tmps) (x : Operand) : Rep g w (opd e x) (a.eval x) := by
  cases x with
  | tmp t => exact getE_rep he t
  | const v => exact ofVal_rep v
  | global k => exact .junk _
  | func f => exact .fn f [] #[] rfl fun i c v h => by simp at h

/-! ### inversions -/
theorem Rep.int_inv {k : IntKind} {n : Int} {x : Value} (h : Rep g w (.int k n) x) : x = .int k n := by cases h; rfl
theorem Rep.bool_inv {b : Bool} {x : Value} (h : Rep g w (.bool b) x) : x = .bool b := by cases h; rfl
theorem Rep.str_inv {s : List UInt8} {x : Value} (h : Rep g w (.str s) x) : x = .string ⟨s.toArray⟩ := by cases h; rfl
theorem Rep.agg_inv {cs : List AV} {x : Value} (h : Rep g w (.agg cs) x) : ∃ vs, x = .agg vs ∧ cs.length = vs.size ∧ ∀ (i : Nat) c v, cs[i]? = some c → vs[i]? = some v → Rep g w c v := by
  cases h with | agg _ vs hn h => exact ⟨vs, rfl, hn, h⟩
theorem Rep.tup_inv {cs : List AV} {x : Value} (h : Rep g w (.tup cs) x) : ∃ vs, x = .tuple vs ∧ cs.length = vs.size ∧ ∀ (i : Nat) c v, cs[i]? = some c → vs[i]? = some v → Rep g w c v := by
  cases h with | tup _ vs hn h => exact ⟨vs, rfl, hn, h⟩

theorem isCell_cells {v : AV} (h : v.isCell = true) : v.cells = [v] := by cases v <;> simp_all [AV.isCell, AV.cells]
theorem Rep.oneCell {c : AV} {x : Value} (h : Rep g w c x) (hc : c.isCell = true) : x.oneCell' = true ∧ x.cells = #[x] := by
  cases h <;> simp_all [AV.isCell, Value.oneCell', Value.cells]
/-- A flat value's cells stand for the model's, one by one. -/
theorem Rep.flat_cells {v : AV} {x : Value} (h : Rep g w v x) (hf : v.flat = true) :
    v.cells.length = x.cells.size ∧ ∀ (j : Nat) c y, v.cells[j]? = some c → x.cells[j]? = some y → c.isCell = true ∧ Rep g w c y := by
  have hall : ∀ (j : Nat) c, v.cells[j]? = some c → c.isCell = true := fun j c hc => List.all_eq_true.1 hf c (List.mem_iff_getElem?.2 ⟨j, hc⟩)
  by_cases hv : ∃ cs, v = .agg cs
  · obtain ⟨cs, rfl⟩ := hv
    obtain ⟨vs, rfl, hn, hh⟩ := h.agg_inv
    exact ⟨hn, fun j c y hc hy => ⟨hall j c hc, hh j c y hc hy⟩⟩
  · have e1 : v.cells = [v] := by cases v <;> first | rfl | exact absurd ⟨_, rfl⟩ hv
    rw [e1] at hall ⊢
    have hc := hall 0 _ rfl
    obtain ⟨_, h2⟩ := h.oneCell hc
    rw [h2]
    refine ⟨rfl, fun j c y hj hy => ?_⟩
    cases j with
    | zero => simp at hj hy; subst hj; subst hy; exact ⟨hc, h⟩
    | succ j => simp at hj

/-! ### types -/
theorem run_underlying {t : TypeId} {d : TypeDesc} (h : P.underlying t = some d) : (underlying t).run P w = .ok d w := by simp [underlying, h]
theorem info_of_underlying {t : TypeId} {d : TypeDesc} (h : P.underlying t = some d) : ∃ i, P.info? t = some i := by
  unfold Program.underlying at h
  cases hi : P.info? t with
  | none => rw [hi] at h; cases h
  | some i => exact ⟨i, rfl⟩
theorem run_size {t : TypeId} {i : TypeInfo} (h : P.info? t = some i) : (Go.sizeOf t).run P w = .ok (szT P t) w := by
  simp [Go.sizeOf, typeInfo, h, szT, Program.cellsOf]
theorem info_of_size {t : TypeId} (h : szT P t ≠ 0) : ∃ i, P.info? t = some i := by
  unfold szT Program.cellsOf at h
  cases hi : P.info? t with
  | none => rw [hi] at h; exact absurd rfl h
  | some i => exact ⟨i, rfl⟩
theorem run_sizeOf {t : TypeId} (h : szT P t ≠ 0) : (Go.sizeOf t).run P w = .ok (szT P t) w := by
  obtain ⟨i, hi⟩ := info_of_size h
  exact run_size hi
theorem cellT_some {t : TypeId} {ag : Bool} {n : Nat} (h : cellT P t = some (ag, n)) : (Go.isAgg t).run P w = .ok ag w ∧ (Go.sizeOf t).run P w = .ok n w := by
  unfold cellT at h
  cases hu : P.underlying t with
  | none => rw [hu] at h; cases h
  | some d =>
    obtain ⟨i, hi⟩ := info_of_underlying hu
    have h1 : (Go.sizeOf t).run P w = .ok (P.cellsOf t) w := run_size hi
    have h2 : (Go.isAgg t).run P w = .ok (match d with | .struct _ => true | .array _ _ => true | _ => false) w := by
      unfold Go.isAgg
      rw [Sem.run_bind, run_underlying hu]
      cases d <;> rfl
    rw [hu] at h
    cases d <;> (simp only [Option.some.injEq, Prod.mk.injEq] at h; obtain ⟨rfl, rfl⟩ := h; exact ⟨h2, h1⟩)
theorem elemT_some {t el : TypeId} (h : elemT P t = some el) : P.underlying t = some (.slice el) := by
  unfold elemT at h
  split at h
  · split at h <;> simp_all
  · cases h
theorem elemT_sz {t el : TypeId} (h : elemT P t = some el) : szT P el ≠ 0 := by
  unfold elemT at h
  split at h
  · split at h
    · cases h
    · rename_i hz; cases h; exact hz
  · cases h
theorem arrT_some {t el : TypeId} {n : Nat} (h : arrT P t = some (n, el)) : P.underlying t = some (.array n el) := by
  unfold arrT at h
  split at h
  · split at h
    · cases h
    · simp only [Option.some.injEq, Prod.mk.injEq] at h; obtain ⟨rfl, rfl⟩ := h; assumption
  · cases h
theorem arrT_sz {t el : TypeId} {n : Nat} (h : arrT P t = some (n, el)) : szT P el ≠ 0 := by
  unfold arrT at h
  split at h
  · split at h
    · cases h
    · rename_i hz; simp only [Option.some.injEq, Prod.mk.injEq] at h; obtain ⟨rfl, rfl⟩ := h; exact hz
  · cases h
theorem isStr_true {t : TypeId} (h : isStr P t = true) : P.underlying t = some .string := by
  unfold isStr at h; split at h <;> simp_all
theorem intT_some {t : TypeId} {k : IntKind} (h : intT P t = some k) : P.underlying t = some (.int k) := by
  unfold intT at h; split at h <;> simp_all
theorem mapT_some {t k el : TypeId} (h : mapT P t = some (k, el)) : P.underlying t = some (.map k el) := by
  unfold mapT at h; split at h <;> simp_all

/-! ### parts of values -/
/-- A value's cells stand in memory. -/
def CellsAt (g : Gh) (w : World) (v : AV) (B base : Nat) : Prop := ∀ (j : Nat) c, v.cells[j]? = some c → c.isCell = true ∧ ∃ y, w.cell? ⟨B, base + j, none⟩ = some y ∧ Rep g w c y

theorem add_none (B o j : Nat) : (⟨B, o, none⟩ : Addr).add j = ⟨B, o + j, none⟩ := by unfold Addr.add; split <;> simp_all

theorem cells_agg {v : AV} (h : ∀ cs, v ≠ .agg cs) : v.cells = [v] := by cases v <;> first | rfl | exact absurd rfl (h _)
theorem part_ag {v r : AV} {o n : Nat} (h : v.part o true n = some r) : o + n ≤ v.cells.length ∧ r = .agg ((v.cells.drop o).take n) := by
  unfold AV.part at h
  simp only [if_true] at h
  split at h
  · rename_i hh
    obtain ⟨rfl, rfl⟩ := hh
    refine ⟨by omega, ?_⟩
    simp only [List.drop_zero, List.take_length]
    cases v <;> simp only [Option.some.injEq] at h <;> (rw [← h]; rfl)
  · split at h
    · rename_i hh; cases h; exact ⟨hh, rfl⟩
    · cases h
theorem part_one {v r : AV} {o n : Nat} (h : v.part o false n = some r) : v.cells[o]? = some r := by
  unfold AV.part at h
  simpa using h

theorem load_part {v r : AV} {t : TypeId} {ag : Bool} {n o B base : Nat} (hc : CellsAt g w v B base) (ht : cellT P t = some (ag, n)) (h : v.part o ag n = some r) :
    ∃ V, (loadVar t ⟨B, base + o, none⟩).run P w = .ok V w ∧ Rep g w r V := by
  obtain ⟨h1, h2⟩ := cellT_some (w := w) ht
  unfold loadVar
  cases ag with
  | true =>
    obtain ⟨hl, rfl⟩ := part_ag h
    have hx : ∀ j, j < n → ∃ c y, v.cells[o + j]? = some c ∧ w.cell? ⟨B, base + o + j, none⟩ = some y ∧ Rep g w c y := fun j hj => by
      have hlt : o + j < v.cells.length := by omega
      obtain ⟨_, y, hy, hr⟩ := hc (o + j) _ (List.getElem?_eq_getElem hlt)
      exact ⟨_, y, List.getElem?_eq_getElem hlt, by rw [Nat.add_assoc]; exact hy, hr⟩
    have hf : ∃ f : Nat → Value, ∀ j, j < n → w.cell? ⟨B, base + o + j, none⟩ = some (f j) ∧ ∀ c, v.cells[o + j]? = some c → Rep g w c (f j) := by
      refine ⟨fun j => if hj : j < n then (hx j hj).choose_spec.choose else undef, fun j hj => ?_⟩
      simp only [hj, dif_pos]
      obtain ⟨a1, a2, a3⟩ := (hx j hj).choose_spec.choose_spec
      exact ⟨a2, fun c hcc => by rw [a1] at hcc; cases hcc; exact a3⟩
    obtain ⟨f, hf⟩ := hf
    have hl2 := run_loadCells (P := P) w ⟨B, base + o, none⟩ n f (fun j hj => by rw [add_none]; exact (hf j hj).1)
    refine ⟨.agg ((List.range n).map f).toArray, ?_, .agg _ _ ?_ fun i c x hci hxi => ?_⟩
    · simp only [Sem.run_bind, h1, Result.andThen_ok, if_true, h2, hl2, Sem.run_pure]
    · simp only [List.length_take, List.length_drop, List.size_toArray, List.length_map, List.length_range]; omega
    · have hi : i < n := by
        rcases Nat.lt_or_ge i n with h' | h'
        · exact h'
        · rw [List.getElem?_eq_none (by simp only [List.length_take]; omega)] at hci; cases hci
      rw [List.getElem?_take_of_lt hi, List.getElem?_drop] at hci
      have : x = f i := by
        simp only [List.getElem?_toArray, List.getElem?_map, List.getElem?_range hi, Option.map_some, Option.some.injEq] at hxi
        exact hxi.symm
      rw [this]
      exact (hf i hi).2 c hci
  | false =>
    obtain ⟨_, y, hy, hr⟩ := hc o r (part_one h)
    exact ⟨y, by simp only [Sem.run_bind, h1, Result.andThen_ok, Bool.false_eq_true, if_false, run_load, hy], hr⟩

theorem agg_part {cs : List AV} {vs : Array Value} {r : AV} {t : TypeId} {ag : Bool} {n o : Nat} (hr : Rep g w (.agg cs) (.agg vs)) (ht : cellT P t = some (ag, n)) (h : (AV.agg cs).part o ag n = some r) :
    ∃ V, (Go.part t vs o).run P w = .ok V w ∧ Rep g w r V := by
  obtain ⟨h1, h2⟩ := cellT_some (w := w) ht
  obtain ⟨vs', e, hn, hh⟩ := hr.agg_inv
  cases e
  unfold Go.part
  cases ag with
  | true =>
    obtain ⟨hl, rfl⟩ := part_ag h
    simp only [AV.cells] at hl ⊢
    refine ⟨.agg (vs.extract o (o + n)), by simp only [Sem.run_bind, h1, Result.andThen_ok, if_true, h2, Sem.run_pure], .agg _ _ ?_ fun i c x hci hxi => ?_⟩
    · simp only [List.length_take, List.length_drop, Array.size_extract]; omega
    · have hi : i < n := by
        rcases Nat.lt_or_ge i n with h' | h'
        · exact h'
        · rw [List.getElem?_eq_none (by simp only [List.length_take]; omega)] at hci; cases hci
      rw [List.getElem?_take_of_lt hi, List.getElem?_drop] at hci
      rw [Array.getElem?_extract] at hxi
      split at hxi
      · exact hh _ _ _ hci hxi
      · cases hxi
  | false =>
    have h3 := part_one h
    simp only [AV.cells] at h3
    have ho : o < vs.size := by rw [← hn]; exact (List.getElem?_eq_some_iff.1 h3).1
    have h4 : vs[o]? = some vs[o] := Array.getElem?_eq_getElem ho
    exact ⟨vs[o], by simp only [Sem.run_bind, h1, Result.andThen_ok, Bool.false_eq_true, if_false, h4, Sem.run_pure], hh _ _ _ h3 h4⟩

/-! ### heaps read -/
theorem hpOf_blk {L G : Hp} (s : Sim g w L G) {loc : Bool} {b : Nat} {x : Blk} (h : (hpOf loc L G)[b]? = some x) : BlkOk g w loc b x := by
  cases loc with
  | true => exact s.l.blk b x h
  | false => exact s.g.hp.blk b x h
theorem RowOk.cellsAt {loc : Bool} {b : Nat} {l : Loc} {es : List AV} (h : RowOk g w loc b l es) {i : Nat} {v : AV} (hv : es[i]? = some v) : CellsAt g w v l.B (l.base + i * l.sz) :=
  fun j c hc => h.cell i v j c hv hc
theorem rowAt_row {L G : Hp} (s : Sim g w L G) {loc : Bool} {b gen i : Nat} {v : AV} (h : rowAt (hpOf loc L G) b gen i = some v) :
    ∃ l es, (hpOf loc L G)[b]? = some (.row gen es) ∧ g.mu loc b gen = some l ∧ RowOk g w loc b l es ∧ es[i]? = some v := by
  unfold rowAt at h
  split at h
  · rename_i g' es hb
    split at h
    · rename_i hg
      subst hg
      obtain ⟨l, h1, _, h3⟩ := hpOf_blk s hb
      exact ⟨l, es, hb, h1, h3, h⟩
    · cases h
  · cases h

theorem load_sound {L G : Hp} (s : Sim g w L G) {t : TypeId} {p r : AV} {X : Value} (hp : Rep g w p X) (h : loadA P t p L G = some r) :
    ∃ V, (Instr.loadAt t X).run P w = .ok V w ∧ Rep g w r V := by
  unfold loadA at h
  split at h
  · rename_i loc b gen i o
    replace h := Option.bind_eq_some_iff.1 h
    obtain ⟨⟨ag, n⟩, ht, h⟩ := h
    replace h := Option.bind_eq_some_iff.1 h
    obtain ⟨v, hv, h⟩ := h
    obtain ⟨l, es, hb, hm, hrow, hi⟩ := rowAt_row s hv
    cases hp with
    | ptr _ _ _ _ _ l' hm' =>
      rw [hm] at hm'
      cases hm'
      obtain ⟨V, h1, h2⟩ := load_part (hrow.cellsAt hi) ht h
      exact ⟨V, by simp only [Instr.loadAt, Instr.sureAddr, Sem.run_bind, Sem.run_pure, Result.andThen_ok, h1], h2⟩
  · rename_i v o
    replace h := Option.bind_eq_some_iff.1 h
    obtain ⟨⟨ag, n⟩, ht, h⟩ := h
    cases hp with
    | rptr _ _ B base y h1 h2 =>
      obtain ⟨V, h1, h2⟩ := load_part (B := B) (base := base) (fun j c hc => ⟨(h1 j c hc).1, y j, (h1 j c hc).2.2, h2 j c hc⟩) ht h
      exact ⟨V, by simp only [Instr.loadAt, Instr.sureAddr, Sem.run_bind, Sem.run_pure, Result.andThen_ok, h1], h2⟩
  · cases h

/-! ### arithmetic -/
theorem toList_bytes (s : List UInt8) : (⟨s.toArray⟩ : ByteArray).toList = s := by rw [ByteArray.toList_eq]
theorem size_bytes (s : List UInt8) : (⟨s.toArray⟩ : ByteArray).size = s.length := by simp [ByteArray.size]
theorem append_bytes (a b : List UInt8) : (⟨a.toArray⟩ : ByteArray) ++ ⟨b.toArray⟩ = ⟨(a ++ b).toArray⟩ := by
  apply ByteArray.ext; simp
theorem bytesLess_eq : ∀ (a b : List UInt8), Op.bytesLess a b = bytesLt a b
  | _, [] => by cases ‹List UInt8› <;> rfl
  | [], _ :: _ => rfl
  | a :: x, b :: y => by rw [Op.bytesLess, bytesLt, bytesLess_eq x y]

theorem run_guard {op : BinOp} {t : TypeId} {ox oy : Operand} {X Y : Value} (h1 : X ≠ .nilIface) (h2 : ∀ cs, X ≠ .agg cs) :
    (eqGuard op t ox oy X Y).run P w = .ok () w := by
  cases X <;> first
    | exact absurd rfl h1
    | exact absurd rfl (h2 _)
    | (unfold eqGuard; simp only [Sem.run_ite, Sem.run_pure]; split <;> rfl)

theorem run_equal_bool {t : TypeId} (hu : P.underlying t = some .bool) (a b : Bool) : (Op.equal t (.bool a) (.bool b)).run P w = .ok (a == b) w := by
  have h : Op.maxDepth = 9999 + 1 := rfl
  unfold Op.equal
  rw [h, Op.equalIn, Sem.run_bind, run_underlying hu]
  rfl

theorem run_bin {op : BinOp} {t : TypeId} {ox oy : Operand} {x y v : AV} {X Y : Value} (hx : Rep g w x X) (hy : Rep g w y Y) (h : binA P t op x y = some v) :
    ∃ V, (do eqGuard op t ox oy X Y; binOp op t X Y).run P w = .ok V w ∧ Rep g w v V := by
  unfold binA at h
  split at h
  · rename_i k a k' b
    rw [hx.int_inv, hy.int_inv, Sem.run_bind, run_guard (by simp) (by simp), Result.andThen_ok]
    split at h
    · split at h
      · cases h
      · rename_i hb
        cases h
        exact ⟨_, by simp [binOp, Op.shift, hb], .int _ _⟩
    · split at h
      · cases h
      · rename_i hb
        cases h
        exact ⟨_, by simp [binOp, Op.shift, hb], .int _ _⟩
    · rename_i n1 n2
      split at h
      · cases h
      · rename_i hk
        have hk' : k = k' := Decidable.not_not.1 hk
        subst hk'
        split at h <;> first
          | (split at h
             · cases h
             · rename_i hb; cases h; refine ⟨_, ?_, .int _ _⟩; simp only [binOp, ne_eq, not_true_eq_false, if_false, Op.intDiv]; rw [if_neg hb]; rfl)
          | (cases h; done)
          | (cases h; refine ⟨_, ?_, .int _ _⟩; simp only [binOp, ne_eq, not_true_eq_false, if_false]; rfl)
          | (cases h; refine ⟨_, ?_, .bool _⟩; simp only [binOp, ne_eq, not_true_eq_false, if_false]; rfl)
  · rename_i a b
    rw [hx.str_inv, hy.str_inv, Sem.run_bind, run_guard (by simp) (by simp), Result.andThen_ok]
    split at h <;> first
      | (split at h
         · rename_i hl
           cases h
           refine ⟨_, ?_, .str _⟩
           simp only [binOp, Op.stringOp, size_bytes, append_bytes]
           rw [if_neg (by have : IntKind.i64.max = 9223372036854775807 := by decide
                          rw [this]; omega)]
           rfl
         · cases h)
      | (cases h; done)
      | (cases h; refine ⟨_, ?_, .bool _⟩; simp only [binOp, Op.stringOp, toList_bytes, bytesLess_eq]; rfl)
  · rename_i a b
    split at h
    · cases h
    · rename_i hb
      have hu : P.underlying t = some .bool := by
        unfold isBl at hb
        split at hb
        · assumption
        · exact absurd rfl hb
      rw [hx.bool_inv, hy.bool_inv, Sem.run_bind, run_guard (by simp) (by simp), Result.andThen_ok]
      split at h <;> first
        | (cases h; done)
        | (cases h; refine ⟨_, ?_, .bool _⟩; simp only [binOp, Sem.run_bind, run_equal_bool hu, Result.andThen_ok, Sem.run_pure]; try rfl)
  · cases h
theorem run_un {op : UnOp} {x v : AV} {X : Value} (hx : Rep g w x X) (h : unA op x = some v) : ∃ V, (Op.unary op X).run P w = .ok V w ∧ Rep g w v V := by
  unfold unA at h
  split at h
  · cases h; rw [hx.bool_inv]; exact ⟨_, rfl, .bool _⟩
  · cases h; rw [hx.int_inv]; exact ⟨_, rfl, .int _ _⟩
  · cases h

theorem run_conv {s d : TypeId} {x v : AV} {X : Value} (hx : Rep g w x X) (h : convA P s d x = some v) : ∃ V, (convert s d X).run P w = .ok V w ∧ Rep g w v V := by
  unfold convA at h
  split at h
  · split at h
    · cases h
    · rename_i k n hs
      replace h := Option.map_eq_some_iff.1 h
      obtain ⟨k', hk, h⟩ := h
      subst h
      have hd := intT_some hk
      cases hu : P.underlying s with
      | none => rw [hu] at hs; exact absurd rfl hs
      | some ds =>
        rw [hx.int_inv]
        refine ⟨.int k' (k'.wrap n), ?_, .int _ _⟩
        unfold convert
        simp only [Sem.run_bind, run_underlying hu, run_underlying hd, Result.andThen_ok]
        rfl
  · split at h
    · rename_i s' hs
      cases h
      rw [hx.str_inv]
      refine ⟨_, ?_, .str _⟩
      unfold convert
      simp only [Sem.run_bind, run_underlying (isStr_true hs.2), run_underlying (isStr_true hs.1), Result.andThen_ok]
      rfl
    · cases h
  · cases h

theorem run_len {t ty : TypeId} {x : AV} {X : Value} {n : Nat} (hx : Rep g w x X) (h : lenA P t x = some n) : (Builtin.len_ #[t] ty #[X]).run P w = .ok (.int .i64 n) w := by
  unfold lenA at h
  split at h
  · split at h
    · rename_i s hs
      cases h
      rw [hx.str_inv]
      unfold Builtin.len_
      simp only [Sem.run_bind, run_underlying (isStr_true hs), Result.andThen_ok, List.getElem?_toArray, List.getElem?_cons_zero, size_bytes]
      rfl
    · cases h
  · split at h
    · rename_i es tk hs
      cases h
      obtain ⟨el, he⟩ := Option.isSome_iff_exists.1 hs
      cases hx with
      | sl _ _ a cap =>
        unfold Builtin.len_
        simp only [Sem.run_bind, run_underlying (elemT_some he), Result.andThen_ok, List.getElem?_toArray, List.getElem?_cons_zero]
        rfl
    · cases h
  · split at h
    · rename_i hs
      cases h
      obtain ⟨el, he⟩ := Option.isSome_iff_exists.1 hs
      cases hx with
      | hs =>
        unfold Builtin.len_
        simp only [Sem.run_bind, run_underlying (elemT_some he), Result.andThen_ok, List.getElem?_toArray, List.getElem?_cons_zero]
        rfl
    · cases h
  · replace h := Option.map_eq_some_iff.1 h
    obtain ⟨⟨m, el⟩, hm, h⟩ := h
    cases h
    obtain ⟨vs, rfl, _⟩ := hx.agg_inv
    unfold Builtin.len_
    simp only [Sem.run_bind, run_underlying (arrT_some hm), Result.andThen_ok, List.getElem?_toArray, List.getElem?_cons_zero]
    rfl
  · cases h

theorem run_bound {x : AV} {X : Value} {dflt most n : Nat} {code : BoundsCode} (hx : Rep g w x X) (h : boundA (some x) dflt most = some n) :
    (Instr.sliceBound X most code).run P w = .ok n w ∧ n ≤ most := by
  unfold boundA at h
  split at h
  · rename_i h'; cases h'
  · rename_i k m h'
    cases h'
    split at h
    · rename_i hm
      cases h
      rw [hx.int_inv]
      refine ⟨?_, by omega⟩
      unfold Instr.sliceBound
      simp only [asIntOf, Sem.run_bind, Sem.run_pure, Result.andThen_ok]
      rw [if_pos hm]
      rfl
    · cases h
  · cases h

theorem bound_none {dflt most n : Nat} (h : boundA none dflt most = some n) : n = dflt := by unfold boundA at h; simpa using h.symm

theorem run_bounds {isSl : Bool} {len cap h l : Nat} {lo hi : Option AV} {LO HI : Option Value} (hlo : ∀ v V, lo = some v → LO = some V → Rep g w v V) (hhi : ∀ v V, hi = some v → HI = some V → Rep g w v V)
    (elo : lo.isSome = LO.isSome) (ehi : hi.isSome = HI.isSome) (hc : len ≤ cap) (h1 : boundA hi len len = some h) (h2 : boundA lo 0 h = some l) :
    (Instr.sliceBounds isSl len cap LO HI none).run P w = .ok (l, h, cap) w ∧ l ≤ h ∧ h ≤ len := by
  have k1 : h ≤ len ∧ (HI = none → h = len) ∧ ∀ V, HI = some V → ∀ code, (Instr.sliceBound V cap code).run P w = .ok h w := by
    cases hi with
    | none =>
      have := bound_none h1
      subst this
      exact ⟨Nat.le_refl _, fun _ => rfl, fun V e => by rw [e] at ehi; cases ehi⟩
    | some v =>
      cases HI with
      | none => cases ehi
      | some V =>
        have hr := hhi v V rfl rfl
        have h3 : boundA (some v) len cap = some h := by
          unfold boundA at h1 ⊢
          split at h1
          · rename_i h'; cases h'
          · split at h1
            · rename_i hm; rw [if_pos (by omega)]; exact h1
            · cases h1
          · cases h1
        exact ⟨(run_bound (P := P) (code := .index) hr h1).2, (fun e => by cases e), fun V' e code => by cases e; exact (run_bound hr h3).1⟩
  have k2 : l ≤ h ∧ (LO = none → l = 0) ∧ ∀ V, LO = some V → ∀ code, (Instr.sliceBound V h code).run P w = .ok l w := by
    cases lo with
    | none =>
      have := bound_none h2
      subst this
      exact ⟨Nat.zero_le _, fun _ => rfl, fun V e => by rw [e] at elo; cases elo⟩
    | some v =>
      cases LO with
      | none => cases elo
      | some V => exact ⟨(run_bound (P := P) (code := .index) (hlo v V rfl rfl) h2).2, (fun e => by cases e), fun V' e code => by cases e; exact (run_bound (hlo v V rfl rfl) h2).1⟩
  refine ⟨?_, k2.1, k1.1⟩
  unfold Instr.sliceBounds
  cases HI with
  | none =>
    have e1 := k1.2.1 rfl
    subst e1
    cases LO with
    | none => have e2 := k2.2.1 rfl; subst e2; rfl
    | some V => simp only [Sem.run_bind, Sem.run_pure, Result.andThen_ok, k2.2.2 V rfl]
  | some U =>
    cases LO with
    | none => have e2 := k2.2.1 rfl; subst e2; simp only [Sem.run_bind, Sem.run_pure, Result.andThen_ok, k1.2.2 U rfl]
    | some V => simp only [Sem.run_bind, Sem.run_pure, Result.andThen_ok, k1.2.2 U rfl, k2.2.2 V rfl]

/-- part of a slice that never changes -/
theorem sl_part {es : List AV} {t t' : Tok} {a : Option Addr} {cap l h : Nat} {el : TypeId}
    (hr : Rep g w (.sl es t) (.slice a es.length cap)) (hl : l ≤ h) (hh : h ≤ es.length) (m : Nat) (hm : h ≤ m) (hsz : l = 0 ∨ szOk P el es = true)
    (ht : t' = .no ∨ (t' = t ∧ m = cap ∧ h = es.length ∧ (l = 0 ∨ t = .full)) ∨ (t' = .full ∧ m = h)) :
    Rep g w (.sl ((es.drop l).take (h - l)) t') (.slice (if m = l then a else a.map (·.add (l * szT P el))) (h - l) (m - l)) := by
  cases hr with
  | sl _ _ _ _ B base sz y hc htk ha h0 h1 h2 =>
    have hlen : ((es.drop l).take (h - l)).length = h - l := by simp only [List.length_take, List.length_drop]; omega
    have hget : ∀ i v, ((es.drop l).take (h - l))[i]? = some v → es[l + i]? = some v := fun i v hv => by
      rcases Nat.lt_or_ge i (h - l) with h' | h'
      · rwa [List.getElem?_take_of_lt h', List.getElem?_drop] at hv
      · rw [List.getElem?_eq_none (by rw [hlen]; exact h')] at hv; cases hv
    have hne : (es.drop l).take (h - l) ≠ [] → es ≠ [] ∧ l < h := fun hn => by
      refine ⟨fun e => hn (by simp [e]), ?_⟩
      rcases Nat.lt_or_ge l h with h' | h'
      · exact h'
      · exact absurd (List.length_eq_zero_iff.1 (by rw [hlen]; omega)) hn
    have key := Rep.sl (g := g) (w := w) ((es.drop l).take (h - l)) t' (if m = l then a else a.map (·.add (l * szT P el))) (m - l) B (base + l * sz) sz (fun i j => y (l + i) j)
      (by rw [hlen]; omega) ?_ (fun hn => ?_) (fun i v hv => h0 _ v (hget i v hv)) (fun i v j c hv hj => ?_) (fun i v j c hv hj => h2 _ v j c (hget i v hv) hj)
    · rw [hlen] at key; exact key
    · rw [hlen]
      rcases ht with rfl | ⟨rfl, rfl, rfl, hor⟩ | ⟨rfl, rfl⟩
      · trivial
      · rcases hor with rfl | rfl
        · simp only [Nat.sub_zero]
          have : (if m = 0 then a else a.map (·.add (0 * szT P el))) = a := by
            split
            · rfl
            · cases a <;> simp [Addr.add]
          rw [this]
          exact htk
        · have e : m = es.length := htk
          show m - l = es.length - l
          rw [e]
      · rfl
    · obtain ⟨n1, n2⟩ := hne hn
      obtain ⟨rfl, hs⟩ := ha n1
      refine ⟨?_, hs⟩
      rw [if_neg (by omega)]
      have hz : l * szT P el = l * sz := by
        rcases hsz with rfl | hsz
        · simp
        · cases es with
          | nil => exact absurd rfl n1
          | cons v es => rw [← h0 0 v rfl]; simp only [szOk, beq_iff_eq] at hsz; rw [hsz]
      simp only [Option.map_some, add_none, hz]
    · obtain ⟨a1, a2, a3⟩ := h1 _ v j c (hget i v hv) hj
      have e : base + l * sz + i * sz + j = base + (l + i) * sz + j := by rw [Nat.add_mul]; omega
      rw [e]
      exact ⟨a1, a2, a3⟩
theorem bound_int {v : AV} {dflt most n : Nat} (h : boundA (some v) dflt most = some n) : ∃ k, v = .int k (n : Int) ∧ n ≤ most := by
  unfold boundA at h
  split at h
  · rename_i h'; cases h'
  · rename_i k m h'
    cases h'
    split at h
    · rename_i hm
      simp only [Option.some.injEq] at h
      subst h
      exact ⟨k, by rw [Int.toNat_of_nonneg hm.1], by omega⟩
    · cases h
  · cases h
theorem run_bound_int {k : IntKind} {n most : Nat} {code : BoundsCode} (h : n ≤ most) : (Instr.sliceBound (.int k (n : Int)) most code).run P w = .ok n w := by
  unfold Instr.sliceBound
  simp only [asIntOf, Sem.run_bind, Sem.run_pure, Result.andThen_ok]
  rw [if_pos (by omega)]
  simp
theorem run_bounds3 {len cap h l : Nat} {lo : Option AV} {hv : AV} {LO : Option Value} {HI : Value} {k : IntKind} (hlo : ∀ v V, lo = some v → LO = some V → Rep g w v V) (hhi : Rep g w hv HI)
    (elo : lo.isSome = LO.isSome) (hc : len ≤ cap) (h1 : boundA (some hv) len len = some h) (h2 : boundA lo 0 h = some l) :
    (Instr.sliceBounds true len cap LO (some HI) (some (.int k (h : Int)))).run P w = .ok (l, h, h) w ∧ l ≤ h ∧ h ≤ len := by
  obtain ⟨k1, rfl, b1⟩ := bound_int h1
  rw [hhi.int_inv]
  cases lo with
  | none =>
    cases LO with
    | some _ => cases elo
    | none =>
      have := bound_none h2
      subst this
      refine ⟨?_, Nat.zero_le _, b1⟩
      unfold Instr.sliceBounds
      simp only [Sem.run_bind, Sem.run_pure, Result.andThen_ok, run_bound_int (Nat.le_trans b1 hc), run_bound_int (Nat.le_refl h)]
  | some lv =>
    cases LO with
    | none => cases elo
    | some V =>
      obtain ⟨k2, rfl, b2⟩ := bound_int h2
      rw [(hlo _ V rfl rfl).int_inv]
      refine ⟨?_, b2, b1⟩
      unfold Instr.sliceBounds
      simp only [Sem.run_bind, Sem.run_pure, Result.andThen_ok, run_bound_int (Nat.le_trans b1 hc), run_bound_int (Nat.le_refl h), run_bound_int b2]

theorem run_slice {T : TypeId} {x v : AV} {lo hi mx : Option AV} {X : Value} {LO HI MX : Option Value} {L G : Hp} (s : Sim g w L G) (hx : Rep g w x X)
    (hlo : ∀ v V, lo = some v → LO = some V → Rep g w v V) (hhi : ∀ v V, hi = some v → HI = some V → Rep g w v V) (hmx : ∀ v V, mx = some v → MX = some V → Rep g w v V)
    (elo : lo.isSome = LO.isSome) (ehi : hi.isSome = HI.isSome) (emx : mx.isSome = MX.isSome) (h : sliceA P T x lo hi mx L G = some v) :
    ∃ V, (Instr.sliceAt T X LO HI MX).run P w = .ok V w ∧ Rep g w v V := by
  unfold sliceA at h
  split at h
  · rename_i str
    split at h
    · cases h
    · rename_i hm
      have hm1 : mx = none := by cases mx <;> simp_all
      have hm2 : MX = none := by cases MX <;> simp_all
      have hu : P.underlying T = some .string := isStr_true (by cases hs : isStr P T <;> simp_all)
      subst hm1; subst hm2
      replace h := Option.bind_eq_some_iff.1 h
      obtain ⟨hh, h1, h⟩ := h
      replace h := Option.map_eq_some_iff.1 h
      obtain ⟨ll, h2, h⟩ := h
      subst h
      obtain ⟨k1, k2, k3⟩ := run_bounds (P := P) (isSl := false) hlo hhi elo ehi (Nat.le_refl _) h1 h2
      rw [hx.str_inv]
      refine ⟨_, ?_, .str _⟩
      unfold Instr.sliceAt
      simp only [Sem.run_bind, run_underlying hu, Result.andThen_ok]
      unfold Instr.slice
      simp only [Sem.run_bind, run_underlying hu, Result.andThen_ok, Option.isSome_none, Bool.false_eq_true, if_false, Sem.run_pure, size_bytes, k1]
      congr 2
      apply ByteArray.ext
      simp [List.extract_eq_take_drop]
  · rename_i es t
    replace h := Option.bind_eq_some_iff.1 h
    obtain ⟨el, hel, h⟩ := h
    replace h := Option.bind_eq_some_iff.1 h
    obtain ⟨hh, h1, h⟩ := h
    replace h := Option.bind_eq_some_iff.1 h
    obtain ⟨ll, h2, h⟩ := h
    have hu := elemT_some hel
    split at h
    · cases h
    rename_i hz
    have hz' : ll = 0 ∨ szOk P el es = true := by
      rcases Nat.eq_zero_or_pos ll with h0 | h0
      · exact .inl h0
      · right
        cases hs : szOk P el es with
        | true => rfl
        | false => exact absurd ⟨by omega, hs⟩ hz
    have hsz := run_sizeOf (P := P) (w := w) (elemT_sz hel)
    cases hxx : X with
    | slice a n cap =>
      rw [hxx] at hx
      have hn : n = es.length ∧ es.length ≤ cap := by cases hx with | sl _ _ _ _ _ _ _ _ hc => exact ⟨rfl, hc⟩
      obtain ⟨rfl, hcap⟩ := hn
      cases hmxx : mx with
      | none =>
        rw [hmxx] at h emx
        cases h
        have hm2 : MX = none := by cases MX with | none => rfl | some _ => cases emx
        subst hm2
        obtain ⟨k1, k2, k3⟩ := run_bounds (P := P) (isSl := true) hlo hhi elo ehi hcap h1 h2
        refine ⟨_, ?_, sl_part hx k2 k3 cap (by omega) hz' ?_⟩
        · unfold Instr.sliceAt
          simp only [Sem.run_bind, run_underlying hu, Result.andThen_ok]
          unfold Instr.slice
          simp only [Sem.run_bind, run_underlying hu, Result.andThen_ok, k1, hsz, Sem.run_pure]
        · split
          · rename_i hh'; exact .inr (.inl ⟨rfl, rfl, hh'.1, hh'.2⟩)
          · exact .inl rfl
      | some m =>
        rw [hmxx] at h emx hmx
        cases m with
        | int k q =>
          simp only at h
          split at h
          · rename_i hq
            obtain ⟨hq, hhs⟩ := hq
            cases h
            subst hq
            cases MX with
            | none => cases emx
            | some M =>
            have hM := (hmx _ M rfl rfl).int_inv
            subst hM
            cases hi with
            | none => cases hhs
            | some hv =>
            cases HI with
            | none => cases ehi
            | some HV =>
            obtain ⟨k1, k2, k3⟩ := run_bounds3 (P := P) (k := k) hlo (hhi _ HV rfl rfl) elo hcap h1 h2
            refine ⟨_, ?_, sl_part hx k2 k3 hh (Nat.le_refl _) hz' (.inr (.inr ⟨rfl, rfl⟩))⟩
            unfold Instr.sliceAt
            simp only [Sem.run_bind, run_underlying hu, Result.andThen_ok]
            unfold Instr.slice
            simp only [Sem.run_bind, run_underlying hu, Result.andThen_ok, k1, hsz, Sem.run_pure]
          · cases h
        | _ => cases h
    | _ => rw [hxx] at hx; cases hx
  · rename_i loc b gen off len
    replace h := Option.bind_eq_some_iff.1 h
    obtain ⟨el, hel, h⟩ := h
    have hu := elemT_some hel
    have hsz := run_sizeOf (P := P) (w := w) (elemT_sz hel)
    split at h
    · cases h
    rename_i hm
    have hm1 : mx = none := by cases mx <;> simp_all
    have hm2 : MX = none := by cases MX <;> simp_all
    subst hm1; subst hm2
    replace h := Option.bind_eq_some_iff.1 h
    obtain ⟨hh, h1, h⟩ := h
    replace h := Option.bind_eq_some_iff.1 h
    obtain ⟨ll, h2, h⟩ := h
    cases hx with
    | hs _ _ _ _ _ l hmu hl =>
      obtain ⟨k1, k2, k3⟩ := run_bounds (P := P) (isSl := true) hlo hhi elo ehi (cap := l.cap - off) (by omega) h1 h2
      have hrun : (Instr.sliceAt T (.slice (some ⟨l.B, l.base + off * l.sz, none⟩) len (l.cap - off)) LO HI none).run P w =
          .ok (.slice (if l.cap - off = ll then some ⟨l.B, l.base + off * l.sz, none⟩ else some ⟨l.B, l.base + off * l.sz + ll * szT P el, none⟩) (hh - ll) (l.cap - off - ll)) w := by
        unfold Instr.sliceAt
        simp only [Sem.run_bind, run_underlying hu, Result.andThen_ok]
        unfold Instr.slice
        simp only [Sem.run_bind, run_underlying hu, Result.andThen_ok, k1, hsz, Sem.run_pure, Option.map_some, add_none]
      refine ⟨_, hrun, ?_⟩
      split at h
      · rename_i hlh
        cases h
        obtain ⟨rfl, _⟩ := hlh
        rw [Nat.sub_self]
        exact .sl [] .no _ _ 0 0 1 (fun _ _ => .nilFunc) (Nat.zero_le _) trivial (fun h => absurd rfl h) (fun i v h => by simp at h) (fun i v j c h => by simp at h) (fun i v j c h => by simp at h)
      · rename_i hlh
        split at h
        · rename_i h0
          cases h
          subst h0
          rw [Nat.zero_mul, Nat.sub_zero, Nat.sub_zero, Nat.add_zero, ite_self]
          exact .hs loc b gen off hh l hmu (by omega)
        · rename_i h0
          split at h
          · rename_i g' es hb
            split at h
            · rename_i hc
              obtain ⟨rfl, hne, hok⟩ := hc
              cases h
              obtain ⟨l', m1, _, m3⟩ := hpOf_blk s hb
              rw [hmu] at m1
              cases m1
              have hz : l.sz = szT P el := by
                cases es with
                | nil => exact absurd rfl hne
                | cons v es => rw [← m3.size 0 v rfl]; simpa [szOk] using hok
              rw [if_neg (by omega), ← hz]
              have e1 : l.base + off * l.sz + ll * l.sz = l.base + (off + ll) * l.sz := by rw [Nat.add_mul]; omega
              have e2 : l.cap - off - ll = l.cap - (off + ll) := by omega
              rw [e1, e2]
              exact .hs loc b _ (off + ll) (hh - ll) l hmu (by omega)
            · cases h
          · cases h
  · cases h
theorem fieldT_some {t : TypeId} {f off : Nat} {ft : TypeId} (h : fieldT P t f = some (off, ft)) : ∃ fs x, P.underlying t = some (.struct fs) ∧ fs[f]? = some x ∧ x.offset = off ∧ x.type = ft := by
  unfold fieldT at h
  split at h
  · rename_i fs hu
    replace h := Option.map_eq_some_iff.1 h
    obtain ⟨x, hx, he⟩ := h
    simp only [Prod.mk.injEq] at he
    exact ⟨fs, x, hu, hx, he.1, he.2⟩
  · cases h
theorem run_field {t : TypeId} {p v : AV} {f : Nat} {X : Value} (hx : Rep g w p X) (h : fieldA P t p f = some v) : ∃ V, (Instr.fieldAt t X f).run P w = .ok V w ∧ Rep g w v V := by
  unfold fieldA at h
  replace h := Option.bind_eq_some_iff.1 h
  obtain ⟨⟨off, ft⟩, h1, h2⟩ := h
  obtain ⟨fs, x, hu, hf, rfl, rfl⟩ := fieldT_some h1
  simp only at h2
  split at h2
  · cases h2
  · rename_i hz
    have hrun : ∀ (B o : Nat), (Instr.fieldAt t (.pointer (some ⟨B, o, none⟩)) f).run P w = .ok (.pointer (some ⟨B, o + x.offset, none⟩)) w := fun B o => by
      unfold Instr.fieldAt
      simp only [Sem.run_bind, run_underlying hu, Result.andThen_ok, hf, Instr.sureAddr, Sem.run_pure, fieldPlace, run_sizeOf hz]
      rw [if_neg hz]
      simp only [Sem.run_pure, Result.andThen_ok, add_none]
    split at h2
    · rename_i loc b gen i o
      cases h2
      cases hx with
      | ptr _ _ _ _ _ l hm => exact ⟨_, hrun _ _, by rw [Nat.add_assoc]; exact .ptr loc b gen i (o + x.offset) l hm⟩
    · rename_i u o
      cases h2
      cases hx with
      | rptr _ _ B base y k1 k2 => exact ⟨_, hrun _ _, by rw [Nat.add_assoc]; exact .rptr u (o + x.offset) B base y k1 k2⟩
    · cases h2

theorem intOf_some {x : AV} {n : Int} (h : intOf x = some n) : ∃ k, x = .int k n := by
  unfold intOf at h; split at h <;> simp_all
theorem run_indexAddr {t : TypeId} {x i v : AV} {X I : Value} {L G : Hp} (s : Sim g w L G) (hx : Rep g w x X) (hi : Rep g w i I) (h : indexAddrA P t x i L G = some v) :
    ∃ V, (Instr.indexAt t X I).run P w = .ok V w ∧ Rep g w v V := by
  unfold indexAddrA at h
  replace h := Option.bind_eq_some_iff.1 h
  obtain ⟨n, hn, h⟩ := h
  obtain ⟨k, rfl⟩ := intOf_some hn
  rw [hi.int_inv]
  by_cases hn0 : n < 0
  · rw [if_pos hn0] at h; cases h
  rw [if_neg hn0] at h
  have hnn : ((n.toNat : Nat) : Int) = n := Int.toNat_of_nonneg (by omega)
  cases hel : elemT P t with
  | some el =>
    simp only [hel] at h
    have hu := elemT_some hel
    have hz := elemT_sz hel
    have hrun : ∀ (B o len cap : Nat), n.toNat < len → (Instr.indexAt t (.slice (some ⟨B, o, none⟩) len cap) (.int k n)).run P w = .ok (.pointer (some ⟨B, o + n.toNat * szT P el, none⟩)) w := fun B o len cap hl => by
      unfold Instr.indexAt
      simp only [asIntOf, Sem.run_bind, Sem.run_pure, run_underlying hu, Result.andThen_ok]
      rw [if_pos (by omega)]
      simp only [Sem.run_bind, Sem.run_pure, Result.andThen_ok, run_sizeOf hz, add_none]
    cases x with
    | sl es tk =>
      replace h := Option.bind_eq_some_iff.1 h
      obtain ⟨u, hu1, h⟩ := h
      split at h
      · rename_i hc
        cases h
        cases hx with
        | sl _ _ a cap B base sz y hcp ht ha h0 h1 h2 =>
          have hlt : n.toNat < es.length := (List.getElem?_eq_some_iff.1 hu1).1
          have hne : es ≠ [] := fun e => by simp [e] at hlt
          obtain ⟨rfl, _⟩ := ha hne
          have hsz : sz = szT P el := by rw [← h0 _ _ hu1]; exact hc.1
          refine ⟨_, hrun _ _ _ _ hlt, ?_⟩
          have := Rep.rptr (g := g) (w := w) u 0 B (base + n.toNat * sz) (fun j => y n.toNat j) (fun j c hj => h1 _ _ j c hu1 hj) (fun j c hj => h2 _ _ j c hu1 hj)
          rw [Nat.add_zero, hsz] at this
          exact this
      · cases h
    | hs loc b gen off len =>
      simp only at h
      split at h
      · rename_i hl
        replace h := Option.bind_eq_some_iff.1 h
        obtain ⟨u, hu1, h⟩ := h
        split at h
        · rename_i hc
          cases h
          obtain ⟨l, es, hb, hm, hrow, he⟩ := rowAt_row s hu1
          cases hx with
          | hs _ _ _ _ _ l' hm' hl' =>
            rw [hm] at hm'
            cases hm'
            have hsz : l.sz = szT P el := by rw [← hrow.size _ _ he]; exact hc
            refine ⟨_, hrun _ _ _ _ hl, ?_⟩
            have := Rep.ptr (g := g) (w := w) loc b gen (off + n.toNat) 0 l hm
            rw [← hsz]
            have e : l.base + (off + n.toNat) * l.sz + 0 = l.base + off * l.sz + n.toNat * l.sz := by rw [Nat.add_mul]; omega
            rw [e] at this
            exact this
        · cases h
      · cases h
    | _ => cases h
  | none =>
    simp only [hel] at h
    replace h := Option.bind_eq_some_iff.1 h
    obtain ⟨⟨len, el⟩, ha, h⟩ := h
    have hu := arrT_some ha
    have hz := arrT_sz ha
    simp only at h
    by_cases hl : n.toNat < len
    · rw [if_pos hl] at h
      have hrun : ∀ (B o : Nat), (Instr.indexAt t (.pointer (some ⟨B, o, none⟩)) (.int k n)).run P w = .ok (.pointer (some ⟨B, o + n.toNat * szT P el, none⟩)) w := fun B o => by
        unfold Instr.indexAt
        simp only [asIntOf, Sem.run_bind, Sem.run_pure, run_underlying hu, Result.andThen_ok, Instr.sureAddr]
        rw [if_pos (by omega)]
        simp only [Sem.run_bind, Sem.run_pure, Result.andThen_ok, run_sizeOf hz, add_none]
      cases x with
      | ptr loc b gen i o =>
        cases h
        cases hx with
        | ptr _ _ _ _ _ l hm => exact ⟨_, hrun _ _, by rw [Nat.add_assoc]; exact .ptr loc b gen i _ l hm⟩
      | rptr u o =>
        cases h
        cases hx with
        | rptr _ _ B base y k1 k2 => exact ⟨_, hrun _ _, by rw [Nat.add_assoc]; exact .rptr u _ B base y k1 k2⟩
      | _ => cases h
    · rw [if_neg hl] at h; cases h

theorem run_index {t : TypeId} {x i v : AV} {X I : Value} (hx : Rep g w x X) (hi : Rep g w i I) (h : indexA P t x i = some v) :
    ∃ V, (Instr.index t X I).run P w = .ok V w ∧ Rep g w v V := by
  unfold indexA at h
  replace h := Option.bind_eq_some_iff.1 h
  obtain ⟨n, hn, h⟩ := h
  obtain ⟨k, rfl⟩ := intOf_some hn
  rw [hi.int_inv]
  by_cases hn0 : n < 0
  · rw [if_pos hn0] at h; cases h
  rw [if_neg hn0] at h
  cases x with
  | str l =>
    simp only at h
    split at h
    · cases h
    · rename_i hs
      have hu : P.underlying t = some .string := isStr_true (by cases hs' : isStr P t <;> simp_all)
      replace h := Option.map_eq_some_iff.1 h
      obtain ⟨b, hb, rfl⟩ := h
      rw [hx.str_inv]
      refine ⟨_, ?_, .int _ _⟩
      unfold Instr.index
      simp only [asIntOf, Sem.run_bind, Sem.run_pure, run_underlying hu, Result.andThen_ok]
      rw [if_pos (by omega)]
      have hlt : n.toNat < l.length := (List.getElem?_eq_some_iff.1 hb).1
      have e : (⟨l.toArray⟩ : ByteArray)[n.toNat]? = some b := by
        have h1 : n.toNat < (⟨l.toArray⟩ : ByteArray).size := by rw [size_bytes]; exact hlt
        rw [getElem?_pos (⟨l.toArray⟩ : ByteArray) n.toNat h1]
        have h2 : (⟨l.toArray⟩ : ByteArray)[n.toNat] = l[n.toNat] := rfl
        rw [h2]
        rw [List.getElem?_eq_getElem hlt] at hb
        exact hb
      rw [e]
      rfl
  | agg cs =>
    replace h := Option.bind_eq_some_iff.1 h
    obtain ⟨⟨len, el⟩, ha, h⟩ := h
    have hu := arrT_some ha
    have hz := arrT_sz ha
    simp only at h
    by_cases hl : n.toNat < len
    · rw [if_pos hl] at h
      replace h := Option.bind_eq_some_iff.1 h
      obtain ⟨⟨ag, m⟩, hc, h⟩ := h
      obtain ⟨vs, rfl, _⟩ := hx.agg_inv
      obtain ⟨V, h1, h2⟩ := agg_part (P := P) hx hc h
      have hm : szT P el = m := by
        have e1 := (cellT_some (P := P) (w := w) hc).2
        rw [run_sizeOf hz] at e1
        injection e1
      refine ⟨V, ?_, h2⟩
      unfold Instr.index
      simp only [asIntOf, Sem.run_bind, Sem.run_pure, run_underlying hu, Result.andThen_ok]
      rw [if_pos (by omega)]
      simp only [Sem.run_bind, run_sizeOf hz, Result.andThen_ok, hm, h1]
    · rw [if_neg hl] at h; cases h
  | _ => cases h

/-! ### structs and arrays built -/
/-- cells stand for cells -/
def RepC (g : Gh) (w : World) (cs : List AV) (vs : Array Value) : Prop := cs.length = vs.size ∧ ∀ (i : Nat) c v, cs[i]? = some c → vs[i]? = some v → Rep g w c v
theorem foldl_set_get (off : Nat) : ∀ (l : List Value) (s : Nat) (cs : Array Value), (((l.zipIdx s).foldl (fun cs (c, j) => cs.setIfInBounds (off + j) c) cs).size = cs.size) ∧
    ∀ i, ((l.zipIdx s).foldl (fun cs (c, j) => cs.setIfInBounds (off + j) c) cs)[i]? = if off + s ≤ i ∧ i < off + s + l.length ∧ i < cs.size then l[i - (off + s)]? else cs[i]? := by
  intro l
  induction l with
  | nil => intro s cs; exact ⟨rfl, fun i => by simp only [List.zipIdx_nil, List.foldl_nil, List.length_nil]; rw [if_neg (by omega)]⟩
  | cons c l ih =>
    intro s cs
    simp only [List.zipIdx_cons, List.foldl_cons]
    obtain ⟨h1, h2⟩ := ih (s + 1) (cs.setIfInBounds (off + s) c)
    refine ⟨by rw [h1, Array.size_setIfInBounds], fun i => ?_⟩
    rw [h2 i]
    simp only [Array.size_setIfInBounds, Array.getElem?_setIfInBounds, List.length_cons]
    by_cases hi : i = off + s
    · subst hi
      by_cases hlt : off + s < cs.size
      · rw [if_neg (by omega), if_pos rfl, if_pos hlt, if_pos (by omega)]; simp
      · rw [if_neg (by omega), if_pos rfl, if_neg hlt, if_neg (by omega), Array.getElem?_eq_none (by omega)]
    · by_cases hin : off + (s + 1) ≤ i ∧ i < off + (s + 1) + l.length ∧ i < cs.size
      · rw [if_pos hin, if_pos (by omega)]
        have : i - (off + s) = (i - (off + (s + 1))) + 1 := by omega
        rw [this, List.getElem?_cons_succ]
      · rw [if_neg hin, if_neg (by omega), if_neg (by omega)]
theorem repC_splice {cs : List AV} {vs : Array Value} (h : RepC g w cs vs) {v : AV} {x : Value} (hv : Rep g w v x) (hf : v.flat = true) {off : Nat} (hl : off + v.cells.length ≤ cs.length) :
    RepC g w (cs.take off ++ v.cells ++ cs.drop (off + v.cells.length)) (x.cells.zipIdx.foldl (fun cs (c, j) => cs.setIfInBounds (off + j) c) vs) := by
  obtain ⟨e1, e2⟩ := hv.flat_cells hf
  have e0 : x.cells.zipIdx.foldl (fun cs (c, j) => cs.setIfInBounds (off + j) c) vs = (x.cells.toList.zipIdx 0).foldl (fun cs (c, j) => cs.setIfInBounds (off + j) c) vs := by
    rw [← Array.foldl_toList, Array.toList_zipIdx]
  rw [e0]
  obtain ⟨f1, f2⟩ := foldl_set_get off x.cells.toList 0 vs
  refine ⟨?_, fun i c y hc hy => ?_⟩
  · rw [f1, ← h.1]; simp only [List.length_append, List.length_take, List.length_drop]; omega
  · rw [f2 i] at hy
    simp only [Nat.add_zero, Array.length_toList] at hy
    by_cases hi : off ≤ i ∧ i < off + x.cells.size ∧ i < vs.size
    · rw [if_pos hi] at hy
      rw [List.append_assoc, List.getElem?_append_right (by simp; omega), List.getElem?_append_left (by simp; omega)] at hc
      have ht : (cs.take off).length = off := by simp; omega
      rw [ht] at hc
      exact (e2 _ _ _ hc (by simpa using hy)).2
    · rw [if_neg hi] at hy
      by_cases hlo : i < off
      · rw [List.append_assoc, List.getElem?_append_left (by simp; omega), List.getElem?_take_of_lt hlo] at hc
        exact h.2 _ _ _ hc hy
      · have hge : off + v.cells.length ≤ i := by
          rcases Nat.lt_or_ge i (off + v.cells.length) with h' | h'
          · have : i < vs.size := by have := h.1; omega
            exact absurd ⟨by omega, by omega, this⟩ hi
          · exact h'
        have ht : (cs.take off ++ v.cells).length = off + v.cells.length := by simp; omega
        rw [List.getElem?_append_right (by rw [ht]; exact hge), ht, List.getElem?_drop] at hc
        have : off + v.cells.length + (i - (off + v.cells.length)) = i := by omega
        rw [this] at hc
        exact h.2 _ _ _ hc hy
theorem fill_rep {place : Nat → Option (Nat × Nat)} : ∀ {ps : List (Nat × AV)} {qs : List (Nat × Value)} {cs cs' : List AV} {vs : Array Value}, RepC g w cs vs →
    ps.length = qs.length → (∀ (k : Nat) p q, ps[k]? = some p → qs[k]? = some q → p.1 = q.1 ∧ Rep g w p.2 q.2) → fillA place cs ps = some cs' → ∃ vs', Instr.fill place vs qs = some vs' ∧ RepC g w cs' vs'
  | [], [], cs, cs', vs, h, _, _, he => by rw [fillA] at he; cases he; exact ⟨vs, by rw [Instr.fill], h⟩
  | [], _ :: _, _, _, _, _, hl, _, _ => by simp at hl
  | _ :: _, [], _, _, _, _, hl, _, _ => by simp at hl
  | (i, v) :: ps, (i', x) :: qs, cs, cs', vs, h, hl, hpq, he => by
    obtain ⟨e1, e2⟩ := hpq 0 _ _ rfl rfl
    simp only at e1 e2
    subst e1
    rw [fillA] at he
    rw [Instr.fill]
    cases hp : place i with
    | none => rw [hp] at he; cases he
    | some on =>
      obtain ⟨off, n⟩ := on
      rw [hp] at he
      simp only at he ⊢
      split at he
      · rename_i hc
        obtain ⟨c1, c2, c3⟩ := hc
        have hlen := h.1
        have hsz : v.cells.length = x.cells.size := (e2.flat_cells c3).1
        have hno : ¬ (decide (x.cells.size ≠ n) || decide (off + x.cells.size > vs.size)) = true := by simp; omega
        rw [if_neg hno]
        have hs := repC_splice h e2 c3 (off := off) (by omega)
        rw [c1] at hs
        exact fill_rep hs (by simpa using hl) (fun k p q hk hq => hpq (k + 1) p q (by simpa using hk) (by simpa using hq)) he
      · cases he
theorem zeroT_some {t : TypeId} {z : AV} (h : zeroT P t = some z) : ∃ i x, P.info? t = some i ∧ i.zero = some x ∧ z = ofVal x := by
  unfold zeroT at h
  split at h
  · rename_i i hi
    replace h := Option.map_eq_some_iff.1 h
    obtain ⟨x, hx, rfl⟩ := h
    exact ⟨i, x, hi, hx, rfl⟩
  · cases h
theorem run_zero {t : TypeId} {z : AV} (h : zeroT P t = some z) : ∃ x, (zeroValue t).run P w = .ok x w ∧ z = ofVal x := by
  obtain ⟨i, x, hi, hx, rfl⟩ := zeroT_some h
  exact ⟨x, by simp [zeroValue, typeInfo, hi, hx], rfl⟩
theorem repC_ofVal (x : Value) : RepC g w (ofVal x).cells x.cells := by
  cases hx : x with
  | agg cs =>
    rw [show ofVal (.agg cs) = .agg (cs.toList.map ofCell) from by simp [ofVal]]
    refine ⟨by simp [AV.cells, Value.cells], fun i c v hc hv => ?_⟩
    simp only [AV.cells, Value.cells, List.getElem?_map, Array.getElem?_toList] at hc hv
    rw [hv] at hc
    simp only [Option.map_some, Option.some.injEq] at hc
    rw [← hc]
    exact ofCell_rep v
  | _ =>
    have e : (ofVal x).cells = [ofVal x] := cells_agg fun cs h => by
      rw [hx] at h
      simp only [ofVal] at h
      first
        | (split at h <;> cases h)
        | (unfold ofCell at h; split at h <;> cases h)
        | cases h
    rw [← hx, e]
    refine ⟨by rw [hx]; rfl, fun i c v hc hv => ?_⟩
    cases i with
    | zero =>
      simp only [List.getElem?_cons_zero, Option.some.injEq] at hc
      rw [← hc]
      have hv' : v = x := by rw [hx] at hv ⊢; simpa [Value.cells] using hv.symm
      rw [hv']
      exact ofVal_rep x
    | succ i => simp at hc

theorem run_mapM {α β : Type} (f : α → Sem β) (h : α → β) : ∀ (l : List α), (∀ x ∈ l, (f x).run P w = .ok (h x) w) → (l.mapM f).run P w = .ok (l.map h) w
  | [], _ => by simp
  | x :: l, hl => by
    simp only [List.mapM_cons, Sem.run_bind, hl x (by simp), Result.andThen_ok, run_mapM f h l (fun y hy => hl y (by simp [hy])), Sem.run_pure, List.map_cons]
theorem run_mapMA {α β : Type} (f : α → Sem β) (h : α → β) (l : Array α) (hl : ∀ x ∈ l.toList, (f x).run P w = .ok (h x) w) : (l.mapM f).run P w = .ok (l.map h) w := by
  rw [Array.mapM_eq_mapM_toList]
  simp only [Sem.run_map, run_mapM f h l.toList hl, Result.andThen_ok]
  congr 1
  apply Array.ext'
  simp

theorem run_build {t : TypeId} {ps : List (Nat × AV)} {qs : Array (Nat × Value)} {v : AV} (hl : ps.length = qs.size)
    (hpq : ∀ (k : Nat) p q, ps[k]? = some p → qs[k]? = some q → p.1 = q.1 ∧ Rep g w p.2 q.2) (h : buildA P t ps = some v) :
    ∃ V, (Instr.build t qs).run P w = .ok V w ∧ Rep g w v V := by
  unfold buildA at h
  replace h := Option.bind_eq_some_iff.1 h
  obtain ⟨z, hz, h⟩ := h
  obtain ⟨x, hx, rfl⟩ := run_zero (w := w) hz
  have hc := repC_ofVal (g := g) (w := w) x
  have hpq' : ∀ (k : Nat) p q, ps[k]? = some p → qs.toList[k]? = some q → p.1 = q.1 ∧ Rep g w p.2 q.2 := fun k p q hp hq => hpq k p q hp (by simpa using hq)
  cases hs : structT P t with
  | some pl =>
    simp only [hs] at h
    replace h := Option.map_eq_some_iff.1 h
    obtain ⟨cs', hf, rfl⟩ := h
    obtain ⟨vs', k1, k2⟩ := fill_rep hc (by simpa using hl) hpq' hf
    unfold structT at hs
    split at hs
    · rename_i fs hu
      split at hs
      · rename_i hall
        cases hs
        refine ⟨.agg vs', ?_, .agg _ _ k2.1 k2.2⟩
        have hm := run_mapMA (P := P) (w := w) (fun (f : Field) => (do pure (f.offset, ← Go.sizeOf f.type) : Sem (Nat × Nat))) (fun f => (f.offset, P.cellsOf f.type)) fs (fun f hf => by
          obtain ⟨i, hi⟩ := Option.isSome_iff_exists.1 (List.all_eq_true.1 hall f hf)
          simp only [Sem.run_bind, run_size hi, Result.andThen_ok, Sem.run_pure]
          rfl)
        unfold Instr.build
        simp only [Sem.run_bind, hx, Result.andThen_ok, run_underlying hu, hm]
        have e : (fun (i : Nat) => (Array.map (fun (f : Field) => (f.offset, P.cellsOf f.type)) fs)[i]?) = fun i => (fs.toList.map fun f => (f.offset, P.cellsOf f.type))[i]? := by
          funext i; simp
        rw [e, k1]
        rfl
      · cases hs
    · cases hs
  | none =>
    simp only [hs] at h
    replace h := Option.bind_eq_some_iff.1 h
    obtain ⟨⟨n, el⟩, ha, h⟩ := h
    replace h := Option.map_eq_some_iff.1 h
    obtain ⟨cs', hf, rfl⟩ := h
    obtain ⟨vs', k1, k2⟩ := fill_rep hc (by simpa using hl) hpq' hf
    refine ⟨.agg vs', ?_, .agg _ _ k2.1 k2.2⟩
    unfold Instr.build
    simp only [Sem.run_bind, hx, Result.andThen_ok, run_underlying (arrT_some ha), run_sizeOf (arrT_sz ha), k1]
    rfl
end
end Ev
