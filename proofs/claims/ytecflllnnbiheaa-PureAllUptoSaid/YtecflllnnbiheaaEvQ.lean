/- slices.Sort, slices.Compact: from their contracts to the evaluator. -/
import Derived.Test.YtecflllnnbiheaaEvP
import Derived.Test.YtecflllnnbiheaaEv15
set_option maxHeartbeats 4000000
set_option linter.unusedVariables false
set_option linter.unusedSimpArgs false
namespace Ev
open Go Go.Sort Go.Proofs
section
variable {P : Program} {g : Gh} {w : World} {L G : Hp}
theorem sim_ahead (s : Sim g w L G) : ∀ n, Sim g (Go.Sort.ahead w n) L G ∧ Ext g w g (Go.Sort.ahead w n)
  | 0 => ⟨s, .refl _ _⟩
  | n + 1 => by
    obtain ⟨h1, h2⟩ := sim_ahead s n
    exact ⟨h1.drew, h2.trans (Ext.drew g _)⟩
theorem sim_grow : ∀ (os : List Obj) {g : Gh} {w : World}, Sim g w L G → ∃ g', Sim g' (grow w os.toArray) L G ∧ Ext g w g' (grow w os.toArray) ∧ Mono g g' ∧ ∀ v x, Rep g w v x → Rep g' (grow w os.toArray) v x
  | [], g, w, s => ⟨g, by simpa using s, by simpa using Ext.refl g w, Mono.refl g, fun v x h => by simpa using h⟩
  | o :: os, g, w, s => by
    obtain ⟨h1, h2, h3⟩ := sim_plain s o
    obtain ⟨g', k1, k2, k3, k4⟩ := sim_grow os h1
    have e : grow (w.alloc o) os.toArray = grow w (o :: os).toArray := by
      rw [alloc_eq_grow, grow_grow]
      congr 1
      apply Array.ext'
      simp
    rw [e] at k1 k2 k4
    exact ⟨g', k1, h2.trans k2, h3.trans k3, fun v x h => k4 v x (h.ext s.own h2 h3)⟩
theorem setCells_map (b : Nat) : ∀ (vs : List Value) (o : Nat) (w : World), w.setCells b o vs = mapBlock w b fun c => c.mapIdx fun k x => if o ≤ k then (vs[k - o]?).getD x else x
  | [], o, w => by
    rw [World.setCells]
    refine (mapBlock_id w b _ fun c e fr _ => ?_).symm
    apply Array.ext_getElem?
    intro i
    rw [Array.getElem?_mapIdx]
    cases c[i]? <;> simp
  | v :: vs, o, w => by
    rw [World.setCells, setCells_map b vs (o + 1), setCell_eq, mapBlock_mapBlock]
    refine mapBlock_congr w b _ _ fun c e fr _ => ?_
    apply Array.ext_getElem?
    intro i
    simp only [Array.getElem?_mapIdx, Array.getElem?_setIfInBounds]
    by_cases hi : o = i
    · subst hi
      rw [if_pos rfl]
      by_cases hl : o < c.size
      · rw [if_pos hl, Array.getElem?_eq_getElem hl]
        simp only [Option.map_some, Option.some.injEq]
        rw [if_neg (by omega), if_pos (Nat.le_refl _), Nat.sub_self]
        rfl
      · rw [if_neg hl, Array.getElem?_eq_none (by omega)]
        rfl
    · rw [if_neg hi]
      cases c[i]? with
      | none => rfl
      | some x =>
        simp only [Option.map_some, Option.some.injEq]
        by_cases h1 : o + 1 ≤ i
        · rw [if_pos h1, if_pos (by omega), show i - o = (i - (o + 1)) + 1 by omega, List.getElem?_cons_succ]
        · rw [if_neg h1, if_neg (by omega)]
theorem putRow_cells (w : World) (b o : Nat) (d : List (List UInt8)) : putRow encStr w b o d.toArray = w.setCells b o (d.map encStr) := by
  rw [setCells_map]
  unfold putRow
  refine mapBlock_congr w b _ _ fun c e fr _ => ?_
  apply Array.ext_getElem?
  intro i
  simp only [putCells, Array.getElem?_mapIdx]
  cases c[i]? with
  | none => rfl
  | some x =>
    simp only [Option.map_some, Option.some.injEq, List.size_toArray]
    by_cases h1 : o ≤ i
    · by_cases h2 : i < o + d.length
      · rw [if_pos ⟨h1, h2⟩, if_pos h1, List.getElem?_map, List.getElem?_eq_getElem (by omega : i - o < d.length), getElem!_pos _ _ (by simpa using (by omega : i - o < d.length))]
        rfl
      · rw [if_neg (by omega), if_pos h1, List.getElem?_map, List.getElem?_eq_none (by omega)]
        rfl
    · rw [if_neg (by omega), if_neg h1]
theorem strs_get : ∀ {l : List AV} {zs : List (List UInt8)}, strsOf l = some zs → l = zs.map .str
  | [], zs, h => by cases h; rfl
  | v :: l, zs, h => by
    cases v with
    | str s =>
      simp only [strsOf, Option.map_eq_some_iff] at h
      obtain ⟨ys, h1, rfl⟩ := h
      rw [strs_get h1]; rfl
    | _ => cases h
/-- a row's part, as the contracts see it; behind it turned -/
theorem rowStr_sound (P : Program) {F : List (List UInt8) → List (List UInt8)} (hF : ∀ zs, (F zs).length = zs.length) {loc : Bool} {b gen off len : Nat} {zs : List (List UInt8)} {L' G' : Hp} {X : Value} (s : Sim g w L G) (hx : Rep g w (.hs loc b gen off len) X)
    (h : rowStrA F loc b gen off len L G = some (zs, L', G')) :
    ∃ B o cap, X = .slice (some ⟨B, o, none⟩) zs.length cap ∧ zs.length ≤ cap ∧ zs.length < 2 ^ 40 ∧ zs.length = len ∧ Holds encStr w B o zs.toArray ∧ B < w.heap.size ∧ (∀ m, m ≤ len → Rep g w (.hs loc b gen off m) (.slice (some ⟨B, o, none⟩) m cap)) ∧
      ∀ n (os : Array Obj), ∃ g', Sim g' (grow (putRow encStr (Go.Sort.ahead w n) B o (F zs).toArray) os) L' G' ∧ Ext g w g' (grow (putRow encStr (Go.Sort.ahead w n) B o (F zs).toArray) os) ∧ Mono g g' := by
  unfold rowStrA at h
  cases hb : (hpOf loc L G)[b]? with
  | none => rw [hb] at h; cases h
  | some blk =>
    rw [hb] at h
    cases blk with
    | row g' es =>
      simp only at h
      have hq : g' = gen ∧ off + len ≤ es.length ∧ len ≠ 0 ∧ len < 2 ^ 40 := by
        by_cases hq : g' = gen ∧ off + len ≤ es.length ∧ len ≠ 0 ∧ len < 2 ^ 40
        · exact hq
        · rw [if_neg hq] at h; cases h
      rw [if_pos hq] at h
      obtain ⟨rfl, hle, hne, hlt⟩ := hq
      replace h := Option.map_eq_some_iff.1 h
      obtain ⟨zs', hzs, h⟩ := h
      simp only [Prod.mk.injEq] at h
      obtain ⟨rfl, h⟩ := h
      cases hst : setHp loc b (.row g' (es.take off ++ (F zs').map .str ++ es.drop (off + (F zs').length))) L G with
      | mk L1 G1 =>
      rw [hst] at h
      simp only [Prod.mk.injEq] at h
      obtain ⟨rfl, rfl⟩ := h
      have hz := strs_get hzs
      have hzl : zs'.length = len := by
        have := congrArg List.length hz
        simp only [List.length_take, List.length_drop, List.length_map] at this
        omega
      obtain ⟨l, m1, m2, m3⟩ := hpOf_blk s hb
      have hget : ∀ j (hj : j < zs'.length), es[off + j]? = some (.str zs'[j]) := fun j hj => by
        have := congrArg (·[j]?) hz
        simp only [List.getElem?_take, List.getElem?_drop, List.getElem?_map, List.getElem?_eq_getElem hj, Option.map_some] at this
        rw [if_pos (by omega)] at this
        exact this
      have hsz : l.sz = 1 := by
        have := m3.size _ _ (hget 0 (by omega))
        rw [← this]; rfl
      cases hx with
      | hs _ _ _ _ _ l' m1' hl =>
        rw [m1] at m1'
        cases m1'
        have hown : ∀ j, j < len → g.own l.B (l.base + off * l.sz + j) = .blk loc b ∧ (∃ y, w.cell? ⟨l.B, l.base + off * l.sz + j, none⟩ = some y) ∧ w.frozen? ⟨l.B, l.base + off * l.sz + j, none⟩ = false := fun j hj => by
          have := m3.own (off * l.sz + j) (by rw [hsz]; omega)
          rw [← Nat.add_assoc] at this
          exact this
        have hcell : ∀ j (hj : j < zs'.length), w.cell? ⟨l.B, l.base + off * l.sz + j, none⟩ = some (encStr zs'[j]) := fun j hj => by
          obtain ⟨_, y, h2, h3⟩ := m3.cell (off + j) _ 0 _ (hget j hj) rfl
          rw [h3.str_inv] at h2
          rw [hsz] at h2 ⊢
          rw [show l.base + off * 1 + j = l.base + (off + j) * 1 + 0 by omega]
          exact h2
        refine ⟨l.B, l.base + off * l.sz, l.cap - off, by rw [hzl], by omega, by omega, hzl, fun j hj => ?_, ?_, fun m hm => .hs _ _ _ _ _ l m1 (by omega), fun n os => ?_⟩
        · have hj' : j < zs'.length := by simpa using hj
          refine ⟨?_, (hown j (by omega)).2.2⟩
          rw [hcell j hj', getElem!_pos _ j hj]
          rfl
        · obtain ⟨_, ⟨y, hy⟩, _⟩ := hown 0 (by omega)
          exact (cell_block hy).1
        · obtain ⟨a1, a2⟩ := sim_ahead s n
          have m3' : RowOk g (Go.Sort.ahead w n) loc b l es := by
            obtain ⟨l2, q1, q2, q3⟩ := hpOf_blk a1 hb
            rw [m1] at q1
            cases q1
            exact q3
          have hfl : ((F zs').map AV.str).length = len := by rw [List.length_map, hF, hzl]
          have hm : ∀ (i : Nat) (v : AV), ((F zs').map AV.str)[i]? = some v → ∃ x, (F zs')[i]? = some x ∧ v = .str x := fun i v hv => by
            rw [List.getElem?_map] at hv
            cases hh : (F zs')[i]? with
            | none => rw [hh] at hv; cases hv
            | some x => rw [hh] at hv; cases hv; exact ⟨x, rfl, rfl⟩
          obtain ⟨e1, e2, e3⟩ := row_splice (P := P) a1 m3' (p := off) (xs := (F zs').map AV.str) (newc := ((F zs').map encStr).toArray) (by omega) (by omega) (by simp [hsz])
            (fun i v hv => by obtain ⟨x, _, rfl⟩ := hm i v hv; rw [hsz]; rfl) (fun i v j c hv hj => by
              obtain ⟨x, hx, rfl⟩ := hm i v hv
              cases j with
              | succ j => simp [AV.cells] at hj
              | zero =>
                simp only [AV.cells, List.getElem?_cons_zero, Option.some.injEq] at hj
                subst hj
                refine ⟨rfl, encStr x, ?_, .str x⟩
                rw [hsz]
                simp [hx])
          have s2 := a1.upd (upd_set hb hst) (by simpa using e2) ⟨l, m1, m2, by rw [hfl] at e3; rw [show (F zs').length = len by rw [hF, hzl]]; simpa using e3⟩ fun e => by
            refine refss_of fun u hu => ?_
            have hnoe : noLs es = true := by subst e; exact s.g.noL b _ hb
            rcases List.mem_append.1 hu with h2 | h2
            · rcases List.mem_append.1 h2 with h3 | h3
              · exact refss_mem hnoe (List.mem_of_mem_take h3)
              · obtain ⟨x, _, rfl⟩ := List.mem_map.1 h3; rfl
            · exact refss_mem hnoe (List.mem_of_mem_drop h2)
          obtain ⟨g2, k1, k2, k3, k4⟩ := sim_grow os.toList s2
          have ew : (Go.Sort.ahead w n).setCells l.B (l.base + off * l.sz) ((F zs').map encStr) = putRow encStr (Go.Sort.ahead w n) l.B (l.base + off * l.sz) (F zs').toArray := (putRow_cells _ _ _ _).symm
          simp only [Array.toArray_toList] at k1 k2
          rw [ew] at k1 k2
          refine ⟨g2, k1, (a2.trans ?_).trans k2, k3⟩
          rw [← ew]
          exact e2.ext
    | _ => cases h
/-- slices.Sort at []string -/
theorem sort_sound {f : Nat} (hn : NoNum P) (hf : ∃ fn, P.funcs[f]? = some fn ∧ fn.body.isSome = true)
    (hc : ∀ blk off cap (zs : List (List UInt8)) (w : World), Holds encStr w blk off zs.toArray → blk < w.heap.size → zs.length < 4611686018427387904 → Calls P f #[.slice (some ⟨blk, off, none⟩) zs.length cap] w fun e w' =>
      e = .returned (.tuple #[]) ∧ ∃ n os, w' = grow (putRow encStr (Go.Sort.ahead w n) blk off (zs.mergeSort fun x y => decide (x ≤ y)).toArray) os)
    (h0 : ∀ t (L G : Hp) g w V, Sim g w L G → RepsA g w [.sl [] t] V → CallUpon P f V w (CallPost (.val (.tup [])) L G g w))
    {args : List AV} {v : AV} {L G L' G' : Hp} (h : sortA args L G = some (v, L', G')) {g : Gh} {w : World} {V : Array Value} (s : Sim g w L G) (hr : RepsA g w args V) : CallUpon P f V w (CallPost (.val v) L' G' g w) := by
  unfold sortA at h
  split at h
  · cases h; exact h0 _ _ _ g w V s hr
  · rename_i loc b gen off len
    replace h := Option.map_eq_some_iff.1 h
    obtain ⟨⟨zs, L1, G1⟩, h1, h⟩ := h
    simp only [Prod.mk.injEq] at h
    obtain ⟨rfl, rfl, rfl⟩ := h
    obtain ⟨hsz, hrep⟩ := hr
    have hV : V.size = 1 := by simpa using hsz.symm
    obtain ⟨X, rfl⟩ : ∃ X, V = #[X] := ⟨V[0], by apply Array.ext; simp [hV]; intro i h1 h2; simp at h2; subst h2; rfl⟩
    have hX := hrep 0 _ X rfl rfl
    obtain ⟨B, o, cap, rfl, hcap, hlt, _, hH, hB, _, hend⟩ := rowStr_sound P sortS_len s hX h1
    obtain ⟨fn, hf1, hf2⟩ := hf
    refine upon_enter hn hf1 hf2 ((hc B o cap zs w hH hB (by omega)).mono fun e w' ⟨he, n, os, hw⟩ => ?_)
    subst he
    rw [sortS_merge] at hw
    subst hw
    obtain ⟨g', k1, k2, k3⟩ := hend n os
    exact ⟨g', k1, k2, k3, _, rfl, undef_rep⟩
  · cases h
theorem fill_len (zs : List (List UInt8)) : (compS zs ++ List.replicate (zs.length - (compS zs).length) []).length = zs.length := by
  have := compS_len zs
  simp only [List.length_append, List.length_replicate]
  omega
/-- slices.Compact at []string -/
theorem compact_sound {f : Nat} (hn : NoNum P) (hf : ∃ fn, P.funcs[f]? = some fn ∧ fn.body.isSome = true)
    (hc : ∀ blk off cap (zs : List (List UInt8)) (w : World), Holds encStr w blk off zs.toArray → zs.length ≤ 9223372036854775807 → zs.length ≤ cap → Calls P f #[.slice (some ⟨blk, off, none⟩) zs.length cap] w fun e w' =>
      e = .returned (.slice (some ⟨blk, off, none⟩) (Lib.compact zs).length cap) ∧ ∃ q, w' = putRow encStr (Go.Sort.ahead w q) blk off (Lib.compact zs ++ List.replicate (zs.length - (Lib.compact zs).length) []).toArray)
    (h0 : ∀ a cap (w : World), Calls P f #[.slice a 0 cap] w fun e w' => e = .returned (.slice a 0 cap) ∧ w' = w)
    {args : List AV} {v : AV} {L G L' G' : Hp} (h : compactA args L G = some (v, L', G')) {g : Gh} {w : World} {V : Array Value} (s : Sim g w L G) (hr : RepsA g w args V) : CallUpon P f V w (CallPost (.val v) L' G' g w) := by
  obtain ⟨fn, hf1, hf2⟩ := hf
  unfold compactA at h
  split at h
  · rename_i t
    cases h
    obtain ⟨hsz, hrep⟩ := hr
    have hV : V.size = 1 := by simpa using hsz.symm
    obtain ⟨X, rfl⟩ : ∃ X, V = #[X] := ⟨V[0], by apply Array.ext; simp [hV]; intro i h1 h2; simp at h2; subst h2; rfl⟩
    have hX := hrep 0 _ X rfl rfl
    have hX' := hX
    cases hX with
    | sl _ _ a cap B base sz y hc' ht ha h0' h1 h2 =>
      refine upon_enter hn hf1 hf2 ((h0 a cap w).mono fun e w' ⟨he, hw⟩ => ?_)
      subst he hw
      exact ⟨g, s, .refl _ _, Mono.refl g, _, rfl, hX'⟩
  · rename_i loc b gen off len
    replace h := Option.map_eq_some_iff.1 h
    obtain ⟨⟨zs, L1, G1⟩, h1, h⟩ := h
    simp only [Prod.mk.injEq] at h
    obtain ⟨rfl, rfl, rfl⟩ := h
    obtain ⟨hsz, hrep⟩ := hr
    have hV : V.size = 1 := by simpa using hsz.symm
    obtain ⟨X, rfl⟩ : ∃ X, V = #[X] := ⟨V[0], by apply Array.ext; simp [hV]; intro i h1 h2; simp at h2; subst h2; rfl⟩
    have hX := hrep 0 _ X rfl rfl
    obtain ⟨B, o, cap, rfl, hcap, hlt, hzl, hH, hB, hcut, hend⟩ := rowStr_sound P fill_len s hX h1
    refine upon_enter hn hf1 hf2 ((hc B o cap zs w hH (by omega) hcap).mono fun e w' ⟨he, n, hw⟩ => ?_)
    subst he
    rw [compact_eq] at hw
    obtain ⟨g', k1, k2, k3⟩ := hend n #[]
    simp only [grow_empty] at k1 k2
    rw [← hw] at k1 k2
    refine ⟨g', k1, k2, k3, _, rfl, ?_⟩
    rw [compact_eq]
    exact (hcut _ (by have := compS_len zs; omega)).ext s.own k2 k3
  · cases h
theorem rowStrA_dead {F : List (List UInt8) → List (List UInt8)} {loc : Bool} {b gen off len : Nat} {zs : List (List UInt8)} {L G L' G' : Hp} {k : Nat} (hk : L[k]? = some .dead) (h : rowStrA F loc b gen off len L G = some (zs, L', G')) : L'[k]? = some .dead := by
  unfold rowStrA at h
  cases hb : (hpOf loc L G)[b]? with
  | none => rw [hb] at h; cases h
  | some blk =>
    rw [hb] at h
    cases blk with
    | row g' es =>
      simp only at h
      split at h
      · replace h := Option.map_eq_some_iff.1 h
        obtain ⟨zs', _, h⟩ := h
        simp only [Prod.mk.injEq] at h
        obtain ⟨rfl, h1⟩ := h
        have := setHp_dead (x := .row gen (es.take off ++ (F zs').map .str ++ es.drop (off + (F zs').length))) hk hb (by simp)
        rw [h1] at this
        exact this
      · cases h
    | _ => cases h
theorem sortA_dead {args : List AV} {v : AV} {L G L' G' : Hp} {k : Nat} (h : sortA args L G = some (v, L', G')) (hk : L[k]? = some .dead) : L'[k]? = some .dead := by
  unfold sortA at h
  split at h
  · cases h; exact hk
  · replace h := Option.map_eq_some_iff.1 h
    obtain ⟨⟨zs, L1, G1⟩, h1, h⟩ := h
    simp only [Prod.mk.injEq] at h
    obtain ⟨rfl, rfl, rfl⟩ := h
    exact rowStrA_dead hk h1
  · cases h
theorem compactA_dead {args : List AV} {v : AV} {L G L' G' : Hp} {k : Nat} (h : compactA args L G = some (v, L', G')) (hk : L[k]? = some .dead) : L'[k]? = some .dead := by
  unfold compactA at h
  split at h
  · cases h; exact hk
  · replace h := Option.map_eq_some_iff.1 h
    obtain ⟨⟨zs, L1, G1⟩, h1, h⟩ := h
    simp only [Prod.mk.injEq] at h
    obtain ⟨rfl, rfl, rfl⟩ := h
    exact rowStrA_dead hk h1
  · cases h
end
end Ev
