/- The other operations; one operation, whichever: what the evaluator says of it is what the model does. -/
import Derived.Test.YtecflllnnbiheaaEv6
set_option maxHeartbeats 4000000
set_option linter.unusedVariables false
set_option linter.unusedSimpArgs false
namespace Ev
open Go
section
variable {P : Program} {g g' : Gh} {w w' : World}

/-- a new object that belongs to no heap: its cells never change -/
theorem sim_plain {L G : Hp} (s : Sim g w L G) (o : Obj) :
    Sim ⟨ownAt g.own w.heap.size (fun _ => .prot), g.mu, g.mp, g.tk⟩ (w.alloc o) L G ∧ Ext g w ⟨ownAt g.own w.heap.size (fun _ => .prot), g.mu, g.mp, g.tk⟩ (w.alloc o) ∧ Mono g ⟨ownAt g.own w.heap.size (fun _ => .prot), g.mu, g.mp, g.tk⟩ := by
  have t : ∀ (loc : Bool) (b : Nat), Step g w ⟨ownAt g.own w.heap.size (fun _ => .prot), g.mu, g.mp, g.tk⟩ (w.alloc o) loc b := fun loc b =>
    step_alloc s o _ _ _ _ (fun _ _ _ _ h => h) (fun _ _ _ h => h) (fun _ _ _ h => h) fun _ _ _ => ⟨fun _ => rfl, rfl, rfl⟩
  have key : ∀ (l' : Bool) (b' : Nat) y, BlkOk g w l' b' y → BlkOk ⟨ownAt g.own w.heap.size (fun _ => .prot), g.mu, g.mp, g.tk⟩ (w.alloc o) l' b' y := fun l' b' y h =>
    (t (!l') b').blk s.own (fun e => by cases l' <;> cases e.1) h
  exact ⟨⟨⟨fun b y h => key true b y (s.l.blk b y h), s.l.new⟩, ⟨⟨fun b y h => key false b y (s.g.hp.blk b y h), s.g.hp.new⟩, s.g.noL, (t true 0).own⟩⟩, (t true 0).ext, (t true 0).mono⟩

/-! ### rows written out -/
def flatL (es : List AV) : List AV := es.flatMap AV.cells
theorem flat_len {sz : Nat} : ∀ {es : List AV}, (∀ v ∈ es, v.cells.length = sz) → (flatL es).length = es.length * sz
  | [], _ => by simp [flatL]
  | v :: es, h => by
    have := flat_len (es := es) (fun u hu => h u (by simp [hu]))
    unfold flatL at this ⊢
    rw [List.flatMap_cons, List.length_append, this, h v (by simp), List.length_cons, Nat.add_mul]
    omega
theorem flat_get {sz : Nat} : ∀ {es : List AV}, (∀ v ∈ es, v.cells.length = sz) → ∀ {i : Nat} {v : AV}, es[i]? = some v → ∀ {j : Nat}, j < sz → (flatL es)[i * sz + j]? = v.cells[j]?
  | [], _, i, v, hv, _, _ => by simp at hv
  | u :: es, h, i, v, hv, j, hj => by
    unfold flatL
    rw [List.flatMap_cons]
    have hu := h u (by simp)
    cases i with
    | zero =>
      simp only [List.getElem?_cons_zero, Option.some.injEq] at hv
      subst hv
      rw [Nat.zero_mul, Nat.zero_add, List.getElem?_append_left (by omega)]
    | succ i =>
      rw [List.getElem?_append_right (by rw [hu, Nat.add_mul]; omega), hu]
      have e : (i + 1) * sz + j - sz = i * sz + j := by rw [Nat.add_mul]; omega
      rw [e]
      exact flat_get (es := es) (fun u hu => h u (by simp [hu])) (by simpa using hv) hj
theorem flat_set {sz : Nat} : ∀ {es : List AV}, (∀ v ∈ es, v.cells.length = sz) → ∀ {i : Nat}, i < es.length → ∀ {v : AV}, v.cells.length = sz → flatL (es.set i v) = (flatL es).take (i * sz) ++ v.cells ++ (flatL es).drop (i * sz + sz)
  | [], _, i, hi, _, _ => by simp at hi
  | u :: es, h, i, hi, v, hv => by
    have hu := h u (by simp)
    unfold flatL
    cases i with
    | zero =>
      simp only [List.set_cons_zero, List.flatMap_cons, Nat.zero_mul, List.take_zero, List.nil_append, Nat.zero_add]
      rw [List.drop_append_of_le_length (by omega), List.drop_of_length_le (by omega), List.nil_append]
    | succ i =>
      have ih := flat_set (es := es) (fun u hu => h u (by simp [hu])) (i := i) (by simpa using hi) hv
      unfold flatL at ih
      simp only [List.set_cons_succ, List.flatMap_cons]
      have e1 : (i + 1) * sz - sz = i * sz := by rw [Nat.add_mul]; omega
      have e2 : (i + 1) * sz + sz - sz = i * sz + sz := by rw [Nat.add_mul]; omega
      have e3 : (u.cells ++ List.flatMap AV.cells es).take ((i + 1) * sz) = u.cells ++ (List.flatMap AV.cells es).take (i * sz) := by
        rw [List.take_append, List.take_of_length_le (by rw [hu, Nat.add_mul]; omega), hu, e1]
      have e4 : (u.cells ++ List.flatMap AV.cells es).drop ((i + 1) * sz + sz) = (List.flatMap AV.cells es).drop (i * sz + sz) := by
        rw [List.drop_append, List.drop_of_length_le (by rw [hu, Nat.add_mul]; omega), List.nil_append, hu, e2]
      rw [ih, e3, e4, List.append_assoc, List.append_assoc, List.append_assoc]
theorem fill_list {sz : Nat} : ∀ {ps : List (Nat × AV)} {es es' : List AV}, (∀ v ∈ es, v.cells.length = sz) → listA sz es ps = some es' →
    fillA (fun i => some (i * sz, sz)) (flatL es) ps = some (flatL es') ∧ (∀ v ∈ es', v.cells.length = sz) ∧ es'.length = es.length ∧ ((∀ v ∈ es, v.flat = true) → ∀ v ∈ es', v.flat = true)
  | [], es, es', h, he => by rw [listA] at he; cases he; exact ⟨by rw [fillA], h, rfl, fun h => h⟩
  | (i, v) :: ps, es, es', h, he => by
    rw [listA] at he
    split at he
    · rename_i hc
      obtain ⟨c1, c2, c3⟩ := hc
      have hset : ∀ u ∈ es.set i v, u.cells.length = sz := fun u hu => by
        rcases List.mem_or_eq_of_mem_set hu with h1 | h1
        · exact h u h1
        · rw [h1]; exact c2
      obtain ⟨k1, k2, k3, k4⟩ := fill_list hset he
      refine ⟨?_, k2, by rw [k3, List.length_set], fun hf => k4 fun u hu => ?_⟩
      · rw [fillA]
        have h1 : (i + 1) * sz ≤ es.length * sz := Nat.mul_le_mul_right _ c1
        rw [Nat.add_mul] at h1
        simp only
        rw [if_pos ⟨c2, by rw [flat_len h]; omega, c3⟩, ← flat_set h c1 c2]
        exact k1
      · rcases List.mem_or_eq_of_mem_set hu with h1 | h1
        · exact hf u h1
        · rw [h1]; exact c3
    · cases he

theorem zeroSz_some {el : TypeId} {z : AV} (hz : zeroT P el = some z) (hs : zeroSz P el = szT P el) : ∃ x, (∀ u : World, (zeroValue el).run P u = .ok x u) ∧ z = ofVal x ∧ x.cells.size = szT P el := by
  obtain ⟨i, x, hi, hx, rfl⟩ := zeroT_some hz
  refine ⟨x, fun u => by simp [zeroValue, typeInfo, hi, hx], rfl, ?_⟩
  unfold zeroSz at hs
  simp only [hi, hx] at hs
  exact hs
/-- a row of zeros -/
theorem repC_zeros {x : Value} {sz n : Nat} (hs : x.cells.size = sz) (hz : 0 < sz) : RepC g w (flatL (List.replicate n (ofVal x))) ((Array.range (n * sz)).map (x.cells[· % x.cells.size]!)) := by
  have hc := repC_ofVal (g := g) (w := w) x
  have hl : ∀ v ∈ List.replicate n (ofVal x), v.cells.length = sz := fun v hv => by rw [(List.mem_replicate.1 hv).2, hc.1, hs]
  refine ⟨by rw [flat_len hl]; simp, fun k c v hk hv => ?_⟩
  have hlt : k < n * sz := by have := (List.getElem?_eq_some_iff.1 hk).1; rw [flat_len hl, List.length_replicate] at this; exact this
  have hi : k / sz < n := by rw [Nat.div_lt_iff_lt_mul hz]; exact hlt
  have hm : k % sz < sz := Nat.mod_lt _ hz
  have e : k / sz * sz + k % sz = k := by have := Nat.div_add_mod k sz; rw [Nat.mul_comm] at this; exact this
  have hg := flat_get hl (i := k / sz) (v := ofVal x) (by simp [hi]) hm
  rw [e, hk] at hg
  have hmx : k % x.cells.size < x.cells.size := by rw [hs]; exact hm
  simp only [Array.getElem?_map, Array.getElem?_range, hlt, if_true, Option.map_some, Option.some.injEq] at hv
  rw [← hv]
  refine hc.2 (k % sz) c _ hg.symm ?_
  rw [← hs, getElem!_pos x.cells _ hmx]
  exact Array.getElem?_eq_getElem hmx

theorem cells_flat {sz : Nat} {es : List AV} {cs : Array Value} (h : ∀ v ∈ es, v.cells.length = sz) (hf : ∀ v ∈ es, v.flat = true) (hr : RepC g w (flatL es) cs) :
    ∀ (i : Nat) v j c, es[i]? = some v → v.cells[j]? = some c → c.isCell = true ∧ ∃ y, cs[i * sz + j]? = some y ∧ Rep g w c y := fun i v j c hv hj => by
  have hm := List.mem_of_getElem? hv
  have hjl : j < sz := by rw [← h v hm]; exact (List.getElem?_eq_some_iff.1 hj).1
  have hg := flat_get h hv hjl
  rw [hj] at hg
  have hlt : i * sz + j < cs.size := by rw [← hr.1]; exact (List.getElem?_eq_some_iff.1 hg).1
  have hy := Array.getElem?_eq_getElem hlt
  exact ⟨List.all_eq_true.1 (hf v hm) c (List.mem_of_getElem? hj), _, hy, hr.2 _ _ _ hg hy⟩

theorem buildSlice_sound {t : TypeId} {n : Nat} {el : TypeId} {z : AV} {es : List AV} {ps : List (Nat × AV)} {qs : Array (Nat × Value)} {L G : Hp} (s : Sim g w L G) (hel : elemT P t = some el) (hz : zeroT P el = some z)
    (hl : ps.length = qs.size) (hpq : ∀ (k : Nat) p q, ps[k]? = some p → qs[k]? = some q → p.1 = q.1 ∧ Rep g w p.2 q.2) (he : listA (szT P el) (List.replicate n z) ps = some es)
    (hn : n * szT P el ≤ 2 ^ 20) (hzs : zeroSz P el = szT P el) (hzf : z.flat = true) :
    ∃ V g' w', (Instr.buildSlice t n qs).run P w = .ok V w' ∧ Rep g' w' (.sl es .full) V ∧ Sim g' w' L G ∧ Ext g w g' w' ∧ Mono g g' := by
  obtain ⟨x, x1, rfl, x3⟩ := zeroSz_some hz hzs
  have hsz := elemT_sz hel
  have hpos : 0 < szT P el := Nat.pos_of_ne_zero hsz
  have hcz := repC_ofVal (g := g) (w := w) x
  have hl0 : ∀ v ∈ List.replicate n (ofVal x), v.cells.length = szT P el := fun v hv => by rw [(List.mem_replicate.1 hv).2, hcz.1, x3]
  obtain ⟨k1, k2, k3, k4⟩ := fill_list hl0 he
  have hflat := k4 fun v hv => by rw [(List.mem_replicate.1 hv).2]; exact hzf
  have hlen : es.length = n := by rw [k3, List.length_replicate]
  have hc0 : RepC g w (flatL (List.replicate n (ofVal x))) ((Array.range (n * szT P el)).map ((if n * szT P el = 0 then #[] else x.cells)[· % (if n * szT P el = 0 then #[] else x.cells).size]!)) := by
    by_cases h0 : n * szT P el = 0
    · have hn0 : n = 0 := by rcases Nat.mul_eq_zero.1 h0 with h | h; exact h; exact absurd h hsz
      subst hn0
      rw [h0]
      exact ⟨by simp [flatL], fun i c v h => by simp [flatL] at h⟩
    · simp only [if_neg h0]
      exact repC_zeros x3 hpos
  obtain ⟨vs', f1, f2⟩ := fill_rep hc0 (by rw [hl, Array.length_toList]) (fun k p q hp hq => hpq k p q hp (by simpa using hq)) k1
  obtain ⟨s1, s2, s3⟩ := sim_plain s (.cells vs' el)
  refine ⟨.slice (some ⟨w.heap.size, 0, none⟩) n n, _, w.alloc (.cells vs' el), ?_, ?_, s1, s2, s3⟩
  · unfold Instr.buildSlice
    have hbig : ¬ (n * szT P el > 2 ^ 24) := by omega
    by_cases h0 : n * szT P el = 0
    · simp only [if_pos h0] at f1
      simp only [Sem.run_bind, run_underlying (elemT_some hel), Result.andThen_ok, run_sizeOf hsz]
      rw [if_neg hbig]
      simp only [Sem.run_bind, Sem.run_pure, Result.andThen_ok, if_pos h0, f1, newRow, run_newObj]
      rfl
    · simp only [if_neg h0] at f1
      simp only [Sem.run_bind, run_underlying (elemT_some hel), Result.andThen_ok, run_sizeOf hsz]
      rw [if_neg hbig]
      simp only [Sem.run_bind, Sem.run_pure, Result.andThen_ok, if_neg h0, x1, f1, newRow, run_newObj]
      rfl
  · have hcell := cells_flat k2 hflat f2
    have hes : ∀ (i : Nat) v, es[i]? = some v → v.cells.length = szT P el := fun i v hv => k2 v (List.mem_of_getElem? hv)
    rw [← hlen]
    refine .sl es .full _ es.length w.heap.size 0 (szT P el) (fun i j => (vs'[i * szT P el + j]?).getD undef) (Nat.le_refl _) rfl (fun _ => ⟨rfl, hpos⟩) hes (fun i v j c hv hj => ?_) fun i v j c hv hj => ?_
    · obtain ⟨q1, y, q2, q3⟩ := hcell i v j c hv hj
      refine ⟨q1, (show ownAt g.own w.heap.size (fun _ => .prot) w.heap.size (0 + i * szT P el + j) = .prot from ownAt_new), ?_⟩
      rw [World.cell?_alloc_new, Nat.zero_add, q2]; rfl
    · obtain ⟨q1, y, q2, q3⟩ := hcell i v j c hv hj
      rw [q2]
      exact q3.ext s.own s2 s3
theorem makeSlice_sound {t el : TypeId} {z : AV} {n : Nat} {loc : Bool} {slot : Option Nat} {L G L' G' : Hp} {b : Nat} (s : Sim g w L G) (hslot : ∀ k, slot = some k → L[k]? = some .dead) (hel : elemT P t = some el) (hz : zeroT P el = some z)
    (hb : n * P.bytesOf el ≤ mostBytes) (hn : n < 2 ^ 44) (hzs : zeroSz P el = szT P el) (hzf : z.flat = true) (hzn : z.noL = true) (h0 : 0 < n) (e : newBlk loc slot (.row 0 (List.replicate n z)) L G = (b, L', G')) :
    ∃ V g' w', (Instr.makeSlice t (.int .i64 n) (.int .i64 n)).run P w = .ok V w' ∧ Rep g' w' (.hs loc b 0 0 n) V ∧ Sim g' w' L' G' ∧ Ext g w g' w' ∧ Mono g g' := by
  obtain ⟨x, x1, rfl, x3⟩ := zeroSz_some hz hzs
  have hsz := elemT_sz hel
  have hpos : 0 < szT P el := Nat.pos_of_ne_zero hsz
  have hcz := repC_ofVal (g := g) (w := w) x
  have hl0 : ∀ v ∈ List.replicate n (ofVal x), v.cells.length = szT P el := fun v hv => by rw [(List.mem_replicate.1 hv).2, hcz.1, x3]
  obtain ⟨f1, f2⟩ := newBlk_spec s hslot e
  obtain ⟨i, hi⟩ := info_of_size hsz
  have hbytes : i.bytes = P.bytesOf el := by simp [Program.bytesOf, hi]
  have hnz : n * szT P el ≠ 0 := Nat.mul_ne_zero (by omega) hsz
  let cs := (Array.range (n * szT P el)).map (x.cells[· % x.cells.size]!)
  obtain ⟨g', k1, k2, k3, k4⟩ := sim_row (el := el) (cap := n) s hpos (fun i v hv => hl0 v (List.mem_of_getElem? hv)) (fun _ => refss_of fun v hv => by rw [(List.mem_replicate.1 hv).2]; exact hzn) f1 f2 cs (by simp [cs]) (by simp)
    (cells_flat hl0 (fun v hv => by rw [(List.mem_replicate.1 hv).2]; exact hzf) (repC_zeros x3 hpos))
  have hw : IntKind.i64.wrap (n : Int) = n := by
    unfold IntKind.wrap; simp [IntKind.bits, IntKind.signed]; omega
  have hbig : ¬ ((P.bytesOf el : Int) * (n : Int) > 2 ^ 48) := by
    have h1 : (n : Int) * (P.bytesOf el : Int) ≤ (mostBytes : Int) := by exact_mod_cast hb
    have h2 : (mostBytes : Int) ≤ 2 ^ 48 := by decide
    rw [Int.mul_comm]
    omega
  refine ⟨.slice (some ⟨w.heap.size, 0, none⟩) n n, g', w.alloc (.cells cs el), ?_, ?_, k1, k2, k3⟩
  · unfold Instr.makeSlice
    have hti : ∀ (u : World), (typeInfo el).run P u = .ok i u := fun u => by simp [typeInfo, hi]
    simp only [Sem.run_bind, run_underlying (elemT_some hel), Result.andThen_ok, asInt, asIntOf, Sem.run_pure, hti, hw, hbytes]
    rw [if_neg (by simp only [Bool.or_eq_true, decide_eq_true_eq]; omega)]
    simp only [Sem.run_bind, run_askRoom, Result.andThen_ok, run_sizeOf hsz, Int.toNat_natCast, if_neg hnz, x1, newRow, run_newObj, Sem.run_pure]
    rfl
  · have := Rep.hs (g := g') (w := w.alloc (.cells cs el)) loc b 0 0 n _ k4 (by simp)
    simpa using this

/-! ### maps -/
theorem keyT_cases {kt : TypeId} {k : AV} (h : keyT P kt k = true) : (∃ q q' n, P.underlying kt = some (.int q) ∧ k = .int q' n) ∨ (∃ s, P.underlying kt = some .string ∧ k = .str s) ∨ ∃ b, P.underlying kt = some .bool ∧ k = .bool b := by
  unfold keyT at h
  split at h
  · rename_i h1; exact .inl ⟨_, _, _, h1, rfl⟩
  · rename_i h1; exact .inr (.inl ⟨_, h1, rfl⟩)
  · rename_i h1; exact .inr (.inr ⟨_, h1, rfl⟩)
  · cases h
theorem run_checkKey {kt : TypeId} {v : Value} {k : AV} {e : Bool} (h : keyT P kt k = true) : (Instr.checkKey e 10000 kt v).run P w = .ok () w := by
  have h1 : (10000 : Nat) = 9999 + 1 := rfl
  rw [h1, Instr.checkKey]
  rcases keyT_cases h with ⟨q, q', n, hu, _⟩ | ⟨s, hu, _⟩ | ⟨b, hu, _⟩ <;> (rw [Sem.run_bind, run_underlying hu]; rfl)
theorem beq_bytes (a b : List UInt8) : ((⟨a.toArray⟩ : ByteArray) == ⟨b.toArray⟩) = (a == b) := by
  rw [Bool.eq_iff_iff]
  constructor
  · intro h
    have e : a.toArray = b.toArray := by simpa using (show (a.toArray == b.toArray) = true from h)
    simpa using e
  · intro h
    rw [beq_iff_eq] at h
    subst h
    show (a.toArray == a.toArray) = true
    simp
theorem keyEq_sound {kt : TypeId} {d : TypeDesc} {k k' : AV} {K K' : Value} {b : Bool} (hd : P.underlying kt = some d) (ht : keyT P kt k = true) (hk : Rep g w k K) (hk' : Rep g w k' K') (h : keyEq k k' = some b) : Instr.sameNow d K K' = some b := by
  rcases keyT_cases ht with ⟨q, q', n, hu, rfl⟩ | ⟨s, hu, rfl⟩ | ⟨c, hu, rfl⟩
  · rw [hd] at hu
    cases hu
    cases k' <;> simp only [keyEq] at h <;> first | cases h | skip
    rw [hk.int_inv, hk'.int_inv]
    exact h
  · rw [hd] at hu
    cases hu
    cases k' <;> simp only [keyEq] at h <;> first | cases h | skip
    rw [hk.str_inv, hk'.str_inv]
    simp only [Instr.sameNow, beq_bytes]
  · rw [hd] at hu
    cases hu
    cases k' <;> simp only [keyEq] at h <;> first | cases h | skip
    rw [hk.bool_inv, hk'.bool_inv]
    rfl
theorem find_sound {kt : TypeId} {d : TypeDesc} {k : AV} {K : Value} (hd : P.underlying kt = some d) (ht : keyT P kt k = true) (hk : Rep g w k K) : ∀ {kvs : List (AV × AV)} {es : List MapEntry} {i : Nat} {r : Option (Nat × AV)}, kvs.length = es.length →
    (∀ (j : Nat) q v e, kvs[j]? = some (q, v) → es[j]? = some e → Rep g w q e.key ∧ Rep g w v e.val) → findA k kvs i = some r →
    ∃ R, Instr.findNow d K es i = some R ∧ (match r, R with | none, none => True | some (a, v), some (b, x) => a = b ∧ Rep g w v x ∧ i ≤ a ∧ ∃ e, es[a - i]? = some e ∧ Instr.sameNow d K e.key = some true | _, _ => False)
  | [], [], i, r, _, _, h => by rw [findA] at h; cases h; exact ⟨none, rfl, trivial⟩
  | [], _ :: _, _, _, hl, _, _ => by simp at hl
  | _ :: _, [], _, _, hl, _, _ => by simp at hl
  | (q, v) :: kvs, e :: es, i, r, hl, hr, h => by
    rw [findA] at h
    obtain ⟨h1, h2⟩ := hr 0 q v e rfl rfl
    rw [Instr.findNow]
    cases hq : keyEq k q with
    | none => rw [hq] at h; cases h
    | some b =>
      rw [hq] at h
      rw [keyEq_sound hd ht hk h1 hq]
      cases b with
      | true => cases h; exact ⟨_, rfl, rfl, h2, Nat.le_refl _, e, by simp, keyEq_sound hd ht hk h1 hq⟩
      | false =>
        obtain ⟨R, k1, k2⟩ := find_sound hd ht hk (kvs := kvs) (es := es) (by simpa using hl) (fun j q v e hq he => hr (j + 1) q v e (by simpa using hq) (by simpa using he)) h
        refine ⟨R, k1, ?_⟩
        cases r with
        | none => cases R with
          | none => trivial
          | some bx => exact k2.elim
        | some av =>
          obtain ⟨a, v'⟩ := av
          cases R with
          | none => exact k2.elim
          | some bx =>
            obtain ⟨e1, e2, e3, q', e4, e5⟩ := k2
            refine ⟨e1, e2, by omega, q', ?_, e5⟩
            rw [show a - i = (a - (i + 1)) + 1 by omega]
            simpa using e4
theorem run_findKey {kt : TypeId} {d : TypeDesc} {K : Value} (hd : P.underlying kt = some d) {es : List MapEntry} {R : Option (Nat × Value)} (h : Instr.findNow d K es 0 = some R) : (Instr.findKey kt K es).run P w = .ok R w := by
  unfold Instr.findKey
  rw [Sem.run_bind, run_underlying hd]
  simp only [Result.andThen_ok, h]
  rfl

theorem run_getMap {B : Nat} {es : Array MapEntry} {k : Nat} (h : w.heap[B]? = some (.map es k)) : (getObj B).run P w = .ok (.map es k) w := by
  unfold getObj
  simp only [Sem.run, h]
theorem rep_pair {v : AV} {x : Value} {b : Bool} (h : Rep g w v x) : Rep g w (.tup [v, .bool b]) (.tuple #[x, .bool b]) := by
  refine .tup _ _ rfl fun i c y hc hy => ?_
  cases i with
  | zero => simp at hc hy; rw [← hc, ← hy]; exact h
  | succ i => cases i with
    | zero => simp at hc hy; rw [← hc, ← hy]; exact .bool b
    | succ i => simp at hc
theorem lookup_sound {t : TypeId} {m k v : AV} {M K : Value} {ok : Bool} {L G : Hp} (s : Sim g w L G) (hm : Rep g w m M) (hk : Rep g w k K) (h : lookupA P t m k ok L G = some v) :
    ∃ V, (Instr.lookup t M K ok).run P w = .ok V w ∧ Rep g w v V := by
  unfold lookupA at h
  replace h := Option.bind_eq_some_iff.1 h
  obtain ⟨⟨kt, el⟩, hmt, h⟩ := h
  have hu := mapT_some hmt
  simp only at h
  split at h
  · cases h
  rename_i hkt
  have hkt' : keyT P kt k = true := by cases hh : keyT P kt k with | true => rfl | false => exact absurd hh hkt
  replace h := Option.bind_eq_some_iff.1 h
  obtain ⟨kvs, hkvs, h⟩ := h
  replace h := Option.bind_eq_some_iff.1 h
  obtain ⟨r, hr, h⟩ := h
  obtain ⟨d, hd⟩ : ∃ d, P.underlying kt = some d := by rcases keyT_cases hkt' with ⟨q, _, _, hu, _⟩ | ⟨_, hu, _⟩ | ⟨_, hu, _⟩ <;> exact ⟨_, hu⟩
  have hes : ∃ es : Array MapEntry, ((M = .map none ∧ es = #[]) ∨ ∃ B clk, M = .map (some B) ∧ w.heap[B]? = some (.map es clk)) ∧ kvs.length = es.toList.length ∧ ∀ (j : Nat) q v e, kvs[j]? = some (q, v) → es.toList[j]? = some e → Rep g w q e.key ∧ Rep g w v e.val := by
    unfold mapAt at hkvs
    cases m with
    | nilm => cases hkvs; cases hm; exact ⟨#[], .inl ⟨rfl, rfl⟩, rfl, fun j q v e h => by simp at h⟩
    | mp loc b =>
      simp only at hkvs
      cases hb : (hpOf loc L G)[b]? with
      | none => rw [hb] at hkvs; cases hkvs
      | some blk =>
        rw [hb] at hkvs
        cases blk with
        | map kvs' =>
          cases hkvs
          obtain ⟨B, es, clk, m1, m2, m3, m4, m5⟩ := hpOf_blk s hb
          cases hm with
          | mp _ _ B' h' =>
            rw [m1] at h'
            cases h'
            exact ⟨es, .inr ⟨B, clk, rfl, m2⟩, by simpa using m4, fun j q v e hq he => (m5 j q v e hq (by simpa using he)).2⟩
        | _ => cases hkvs
    | _ => cases hkvs
  obtain ⟨es, e1, e2, e3⟩ := hes
  obtain ⟨R, f1, f2⟩ := find_sound hd hkt' hk e2 e3 hr
  have hf := run_findKey (P := P) (w := w) hd f1
  have hc := run_checkKey (P := P) (w := w) (v := K) (e := es.isEmpty) hkt'
  have hrun : (Instr.lookup t M K ok).run P w = (match (generalizing := false) R with | some (_, v) => .ok (if ok then .tuple #[v, .bool true] else v) w | none => ((zeroValue el).run P w).andThen fun z w' => .ok (if ok then .tuple #[z, .bool false] else z) w') := by
    unfold Instr.lookup
    rcases e1 with ⟨rfl, rfl⟩ | ⟨B, clk, rfl, hB⟩
    · simp only [Sem.run_bind, run_underlying hu, Result.andThen_ok, Sem.run_pure]
      simp only [hc, Result.andThen_ok]
      rw [hf]
      simp only [Result.andThen_ok]
      cases R with
      | some p => rfl
      | none => simp only [Sem.run_bind]; cases (zeroValue el).run P w <;> rfl
    · simp only [Sem.run_bind, run_underlying hu, Result.andThen_ok, run_getMap hB, Sem.run_pure]
      simp only [hc, hf, Result.andThen_ok]
      cases R with
      | some p => rfl
      | none => simp only [Sem.run_bind]; cases (zeroValue el).run P w <;> rfl
  cases r with
  | some p =>
    obtain ⟨i, u⟩ := p
    cases R with
    | none => exact f2.elim
    | some q =>
      obtain ⟨j, x⟩ := q
      refine ⟨_, hrun, ?_⟩
      cases h
      cases ok with
      | true => exact rep_pair f2.2.1
      | false => exact f2.2.1
  | none =>
    cases R with
    | some q => exact f2.elim
    | none =>
      replace h := Option.map_eq_some_iff.1 h
      obtain ⟨z, hz, h⟩ := h
      obtain ⟨i, x, hi, hx, rfl⟩ := zeroT_some hz
      have hzv : (zeroValue el).run P w = .ok x w := by simp [zeroValue, typeInfo, hi, hx]
      rw [hzv] at hrun
      refine ⟨_, hrun, ?_⟩
      subst h
      cases ok with
      | true => exact rep_pair (ofVal_rep x)
      | false => exact ofVal_rep x
theorem same_eq {kt : TypeId} {d : TypeDesc} {k : AV} {K K' : Value} (hd : P.underlying kt = some d) (ht : keyT P kt k = true) (hk : Rep g w k K) (h : Instr.sameNow d K K' = some true) : K' = K ∧ Instr.sameBits 10000 K' K = true := by
  rcases keyT_cases ht with ⟨q, q', n, hu, rfl⟩ | ⟨s, hu, rfl⟩ | ⟨c, hu, rfl⟩
  · rw [hd] at hu
    cases hu
    rw [hk.int_inv] at h ⊢
    cases K' <;> simp only [Instr.sameNow] at h <;> first | cases h | skip
    by_cases e : q' = ‹_›
    · subst e
      simp only [if_true, Option.some.injEq, beq_iff_eq] at h
      subst h
      exact ⟨rfl, by simp [Instr.sameBits]⟩
    · rw [if_neg e] at h; cases h
  · rw [hd] at hu
    cases hu
    rw [hk.str_inv] at h ⊢
    cases K' <;> simp only [Instr.sameNow] at h <;> first | cases h | skip
    rename_i y
    obtain ⟨y⟩ := y
    have e := beq_bytes s y.toList
    rw [Array.toArray_toList] at e
    simp only [Option.some.injEq] at h
    rw [h] at e
    have e' : s = y.toList := by simpa using e.symm
    subst e'
    simp only [Array.toArray_toList, Instr.sameBits, true_and]
    rw [Array.toArray_toList] at h
    exact h
  · rw [hd] at hu
    cases hu
    rw [hk.bool_inv] at h ⊢
    cases K' <;> simp only [Instr.sameNow] at h <;> first | cases h | skip
    simp only [Option.some.injEq, beq_iff_eq] at h
    subst h
    exact ⟨rfl, by simp [Instr.sameBits]⟩

theorem keyT_isKey {kt : TypeId} {k : AV} (h : keyT P kt k = true) : k.isKey = true := by
  rcases keyT_cases h with ⟨_, _, _, _, rfl⟩ | ⟨_, _, rfl⟩ | ⟨_, _, rfl⟩ <;> rfl

/-- a step that turns a map -/
theorem step_map {L G : Hp} (s : Sim g w L G) {loc : Bool} {b B : Nat} {es es' : Array MapEntry} {k k' : Nat} (hB : w.heap[B]? = some (.map es k)) (hown : ∀ o, g.own B o = .blk loc b) :
    Step g w g { w with heap := w.heap.setIfInBounds B (.map es' k') } loc b where
  ext := by
    refine ⟨by simp, rfl, rfl, rfl, fun B' o hl h => ?_, fun B' hl h => ?_, fun _ _ _ h => h, fun _ _ h => h, fun _ I h => ⟨I, h, .inl rfl⟩⟩
    · have hne : B ≠ B' := fun e => by subst e; rw [hown] at h; rcases h with h | h <;> cases h
      refine ⟨rfl, ?_, ?_⟩
      · simp only [World.cell?]
        rw [Array.getElem?_setIfInBounds_ne hne]
      · simp only [World.frozen?]
        rw [Array.getElem?_setIfInBounds_ne hne]
    · have hne : B ≠ B' := fun e => by subst e; have := h 0; rw [hown] at this; rcases this with h | h <;> cases h
      exact Array.getElem?_setIfInBounds_ne hne
  mono := Mono.refl g
  own := fun B' o hl => s.own B' o (by simpa using hl)
  same := fun _ _ _ => ⟨fun _ => rfl, rfl, rfl⟩
  cells := fun l' b' hne B' o h => by
    have hne' : B ≠ B' := fun e => by subst e; rw [hown] at h; injection h with e1 e2; exact hne ⟨e1.symm, e2.symm⟩
    refine ⟨h, ?_, ?_, fun _ _ _ => Array.getElem?_setIfInBounds_ne hne'⟩
    · simp only [World.cell?]
      rw [Array.getElem?_setIfInBounds_ne hne']
    · simp only [World.frozen?]
      rw [Array.getElem?_setIfInBounds_ne hne']

theorem run_keyStays {K K' : Value} (h : Instr.sameBits 10000 K' K = true) : (Instr.keyThatStays K' K).run P w = .ok K w := by
  unfold Instr.keyThatStays
  rw [if_pos h]
  rfl
theorem run_setMap {B : Nat} {es : Array MapEntry} {k : Nat} (o : Obj) (h : w.heap[B]? = some (.map es k)) : (setObj B o).run P w = .ok () { w with heap := w.heap.setIfInBounds B o } := by
  simp only [setObj, Sem.run, h]

theorem update_sound {t : TypeId} {m k v : AV} {M K V : Value} {L G L' G' : Hp} (s : Sim g w L G) (hm : Rep g w m M) (hk : Rep g w k K) (hv : Rep g w v V) (h : updateA P t m k v L G = some (L', G')) :
    ∃ w', (Instr.mapUpdate t M K V).run P w = .ok () w' ∧ Sim g w' L' G' ∧ Ext g w g w' := by
  unfold updateA at h
  replace h := Option.bind_eq_some_iff.1 h
  obtain ⟨⟨kt, el⟩, hmt, h⟩ := h
  have hu := mapT_some hmt
  simp only at h
  by_cases hkt : keyT P kt k = false
  · rw [if_pos hkt] at h; cases h
  rw [if_neg hkt] at h
  have hkt' : keyT P kt k = true := by cases hh : keyT P kt k with | true => rfl | false => exact absurd hh hkt
  obtain ⟨d, hd⟩ : ∃ d, P.underlying kt = some d := by rcases keyT_cases hkt' with ⟨q, _, _, hu, _⟩ | ⟨_, hu, _⟩ | ⟨_, hu, _⟩ <;> exact ⟨_, hu⟩
  cases m with
  | mp loc b =>
    simp only at h
    cases hb : (hpOf loc L G)[b]? with
    | none => rw [hb] at h; cases h
    | some blk =>
      rw [hb] at h
      cases blk with
      | map kvs =>
        simp only at h
        by_cases hfl : v.flat = false ∨ loc = false ∧ v.noL = false
        · rw [if_pos hfl] at h; cases h
        rw [if_neg hfl] at h
        replace h := Option.map_eq_some_iff.1 h
        obtain ⟨r, hr, h⟩ := h
        obtain ⟨B, es, clk, m1, m2, m3, m4, m5⟩ := hpOf_blk s hb
        have hM : M = .map (some B) := by
          cases hm with
          | mp _ _ B' h' => rw [m1] at h'; cases h'; rfl
        subst hM
        obtain ⟨R, f1, f2⟩ := find_sound hd hkt' hk (es := es.toList) (by simpa using m4) (fun j q v e hq he => (m5 j q v e hq (by simpa using he)).2) hr
        have hf := run_findKey (P := P) (w := w) hd f1
        have hc := run_checkKey (P := P) (w := w) (v := K) (e := false) hkt'
        have hno : loc = false → Blk.noL (.map kvs) = true := fun hl => by subst hl; exact s.g.noL b _ hb
        have hvn : loc = false → v.noL = true := fun hl => by
          cases hh : v.noL with
          | true => rfl
          | false => exact absurd (.inr ⟨hl, hh⟩) hfl
        cases r with
        | some p =>
          obtain ⟨i, u⟩ := p
          cases R with
          | none => exact f2.elim
          | some q =>
            obtain ⟨j, x⟩ := q
            obtain ⟨rfl, _, _, e, e1, e2⟩ := f2
            obtain ⟨e3, e4⟩ := same_eq hd hkt' hk e2
            have e1' : es[i]? = some e := by simpa using e1
            have t := step_map (es' := es.modify i fun e => { e with key := K, val := V }) (k' := clk) s m2 m3
            refine ⟨{ w with heap := w.heap.setIfInBounds B (.map (es.modify i fun e => { e with key := K, val := V }) clk) }, ?_, s.upd (upd_set hb h) t ?_ ?_, t.ext⟩
            · unfold Instr.mapUpdate
              simp only [Sem.run_bind, run_underlying hu, Result.andThen_ok, run_getMap m2]
              simp only [hc, hf, Result.andThen_ok, Sem.run_bind, e1', Option.map_some, Option.getD_some, run_keyStays e4, run_setMap _ m2]
            · have hlt : i < es.size := (Array.getElem?_eq_some_iff.1 e1').1
              refine ⟨B, es.modify i fun e => { e with key := K, val := V }, clk, m1, by simp [(Array.getElem?_eq_some_iff.1 m2).1], m3, by simpa using m4, fun a q y e' hq he => ?_⟩
              rw [List.getElem?_set] at hq
              rw [Array.getElem?_modify] at he
              by_cases hi : i = a
              · subst hi
                simp only [if_true, m4, hlt, Option.some.injEq, Prod.mk.injEq] at hq
                simp only [if_true, e1', Option.map_some, Option.some.injEq] at he
                obtain ⟨rfl, rfl⟩ := hq
                subst he
                exact ⟨keyT_isKey hkt', hk.ext s.own t.ext t.mono, hv.ext s.own t.ext t.mono⟩
              · rw [if_neg hi] at hq he
                obtain ⟨q1, q2, q3⟩ := m5 a q y e' hq he
                exact ⟨q1, q2.ext s.own t.ext t.mono, q3.ext s.own t.ext t.mono⟩
            · intro hl
              have h1 := hno hl
              simp only [Blk.noL] at h1 ⊢
              refine refss_of fun z hz => ?_
              obtain ⟨⟨q, y⟩, hq, rfl⟩ := List.mem_map.1 hz
              rcases List.mem_or_eq_of_mem_set hq with hq | hq
              · exact refss_mem h1 (List.mem_map.2 ⟨_, hq, rfl⟩)
              · cases hq; exact hvn hl
        | none =>
          cases R with
          | some q => exact f2.elim
          | none =>
            have t := step_map (es' := es.push { key := K, val := V, born := clk }) (k' := clk + 1) s m2 m3
            refine ⟨{ w with heap := w.heap.setIfInBounds B (.map (es.push { key := K, val := V, born := clk }) (clk + 1)) }, ?_, s.upd (upd_set hb h) t ?_ ?_, t.ext⟩
            · unfold Instr.mapUpdate
              simp only [Sem.run_bind, run_underlying hu, Result.andThen_ok, run_getMap m2]
              simp only [hc, hf, Result.andThen_ok, Sem.run_bind, run_setMap _ m2]
            · refine ⟨B, es.push { key := K, val := V, born := clk }, clk + 1, m1, by simp [(Array.getElem?_eq_some_iff.1 m2).1], m3, by simp [m4], fun a q y e' hq he => ?_⟩
              rw [Array.getElem?_push] at he
              by_cases hi : a = es.size
              · rw [if_pos hi] at he
                subst hi
                rw [List.getElem?_append_right (by omega), m4] at hq
                simp at hq he
                obtain ⟨rfl, rfl⟩ := hq
                subst he
                exact ⟨keyT_isKey hkt', hk.ext s.own t.ext t.mono, hv.ext s.own t.ext t.mono⟩
              · rw [if_neg hi] at he
                have hlt : a < es.size := (Array.getElem?_eq_some_iff.1 he).1
                rw [List.getElem?_append_left (by omega)] at hq
                obtain ⟨q1, q2, q3⟩ := m5 a q y e' hq he
                exact ⟨q1, q2.ext s.own t.ext t.mono, q3.ext s.own t.ext t.mono⟩
            · intro hl
              have h1 := hno hl
              simp only [Blk.noL] at h1 ⊢
              rw [List.map_append]
              refine (refss_append).trans ?_
              have h2 := hvn hl
              unfold noLs at h1
              unfold AV.noL at h2
              rw [h1]
              simp [refss, h2]
      | _ => cases h
  | _ => cases h
/-! ### elements put over others -/
theorem rep_take {L G : Hp} {x : AV} {X : Value} {xs : List AV} (s : Sim g w L G) (hx : Rep g w x X) (h : slicedA L G x = some xs) (n : Nat) (hn : n ≤ xs.length) :
    ∃ a cap x', X = .slice a xs.length cap ∧ Rep g w x' (.slice a n cap) ∧ elemsOf L G x' = some (xs.take n) := by
  cases x with
  | sl es t =>
    cases h
    cases hx with
    | sl _ _ a cap B base sz y hc ht ha h0 h1 h2 =>
      refine ⟨a, cap, .sl (xs.take n) .no, rfl, ?_, rfl⟩
      have hl : (xs.take n).length = n := by simp [hn]
      have hg : ∀ {i : Nat} {v : AV}, (xs.take n)[i]? = some v → xs[i]? = some v := fun {i v} h => by
        rw [List.getElem?_take] at h
        split at h
        · exact h
        · cases h
      have := Rep.sl (g := g) (w := w) (xs.take n) .no a cap B base sz y (by omega) trivial (fun hne => ha (by intro e; rw [e] at hne; simp at hne)) (fun i v hv => h0 i v (hg hv)) (fun i v j c hv hj => h1 i v j c (hg hv) hj)
        (fun i v j c hv hj => h2 i v j c (hg hv) hj)
      rw [hl] at this
      exact this
  | hs loc b gen off len =>
    simp only [slicedA, elemsOf] at h
    cases hb : (hpOf loc L G)[b]? with
    | none => rw [hb] at h; cases h
    | some blk =>
      rw [hb] at h
      cases blk with
      | row g' es =>
        simp only at h
        by_cases hg : g' = gen ∧ off + len ≤ es.length
        · rw [if_pos hg] at h
          cases h
          obtain ⟨rfl, hle⟩ := hg
          have hl : ((es.drop off).take len).length = len := by simp; omega
          rw [hl] at hn ⊢
          cases hx with
          | hs _ _ _ _ _ l hm hlen =>
            refine ⟨_, _, .hs loc b g' off n, rfl, .hs _ _ _ _ _ l hm (by omega), ?_⟩
            simp only [elemsOf, hb]
            rw [if_pos ⟨trivial, by omega⟩, List.take_take, Nat.min_eq_left hn]
        · rw [if_neg hg] at h; cases h
      | _ => cases h
  | _ => cases h
theorem run_copy {t t' ty el : TypeId} {a base : Option Addr} {m k cap cap' : Nat} {newc : Array Value} {w' : World} (hu : P.underlying t = some (.slice el)) (hz : szT P el ≠ 0)
    (hnew : (Builtin.firstCells (szT P el) (Nat.min m k) (.slice a m cap)).run P w = .ok newc w) (hst : (match base with | some b => storeCells b newc.toList | none => pure () : Sem Unit).run P w = .ok () w') :
    (Builtin.copy_ #[t, t'] ty #[.slice base k cap', .slice a m cap]).run P w = .ok (.int .i64 ((Nat.min m k : Nat) : Int)) w' := by
  unfold Builtin.copy_
  simp only [List.getElem?_toArray, List.getElem?_cons_zero, List.getElem?_cons_succ, Sem.run_bind, run_underlying hu, Result.andThen_ok, run_sizeOf hz, Builtin.lenOf, Sem.run_pure, hnew]
  cases base with
  | none =>
    simp only [Sem.run_pure, Result.ok.injEq] at hst
    obtain ⟨_, rfl⟩ := hst
    rfl
  | some b =>
    simp only at hst
    simp only [Sem.run_bind, hst]
    rfl
theorem copy_sound {el t t' ty : TypeId} {d x : AV} {xs : List AV} {D X : Value} {L G L' G' : Hp} {n : Nat} (s : Sim g w L G) (hd : Rep g w d D) (hx : Rep g w x X) (hxs : slicedA L G x = some xs) (hel : elemT P t = some el)
    (h : copyA P el d xs L G = some (n, L', G')) :
    ∃ w', (Builtin.copy_ #[t, t'] ty #[D, X]).run P w = .ok (.int .i64 (n : Int)) w' ∧ Sim g w' L' G' ∧ Ext g w g w' := by
  have hu := elemT_some hel
  have hz := elemT_sz hel
  cases d with
  | sl es tk =>
    cases es with
    | cons _ _ => cases h
    | nil =>
      simp only [copyA, Option.some.injEq, Prod.mk.injEq] at h
      obtain ⟨rfl, rfl, rfl⟩ := h
      obtain ⟨a, cap, x', rfl, h1, h2⟩ := rep_take s hx hxs 0 (Nat.zero_le _)
      cases hd with
      | sl _ _ a' cap' B base sz y hc ht ha h0 h1' h2' =>
        refine ⟨w, ?_, s, .refl _ _⟩
        have hmin : Nat.min xs.length 0 = 0 := Nat.min_zero _
        have hnew : (Builtin.firstCells (szT P el) (Nat.min xs.length 0) (.slice a xs.length cap)).run P w = .ok #[] w := by
          rw [hmin]
          cases a with
          | none => rfl
          | some a => simp [Builtin.firstCells, loadCells, loadCellsFrom]
        have := run_copy (t' := t') (ty := ty) (base := a') (k := 0) (cap' := cap') hu hz hnew (w' := w) (by cases a' <;> rfl)
        rw [hmin] at this
        exact this
  | hs loc b gen off len =>
    simp only [copyA] at h
    cases hb : (hpOf loc L G)[b]? with
    | none => rw [hb] at h; cases h
    | some blk =>
      rw [hb] at h
      cases blk with
      | row g' es =>
        simp only at h
        split at h
        · rename_i hq
          obtain ⟨rfl, hle, hne, hok1, hok2, hno⟩ := hq
          generalize hyd : handAs true (xs.take len) = ys at h hno
          cases hst : setHp loc b (.row g' (es.take off ++ ys ++ es.drop (off + ys.length))) L G with
          | mk L1 G1 =>
          rw [hst] at h
          simp only [Option.some.injEq, Prod.mk.injEq] at h
          obtain ⟨rfl, rfl, rfl⟩ := h
          obtain ⟨l, m1, m2, m3⟩ := hpOf_blk s hb
          have hlsz : l.sz = szT P el := by
            cases es with
            | nil => exact absurd rfl hne
            | cons u r => rw [← m3.size 0 u rfl]; simpa [szOk] using hok1
          obtain ⟨a, cap, x', rfl, h1, h2⟩ := rep_take s hx hxs (Nat.min xs.length len) (Nat.min_le_left _ _)
          have hmin : xs.take (Nat.min xs.length len) = xs.take len := by
            rcases Nat.le_total xs.length len with h | h
            · rw [show Nat.min xs.length len = xs.length from Nat.min_eq_left h]; exact (List.take_of_length_le (Nat.le_refl _)).trans (List.take_of_length_le h).symm
            · exact congrArg (xs.take ·) (Nat.min_eq_right h)
          rw [hmin] at h2
          have src := src_of s h1 h2 hok2
          have hlen : (xs.take len).length = Nat.min xs.length len := by rw [List.length_take]; exact Nat.min_comm _ _
          obtain ⟨newc, n1, n2, n3⟩ := src.cells
          rw [hlen] at n1
          have n1' : (Builtin.firstCells (szT P el) (Nat.min xs.length len) (.slice a xs.length cap)).run P w = .ok newc w := by cases a <;> exact n1
          obtain ⟨hd1, hd2⟩ := handed (both := true) src.size n3
          rw [hyd] at hd1 hd2
          have hyl : ys.length = (xs.take len).length := by rw [← hyd, handAs_len (g := g) (w := w)]
          cases hd with
          | hs _ _ _ _ _ l' m1' hl =>
            rw [m1] at m1'
            cases m1'
            have hle2 : (xs.take len).length ≤ len := by rw [hlen]; exact Nat.min_le_right _ _
            have hlen3 := m3.len
            obtain ⟨e1, e2, e3⟩ := row_splice (P := P) s m3 (p := off) (xs := ys) (newc := newc) (by omega) (by omega) (by rw [hyl, hlsz]; exact n2) (by rw [hlsz]; exact hd1) (by rw [hlsz]; exact hd2)
            refine ⟨_, ?_, s.upd (upd_set hb hst) e2 ⟨l, m1, m2, e3⟩ fun e => ?_, e2.ext⟩
            · rw [hlen]
              exact run_copy hu hz n1' e1
            · have hnoe : noLs es = true := by subst e; exact s.g.noL b _ hb
              have hnoy : noLs ys = true := by rcases hno with h | h; (rw [e] at h; cases h); exact h
              refine refss_of fun u hu => ?_
              rcases List.mem_append.1 hu with h2 | h2
              · rcases List.mem_append.1 h2 with h3 | h3
                · exact refss_mem hnoe (List.mem_of_mem_take h3)
                · exact refss_mem hnoy h3
              · exact refss_mem hnoe (List.mem_of_mem_drop h2)
        · cases h
      | _ => cases h
  | _ => cases h
end
end Ev
