/- Regions that draw their order, at last; calls by any fuel. -/
import Derived.Test.YtecflllnnbiheaaEv11
import Derived.Test.YtecflllnnbiheaaEv12
set_option maxHeartbeats 4000000
set_option linter.unusedVariables false
set_option linter.unusedSimpArgs false
namespace Ev
open Go

/-! ### what comes ahead -/
theorem mem_fold {acc : List (List Nat)} {i : Nat} : ∀ {l : List Edge} {s : List Nat}, i ∈ l.foldl (fun s e => if Region.binds .any e then e.on :: (acc.getD e.on [] ++ s) else s) s → i ∈ s ∨ ∃ e ∈ l, Region.binds .any e = true ∧ (i = e.on ∨ i ∈ acc.getD e.on [])
  | [], s, h => .inl h
  | e :: l, s, h => by
    rw [List.foldl_cons] at h
    rcases mem_fold h with h | ⟨e', h1, h2⟩
    · by_cases hb : Region.binds .any e = true
      · rw [if_pos hb] at h
        rcases List.mem_cons.1 h with h | h
        · exact .inr ⟨e, by simp, hb, .inl h⟩
        · rcases List.mem_append.1 h with h | h
          · exact .inr ⟨e, by simp, hb, .inr h⟩
          · exact .inl h
      · rw [if_neg hb] at h
        exact .inl h
    · exact .inr ⟨e', by simp [h1], h2⟩

theorem ahead_spec : ∀ (rest : List Oper) (acc : List (List Nat)),
    (∀ j, j < acc.length → (aheadOf rest acc)[j]? = acc.reverse[j]?) ∧
    ∀ t o, rest[t]? = some o → ∀ i ∈ (aheadOf rest acc).getD (acc.length + t) [], ∃ e ∈ o.after, Region.binds .any e = true ∧ (i = e.on ∨ i ∈ (aheadOf rest acc).getD e.on [])
  | [], acc => ⟨fun j h => rfl, fun t o h => by simp at h⟩
  | o :: rest, acc => by
    have hdef : aheadOf (o :: rest) acc = aheadOf rest ((o.after.toList.foldl (fun s e => if Region.binds .any e then e.on :: (acc.reverse.getD e.on [] ++ s) else s) []).eraseDups :: acc) := rfl
    obtain ⟨k1, k2⟩ := ahead_spec rest ((o.after.toList.foldl (fun s e => if Region.binds .any e then e.on :: (acc.reverse.getD e.on [] ++ s) else s) []).eraseDups :: acc)
    rw [← hdef] at k1 k2
    have k0 : ∀ j, j < acc.length → (aheadOf (o :: rest) acc)[j]? = acc.reverse[j]? := fun j hj => by
      rw [k1 j (by simp; omega), List.reverse_cons, List.getElem?_append_left (by simpa using hj)]
    refine ⟨k0, fun t o' ho i hi => ?_⟩
    cases t with
    | zero =>
      simp only [List.getElem?_cons_zero, Option.some.injEq] at ho
      subst ho
      rw [Nat.add_zero, List.getD_eq_getElem?_getD, k1 acc.length (by simp), List.reverse_cons, List.getElem?_append_right (by simp)] at hi
      simp only [List.length_reverse, Nat.sub_self, List.getElem?_cons_zero, Option.getD_some] at hi
      rcases mem_fold (List.mem_eraseDups.1 hi) with h | ⟨e, h1, h2, h3⟩
      · cases h
      · refine ⟨e, by simpa using h1, h2, ?_⟩
        rcases h3 with h3 | h3
        · exact .inl h3
        · right
          have hlt : e.on < acc.length := by
            rcases Nat.lt_or_ge e.on acc.length with h | h
            · exact h
            · rw [List.getD_eq_getElem?_getD, List.getElem?_eq_none (by simpa using h)] at h3; cases h3
          rw [List.getD_eq_getElem?_getD, k0 _ hlt, ← List.getD_eq_getElem?_getD]
          exact h3
    | succ t =>
      exact k2 t o' (by simpa using ho) i (by rw [List.length_cons, show acc.length + 1 + t = acc.length + (t + 1) by omega]; exact hi)

section
variable {P : Program} {A : Ann} {call : CallF} {f : Nat} {ops : Array Oper} {base : Nat}

/-- what is left to do, and how far it has come -/
structure Inv (C : Cfg) (f : Nat) (ops : Array Oper) (base : Nat) (r : Out) (R : List (Nat × Oper × Option Nat)) (listed : Array Bool) (e : Env) (L G : Hp) : Prop where
  run : ∃ r', evDraws C f ops base (R.map Prod.snd) e L G = some r' ∧ OutEq r r'
  inc : R.Pairwise fun x y => x.1 < y.1 ∧ ∀ k, x.2.2 = some k → y.2.2 ≠ some k
  op : ∀ x ∈ R, ops[x.1]? = some x.2.1 ∧ listed.getD x.1 true = false
  slot : ∀ x ∈ R, SlotOk C f base x.2 ∧ ∀ k, x.2.2 = some k → L[k]? = some .dead
  all : ∀ i, listed.getD i true = false → ∃ x ∈ R, x.1 = i
  size : listed.size = ops.size
  closed : ∀ i, listed.getD i false = true → ∀ j ∈ (ahead ops.toList).getD i [], listed.getD j false = true

theorem drawOk_spec {C : Cfg} (h : drawOk C f ops = true) {j : Nat} {oj : Oper} (hj : ops[j]? = some oj) : (∀ e ∈ oj.after, e.on < j ∨ Region.binds .any e = false) ∧
    ∀ i oi, i < j → ops[i]? = some oi → i ∈ (ahead ops.toList).getD j [] ∨ ((clsOf C f oi).free (clsOf C f oj) = true ∧ Apart ops oi oj) := by
  unfold drawOk at h
  simp only [List.all_eq_true, List.mem_range] at h
  have hlt : j < ops.size := (Array.getElem?_eq_some_iff.1 hj).1
  have hx := h j (by simpa using hlt)
  rw [Array.getElem?_toList, hj] at hx
  simp only [Bool.and_eq_true] at hx
  refine ⟨fun e he => ?_, fun i oi hi ho => ?_⟩
  · have := List.all_eq_true.1 hx.1 e (by simpa using he)
    simpa using this
  · have := List.all_eq_true.1 hx.2 i (by simpa using hi)
    simp only [Bool.or_eq_true] at this
    rcases this with h | h
    · exact .inl (by simpa using h)
    · rw [Array.getElem?_toList, ho] at h
      simp only [Bool.and_eq_true] at h
      refine .inr ⟨h.1.1, fun d hd => ?_, fun d hd => ?_⟩
      · have h1 := h.1.2
        rw [hd] at h1
        simp only [Bool.and_eq_true, bne_iff_ne, ne_eq, Bool.not_eq_true', List.contains_eq_mem, decide_eq_false_iff_not] at h1
        exact h1
      · have h2 := h.2
        rw [hd] at h2
        simpa using h2

theorem ready_ahead {C : Cfg} (hok : drawOk C f ops = true) {r : Out} {R : List (Nat × Oper × Option Nat)} {listed : Array Bool} {e : Env} {L G : Hp} (inv : Inv C f ops base r R listed e L G) {i : Nat} (hi : i ∈ Region.ready .any ops listed) :
    ∀ j ∈ (ahead ops.toList).getD i [], listed.getD j false = true := fun j hj => by
  obtain ⟨h0, o, ho, hall⟩ := mem_ready.1 hi
  have := (ahead_spec ops.toList []).2 i o (by simpa using ho) j (by simpa [ahead] using hj)
  obtain ⟨e, he, hb, h⟩ := this
  have hl := hall e he hb
  rcases h with rfl | h
  · exact hl
  · exact inv.closed e.on hl j h
theorem unlisted {listed : Array Bool} {i : Nat} (h : listed.getD i true = false) : listed.getD i false = false := by
  rw [Array.getD_eq_getD_getElem?] at h ⊢
  cases hx : listed[i]? with
  | none => rw [hx] at h; cases h
  | some b => rw [hx] at h; exact h

theorem wpAny_draws (hn : NoNum P) (hc : CallOk P A call) (ho : OrcOk P A) {n : Nat} (hfit : ∀ o ∈ ops, fitsO n o = true) (hok : drawOk ⟨P, A, call⟩ f ops = true) {r : Out} {g0 : Gh} {w0 : World} : ∀ (fuel : Nat) {R : List (Nat × Oper × Option Nat)} {listed : Array Bool} {e : Env} {L G : Hp} {g : Gh} {w : World} {a : Act},
    R.length = fuel → Inv ⟨P, A, call⟩ f ops base r R listed e L G → Sim g w L G → EnvOk g w e a.tmps → ActOk n a → Ext g0 w0 g w → wpAny P .any ops (CodePost n r g0 w0) fuel listed a w
  | 0, R, listed, e, L, G, g, w, a, hl, inv, s, he, hd, hx => by
    have hR : R = [] := List.eq_nil_of_length_eq_zero hl
    subst hR
    refine ⟨?_, ?_⟩
    · cases hr : Region.ready .any ops listed with
      | nil => rfl
      | cons i l =>
        have hi : i ∈ Region.ready .any ops listed := by rw [hr]; simp
        obtain ⟨x, hx, _⟩ := inv.all i (mem_ready.1 hi).1
        cases hx
    · obtain ⟨r', h1, h2, h3, h4⟩ := inv.run
      rw [List.map_nil, evDraws] at h1
      cases h1
      have e1 : r.2.2.1 = L := congrArg Prod.fst h4
      have e2 : r.2.2.2 = G := congrArg Prod.snd h4
      refine ⟨g, by rw [e1, e2]; exact s, fun i v hv => he i v (by rw [← h3 i]; exact hv), hd, hx, ?_⟩
      rw [h2]
      rfl
  | fuel + 1, R, listed, e, L, G, g, w, a, hl, inv, s, he, hd, hx => by
    refine ⟨fun hr => ?_, fun i hi => ?_⟩
    · exfalso
      cases R with
      | nil => simp at hl
      | cons x R =>
        obtain ⟨h1, h2⟩ := inv.op x (by simp)
        have : x.1 ∈ Region.ready .any ops listed := by
          refine mem_ready.2 ⟨h2, x.2.1, h1, fun ed hed hb => ?_⟩
          have hlt : ed.on < x.1 := by
            rcases (drawOk_spec hok h1).1 ed hed with h | h
            · exact h
            · rw [h] at hb; cases hb
          have hsz : ed.on < listed.size := by rw [inv.size]; have := (Array.getElem?_eq_some_iff.1 h1).1; omega
          cases hv : listed.getD ed.on false with
          | true => rfl
          | false =>
            have hu : listed.getD ed.on true = false := by
              rw [Array.getD_eq_getD_getElem?] at hv ⊢
              rw [Array.getElem?_eq_getElem hsz] at hv ⊢
              exact hv
            obtain ⟨y, hy, hy1⟩ := inv.all _ hu
            rcases List.mem_cons.1 hy with rfl | hy
            · omega
            · have := (List.rel_of_pairwise_cons inv.inc hy).1
              omega
        rw [hr] at this
        cases this
    · obtain ⟨hun, o', ho', _⟩ := mem_ready.1 hi
      obtain ⟨x, hxR, rfl⟩ := inv.all i hun
      obtain ⟨hxo, _⟩ := inv.op x hxR
      obtain ⟨R1, R2, rfl⟩ := List.append_of_mem hxR
      have hah := ready_ahead hok inv hi
      have hinc := List.pairwise_append.1 inv.inc
      obtain ⟨r0, hrun0, hr0⟩ := inv.run
      obtain ⟨r1, hfront, hr1⟩ : ∃ r1, evDraws ⟨P, A, call⟩ f ops base (x.2 :: ((R1 ++ R2).map Prod.snd)) e L G = some r1 ∧ OutEq r r1 := by
        rw [List.map_append]
        have hfr : ∀ y ∈ R1.map Prod.snd, Apart ops y.1 x.2.1 ∧ ∀ e, Comm ⟨P, A, call⟩ f ops base y x.2 e := fun y hy => by
          obtain ⟨z, hz, rfl⟩ := List.mem_map.1 hy
          have hzx := hinc.2.2 z hz x (by simp)
          obtain ⟨hzo, hzl⟩ := inv.op z (by simp [hz])
          rcases (drawOk_spec hok hxo).2 z.1 z.2.1 hzx.1 hzo with h | ⟨h1, h2⟩
          · have := hah z.1 h
            rw [unlisted hzl] at this
            cases this
          · exact ⟨h2, fun e => comm_free h1 (inv.slot z (by simp [hz])).1 (inv.slot x (by simp)).1 hzx.2⟩
        obtain ⟨r1, k1, k2⟩ := front (l2 := R2.map Prod.snd) hfr (e := e) (L := L) (G := G) (r := r0) (by simpa using hrun0)
        exact ⟨r1, k1, hr0.trans k2⟩
      rw [draws_cons] at hfront
      replace hfront := Option.bind_eq_some_iff.1 hfront
      obtain ⟨⟨v1, L1, G1⟩, hv1, hfront⟩ := hfront
      simp only at hfront
      have hlt : x.1 < listed.size := by rw [inv.size]; exact (Array.getElem?_eq_some_iff.1 hxo).1
      have hne : ∀ y ∈ R1 ++ R2, y.1 ≠ x.1 ∧ ∀ k, y.2.2 = some k → x.2.2 ≠ some k := fun y hy => by
        rcases List.mem_append.1 hy with hy | hy
        · have := hinc.2.2 y hy x (by simp)
          exact ⟨by omega, this.2⟩
        · have := List.rel_of_pairwise_cons hinc.2.1 hy
          exact ⟨by omega, fun k h1 h2 => this.2 k h2 h1⟩
      have inv' : ∀ {e1 : Env} {L' G' : Hp}, evDraws ⟨P, A, call⟩ f ops base ((R1 ++ R2).map Prod.snd) e1 L' G' = some r1 → (∀ y ∈ R1 ++ R2, ∀ k, y.2.2 = some k → L'[k]? = some .dead) →
          Inv ⟨P, A, call⟩ f ops base r (R1 ++ R2) (listed.setIfInBounds x.1 true) e1 L' G' := fun hrun hdead => by
        refine ⟨⟨r1, hrun, hr1⟩, ?_, fun y hy => ?_, fun y hy => ⟨(inv.slot y ?_).1, hdead y hy⟩, fun i hi => ?_, by simpa using inv.size, fun i hi j hj => ?_⟩
        · exact List.pairwise_append.2 ⟨hinc.1, (List.pairwise_cons.1 hinc.2.1).2, fun a ha b hb => hinc.2.2 a ha b (by simp [hb])⟩
        · obtain ⟨k1, k2⟩ := inv.op y (by rcases List.mem_append.1 hy with h | h <;> simp [h])
          exact ⟨k1, by rw [getD_set_ne true (hne y hy).1.symm]; exact k2⟩
        · rcases List.mem_append.1 hy with h | h <;> simp [h]
        · have hix : x.1 ≠ i := fun e => by
            subst e
            simp [hlt] at hi
          rw [getD_set_ne true hix] at hi
          obtain ⟨y, hy, rfl⟩ := inv.all i hi
          refine ⟨y, ?_, rfl⟩
          rcases List.mem_append.1 hy with h | h
          · simp [h]
          · rcases List.mem_cons.1 h with rfl | h
            · exact absurd rfl hix
            · simp [h]
        · refine getD_set_true ?_
          by_cases hix : x.1 = i
          · subst hix
            exact hah j hj
          · rw [getD_set_ne false hix] at hi
            exact inv.closed i hi j hj
      have hlen : (R1 ++ R2).length = fuel := by simp at hl ⊢; omega
      have hdt := fitsO_lt (hfit x.2.1 (Array.mem_of_getElem? hxo)) hd
      unfold wpOp
      rw [hxo]
      simp only
      cases hw : wantedA ops x.2.1 e with
      | none => unfold effX at hv1; rw [hw] at hv1; cases hv1
      | some b =>
        have hwo := wanted_ok he hw
        cases b with
        | true =>
          rw [if_pos hwo]
          obtain ⟨_, hop⟩ := effX_val hw hv1
          refine .inl (evOp_wp hn hc ho hop s he (fun k hk => (inv.slot x (by simp)).2 k hk) (fun v y g1 w1 e1 k1 k2 k3 k4 => ?_) (fun v y g1 w1 e1 => by cases e1))
          cases e1
          refine wpAny_draws hn hc ho hfit hok fuel hlen (inv' hfront fun y hy k hk => ?_) k1 (put_ok (he.ext s.own k2 k3) hdt k4) (hd.put _ _) (hx.trans k2)
          exact evOp_dead ho.dead ((inv.slot y (by rcases List.mem_append.1 hy with h | h <;> simp [h])).2 k hk) ((hne y hy).2 k hk) hop
        | false =>
          rw [if_neg (by rw [hwo]; simp)]
          unfold effX at hv1
          rw [hw] at hv1
          cases hv1
          refine wpAny_draws hn hc ho hfit hok fuel hlen (inv' hfront fun y hy k hk => ?_) s (put_ok he hdt undef_rep) (hd.put _ _) hx
          exact (inv.slot y (by rcases List.mem_append.1 hy with h | h <;> simp [h])).2 k hk

/-! ### the slots -/
theorem slotted_get {C : Cfg} : ∀ {l : List Oper} {k i : Nat} {x : Oper × Option Nat}, (slotted C f k l)[i]? = some x → l[i]? = some x.1 ∧ SlotOk C f k x ∧ ∀ s, x.2 = some s → k ≤ s ∧ s < k + slotsIn C f l
  | [], k, i, x, h => by simp [slotted] at h
  | o :: l, k, i, x, h => by
    unfold slotted at h
    by_cases hc : clsOf C f o = .c ∨ clsOf C f o = .t
    · rw [if_pos hc] at h
      cases i with
      | zero =>
        simp only [List.getElem?_cons_zero, Option.some.injEq] at h
        subst h
        refine ⟨rfl, fun _ => ⟨k, rfl, Nat.le_refl _⟩, fun s hs => ?_⟩
        cases hs
        unfold slotsIn
        rw [if_pos hc]
        omega
      | succ i =>
        obtain ⟨h1, h2, h3⟩ := slotted_get (l := l) (k := k + 1) (i := i) (by simpa using h)
        refine ⟨by simpa using h1, fun h => ?_, fun s hs => ?_⟩
        · obtain ⟨s, k1, k2⟩ := h2 h
          exact ⟨s, k1, by omega⟩
        · have := h3 s hs
          unfold slotsIn
          rw [if_pos hc]
          omega
    · rw [if_neg hc] at h
      cases i with
      | zero =>
        simp only [List.getElem?_cons_zero, Option.some.injEq] at h
        subst h
        exact ⟨rfl, fun h => absurd h hc, fun s hs => by cases hs⟩
      | succ i =>
        obtain ⟨h1, h2, h3⟩ := slotted_get (l := l) (k := k) (i := i) (by simpa using h)
        refine ⟨by simpa using h1, h2, fun s hs => ?_⟩
        have := h3 s hs
        unfold slotsIn
        rw [if_neg hc]
        exact this
theorem slotted_len {C : Cfg} : ∀ {l : List Oper} {k : Nat}, (slotted C f k l).length = l.length
  | [], k => rfl
  | o :: l, k => by
    unfold slotted
    by_cases hc : clsOf C f o = .c ∨ clsOf C f o = .t
    · rw [if_pos hc]; simp [slotted_len (l := l)]
    · rw [if_neg hc]; simp [slotted_len (l := l)]
theorem slotted_ne {C : Cfg} : ∀ {l : List Oper} {k i j : Nat} {x y : Oper × Option Nat}, i < j → (slotted C f k l)[i]? = some x → (slotted C f k l)[j]? = some y → ∀ s, x.2 = some s → y.2 ≠ some s
  | [], k, i, j, x, y, _, h, _, _, _ => by simp [slotted] at h
  | o :: l, k, i, j, x, y, hij, hx, hy, s, hs => by
    unfold slotted at hx hy
    by_cases hc : clsOf C f o = .c ∨ clsOf C f o = .t
    · rw [if_pos hc] at hx hy
      cases j with
      | zero => omega
      | succ j =>
        cases i with
        | zero =>
          simp only [List.getElem?_cons_zero, Option.some.injEq] at hx
          subst hx
          cases hs
          intro h
          have := (slotted_get (l := l) (k := k + 1) (i := j) (by simpa using hy)).2.2 _ h
          omega
        | succ i => exact slotted_ne (l := l) (k := k + 1) (i := i) (j := j) (by omega) (by simpa using hx) (by simpa using hy) s hs
    · rw [if_neg hc] at hx hy
      cases j with
      | zero => omega
      | succ j =>
        cases i with
        | zero =>
          simp only [List.getElem?_cons_zero, Option.some.injEq] at hx
          subst hx
          cases hs
        | succ i => exact slotted_ne (l := l) (k := k) (i := i) (j := j) (by omega) (by simpa using hx) (by simpa using hy) s hs

theorem sim_dead {g : Gh} {w : World} {L G : Hp} (s : Sim g w L G) (n : Nat) : Sim g w (L ++ List.replicate n .dead) G := by
  refine ⟨⟨fun b x h => ?_, fun b h => s.l.new b (by rw [List.length_append] at h; omega)⟩, s.g⟩
  rcases Nat.lt_or_ge b L.length with hb | hb
  · rw [List.getElem?_append_left hb] at h
    exact s.l.blk b x h
  · rw [List.getElem?_append_right hb] at h
    have := (List.mem_replicate.1 (List.mem_of_getElem? h)).2
    subst this
    exact s.l.new b hb

theorem draws_sound (hm : P.follows .mixedOrders = true) (hn : NoNum P) (hc : CallOk P A call) (ho : OrcOk P A) : DrawsOk P A call f := by
  intro n ops e L G r hfit hok h g w a s he hd id
  refine wp_region_any hm ?_
  show wpAny P .any ops (CodePost n r g w) ops.size (Array.replicate ops.size false) a w.drew
  have hlen : ∀ {x}, x ∈ (slotted ⟨P, A, call⟩ f L.length ops.toList).zipIdx.map (fun y => (y.2, y.1)) → (slotted ⟨P, A, call⟩ f L.length ops.toList)[x.1]? = some x.2 := fun {x} hx => by
    obtain ⟨y, hy, rfl⟩ := List.mem_map.1 hx
    exact List.mem_zipIdx_iff_getElem?.1 hy
  have hs := sim_dead (Sim.drew s) (slotsIn ⟨P, A, call⟩ f ops.toList)
  refine wpAny_draws hn hc ho hfit hok (base := L.length) (R := (slotted ⟨P, A, call⟩ f L.length ops.toList).zipIdx.map fun y => (y.2, y.1)) ops.size (by simp [slotted_len]) (L := L ++ List.replicate (slotsIn ⟨P, A, call⟩ f ops.toList) .dead) (e := e) (G := G) (g := g) ?_ hs (he.map fun i v x _ hr => hr.drew) hd (Ext.drew g w)
  refine ⟨?_, ?_, fun x hx => ?_, fun x hx => ?_, fun i hi => ?_, by simp, fun i hi => ?_⟩
  · have e1 : ((slotted ⟨P, A, call⟩ f L.length ops.toList).zipIdx.map fun y => (y.2, y.1)).map Prod.snd = slotted ⟨P, A, call⟩ f L.length ops.toList := by
      rw [List.map_map]
      exact List.zipIdx_map_fst 0 _
    rw [e1]
    exact ⟨r, h, .refl r⟩
  · rw [List.pairwise_iff_getElem]
    intro i j hi hj hij
    have gi := hlen (List.getElem_mem hi)
    have gj := hlen (List.getElem_mem hj)
    simp only [List.getElem_map, List.getElem_zipIdx, Nat.zero_add] at gi gj ⊢
    exact ⟨hij, fun k => slotted_ne hij gi gj k⟩
  · obtain ⟨h1, _, _⟩ := slotted_get (hlen hx)
    have hlt := (List.getElem?_eq_some_iff.1 h1).1
    refine ⟨by simpa using h1, ?_⟩
    simp at hlt
    simp [hlt]
  · obtain ⟨_, h2, h3⟩ := slotted_get (hlen hx)
    refine ⟨h2, fun k hk => ?_⟩
    obtain ⟨k1, k2⟩ := h3 k hk
    rw [List.getElem?_append_right k1]
    simp [show k - L.length < slotsIn ⟨P, A, call⟩ f ops.toList by omega]
  · have hlt : i < ops.size := by
      rcases Nat.lt_or_ge i ops.size with h | h
      · exact h
      · rw [Array.getD_eq_getD_getElem?, Array.getElem?_eq_none (by simpa using h)] at hi
        cases hi
    have hlt' : i < (slotted ⟨P, A, call⟩ f L.length ops.toList).length := by rw [slotted_len]; simpa using hlt
    exact ⟨(i, (slotted ⟨P, A, call⟩ f L.length ops.toList)[i]), List.mem_map.2 ⟨((slotted ⟨P, A, call⟩ f L.length ops.toList)[i], i), List.mem_zipIdx_iff_getElem?.2 (List.getElem?_eq_getElem hlt'), rfl⟩, rfl⟩
  · exfalso
    rw [Array.getD_eq_getD_getElem?, Array.getElem?_replicate] at hi
    split at hi <;> simp at hi

/-! ### whatever the fuel -/
theorem evN_ok (hm : P.follows .mixedOrders = true) (hn : NoNum P) (hfit : FitsP P A) (ho : OrcOk P A) : ∀ n, CallOk P A (evN P A n)
  | 0 => fun f args G r G' h => by cases h
  | n + 1 => evFun_sound hn hfit (evN_ok hm hn hfit ho n) ho fun f => draws_sound hm hn (evN_ok hm hn hfit ho n) ho
theorem ev_ok (hm : P.follows .mixedOrders = true) (hn : NoNum P) (hfit : FitsP P A) (ho : OrcOk P A) : CallOk P A (ev P A) := fun f args G r G' h hG => by
  obtain ⟨n, h⟩ := ev_iff.1 h
  exact evN_ok hm hn hfit ho n f args G r G' h hG
end
end Ev
#print axioms Ev.ev_ok
