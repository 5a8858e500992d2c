/- SoundNumbers: the law's own code. -/
import Derived.Test.YtecflllnnbiheaaT37
import Derived.Test.YtecflllnnbiheaaT12
import Derived.Test.YtecflllnnbiheaaEv18
import Derived.KernelRfl
set_option maxHeartbeats 4000000
set_option linter.unusedVariables false
set_option linter.unusedSimpArgs false
set_option maxHeartbeats 4000000
namespace Ev
open Go Go.Proofs
set_option maxRecDepth 100000

theorem awake13 : ∃ G', ev Try.prog ann 18 [] [] = some (.val (.bool true), G') := true_of_fuel 300 40 _ (by kernel_rfl)
theorem awake13_call (L G : Hp) : callA (cfg Try.prog ann) 18 [] L G = some (.val (.bool true), L, G) := by
  obtain ⟨G', h⟩ := awake13
  exact call_pure rfl rfl rfl rfl h
theorem depthL_all {m : Int} : ∀ (r : List (List OpT)) (i : Nat) (most d : Int), depthL m r i most = some d → ∀ b ∈ r, b ≠ []
  | [], i, most, d, _ => fun b hb => by cases hb
  | l :: r, i, most, d, h => fun b hb => by
    rw [depthL] at h
    split at h
    · cases h
    · next d' hd =>
      rcases List.mem_cons.1 hb with rfl | hb
      · rintro rfl
        rw [pileF] at hd
        exact absurd hd (by simp)
      · exact depthL_all r _ _ d h b hb
theorem sound_ne {c : CodeT} (h : soundF c = true) : c ≠ [] ∧ ∀ b ∈ c, b ≠ [] := by
  unfold soundF depthF at h
  split at h
  · cases h
  · next hc =>
    refine ⟨fun e => hc (.inl e), ?_⟩
    cases hd : depthL c.length c 0 0 with
    | none => rw [hd] at h; cases h
    | some d => exact depthL_all _ _ _ d hd
theorem len_opsum : ∀ {c : CodeT}, (∀ b ∈ c, b ≠ []) → c.length ≤ opsum c ∧ ∀ b ∈ c, b.length ≤ opsum c
  | [], _ => ⟨Nat.zero_le _, fun b h => by cases h⟩
  | x :: c, h => by
    obtain ⟨h1, h2⟩ := len_opsum (c := c) fun b hb => h b (List.mem_cons_of_mem _ hb)
    have h3 := List.length_pos_iff.2 (h x List.mem_cons_self)
    rw [opsum, List.length_cons]
    refine ⟨by omega, fun b hb => ?_⟩
    rcases List.mem_cons.1 hb with rfl | hb
    · omega
    · have := h2 b hb; omega
theorem sound_small {c : CodeT} (hc : opsum c ≤ 16384) (h : soundF c = true) : c.length ≤ 16384 ∧ ∀ b ∈ c, b.length ≤ 16384 := by
  obtain ⟨h1, h2⟩ := len_opsum (sound_ne h).2
  exact ⟨by omega, fun b hb => by have := h2 b hb; omega⟩
theorem place_nat (v : Int) (n : Nat) (hn : 0 < n) (hb : n < 2 ^ 40) : ∃ b, b < n ∧ ∀ L G, callA (cfg Try.prog ann) 22 [.int .i64 v, .int .i64 n] L G = some (.val (.int .i64 (b : Nat)), L, G) := by
  have h1 := Int.emod_nonneg v (show (n : Int) ≠ 0 by omega)
  have h2 := Int.emod_lt_of_pos v (show (0 : Int) < n by omega)
  obtain ⟨b, hb'⟩ := Int.eq_ofNat_of_zero_le h1
  refine ⟨b, by omega, fun L G => ?_⟩
  rw [place_call v n L G (by omega) (by omega), hb']
/-- rows of the frame's own heap -/
theorem app_lrow0 {P : Program} {A : Ann} {f d : Nat} {el : TypeId} (hE : ElK P el) (hr : A.rows f d = true) (hg : A.glob f d = false) {xs ys : List AV} {L G : Hp} (hx : handX xs = ys)
    (hlen : ys.length = xs.length) (hok : szOk P el xs = true) (hne : xs ≠ []) (hb : xs.length * P.bytesOf el ≤ mostBytes) :
    appendA P A f d el none (.sl [] .full) xs L G = some (.hs true L.length 0 0 ys.length, L ++ [.row 0 ys], G) := by
  have hc : ¬ (szT P el = 0 ∨ P.bytesOf el = 0 ∨ szOk P el xs = false ∨ (lenS (.sl [] .full) + xs.length) * P.bytesOf el > mostBytes ∨ (zeroT P el).isNone = true ∨ zeroSz P el ≠ szT P el) := by
    simp only [lenS, not_or, hE.sz, hE.by_, hok, hE.zero, hE.zsz, not_false_eq_true, true_and, Bool.true_eq_false, Bool.false_eq_true, ne_eq, not_true_eq_false, and_true, List.length_nil, Nat.zero_add]
    omega
  have hy0 : ¬ ys.length = 0 := by rw [hlen]; intro e; exact hne (List.length_eq_zero_iff.1 e)
  unfold appendA
  simp only
  rw [if_neg hc, hx, if_neg hy0]
  simp only [szOk, hr, hg, Bool.true_eq_false, if_false, Bool.not_false, newBlk, newL, if_true, Bool.false_eq_true, List.nil_append, List.length_nil, Nat.zero_add, true_or]
theorem app_lrow1 {P : Program} {A : Ann} {f d : Nat} {el : TypeId} (hE : ElK P el) {b g : Nat} {es xs ys : List AV} {L G : Hp} (hL : L[b]? = some (.row g es)) (hes : es ≠ []) (hesz : szOk P el es = true) (hx : handX xs = ys)
    (hlen : ys.length = xs.length) (hok : szOk P el xs = true) (hne : xs ≠ []) (hb : (es.length + xs.length) * P.bytesOf el ≤ mostBytes) :
    appendA P A f d el none (.hs true b g 0 es.length) xs L G = some (.hs true b (g + 1) 0 (es.length + ys.length), L.set b (.row (g + 1) (es ++ ys)), G) := by
  have hc : ¬ (szT P el = 0 ∨ P.bytesOf el = 0 ∨ szOk P el xs = false ∨ (lenS (.hs true b g 0 es.length) + xs.length) * P.bytesOf el > mostBytes ∨ (zeroT P el).isNone = true ∨ zeroSz P el ≠ szT P el) := by
    simp only [lenS, not_or, hE.sz, hE.by_, hok, hE.zero, hE.zsz, not_false_eq_true, true_and, Bool.true_eq_false, Bool.false_eq_true, ne_eq, not_true_eq_false, and_true]
    omega
  have hy0 : 0 < ys.length := by rw [hlen]; exact List.length_pos_iff.2 hne
  have he : es.isEmpty = false := by cases es with | nil => exact absurd rfl hes | cons => rfl
  unfold appendA
  simp only
  rw [if_neg hc, hx]
  simp only [hpOf, if_true, hL, ne_eq, not_true_eq_false, he, hesz, Bool.false_eq_true, Bool.true_eq_false, false_or, false_and, if_false, Nat.zero_add, setHp, and_self]
  rw [if_neg (by omega)]
theorem app_lrowIn {P : Program} {A : Ann} {f d : Nat} {el : TypeId} (hE : ElK P el) {b g n : Nat} {es xs ys : List AV} {L G : Hp} (hL : L[b]? = some (.row g es)) (hes : es ≠ []) (hesz : szOk P el es = true) (hx : handX xs = ys)
    (hlen : ys.length = xs.length) (hok : szOk P el xs = true) (hn : n + xs.length ≤ es.length) (hb : (n + xs.length) * P.bytesOf el ≤ mostBytes) :
    appendA P A f d el none (.hs true b g 0 n) xs L G = some (.hs true b g 0 (n + ys.length), L.set b (.row g (es.take n ++ ys ++ es.drop (n + ys.length))), G) := by
  have hc : ¬ (szT P el = 0 ∨ P.bytesOf el = 0 ∨ szOk P el xs = false ∨ (lenS (.hs true b g 0 n) + xs.length) * P.bytesOf el > mostBytes ∨ (zeroT P el).isNone = true ∨ zeroSz P el ≠ szT P el) := by
    simp only [lenS, not_or, hE.sz, hE.by_, hok, hE.zero, hE.zsz, not_false_eq_true, true_and, Bool.true_eq_false, Bool.false_eq_true, ne_eq, not_true_eq_false, and_true]
    omega
  have he : es.isEmpty = false := by cases es with | nil => exact absurd rfl hes | cons => rfl
  unfold appendA
  simp only
  rw [if_neg hc, hx]
  simp only [hpOf, if_true, hL, ne_eq, not_true_eq_false, he, hesz, Bool.false_eq_true, Bool.true_eq_false, false_or, false_and, if_false, Nat.zero_add, setHp]
  rw [if_pos (by omega)]
theorem szOk_blks (l : CodeT) : szOk Try.prog 42 (l.map blockA') = true := by
  cases l with
  | nil => rfl
  | cons o l => rw [List.map_cons]; simp only [szOk, blockA', tz42]; rfl
/-- a call over what is left behind -/
theorem call_left {C : Cfg} {f : Nat} {args args' : List AV} {v : AV} {L G : Hp} (h : callA C f args' [] [] = some (.val v, [], [])) (ho : C.A.orc f = none) (hs : C.A.sees f = false) (hp : pfs (handAs true args) = false)
    (hl : leaves true L G args = args') (hh : handAs true args' = args') (hpf : pfs args' = true) (hv : v.light = true) : callA C f args L G = some (.val v, L, G) := by
  unfold callA at h ⊢
  rw [ho] at h ⊢
  simp only [hs, Bool.false_eq_true, if_false, hh, hpf, if_true, hp, hl] at h ⊢
  cases hc : C.call f args' [] with
  | none => rw [hc] at h; cases h
  | some r =>
    obtain ⟨r, G'⟩ := r
    rw [hc] at h
    cases r with
    | val u =>
      simp only at h ⊢
      split at h
      · simp only [Option.some.injEq, Prod.mk.injEq, Rs.val.injEq] at h
        obtain ⟨rfl, _⟩ := h
        rw [if_pos hv]
      · cases h
    | pan u =>
      simp only at h
      split at h <;> simp at h
theorem ops_noHs {l : List OpT} : ∀ v ∈ l.map opA, hasHs v = false := fun v hv => by
  obtain ⟨⟨k, n, s, m⟩, _, rfl⟩ := List.mem_map.1 hv
  rfl
theorem hand_opA (o : OpT) : handA true (opA o) = opA o := by
  simp only [opA, intsA, handA, handAs, Tok.drop, if_true]
theorem hand_ops : ∀ l : List OpT, handAs true (l.map opA) = l.map opA
  | [] => rfl
  | o :: l => by rw [List.map_cons, handAs, hand_opA, hand_ops l]
theorem deep_ops (L : Hp) (n : Nat) (l : List OpT) : deepS false L [] n (l.map opA) = l.map opA := by rw [deepS_no ops_noHs, hand_ops]
theorem set_ops (l : List OpT) (i : Nat) (k n : Int) (s : List UInt8) (m : List Int) : (l.map opA).set i (.agg [.int .i64 k, .int .i64 n, .str s, .sl (m.map (.int .i64)) .no]) = (l.set i ⟨k, n, s, m⟩).map opA := by
  rw [List.map_set]; rfl
theorem okOps_set {l : List OpT} (h : OkOps l) (i : Nat) {o : OpT} (ho : o.s.length < 2 ^ 40 ∧ o.blocks.length < 2 ^ 40) : OkOps (l.set i o) := ⟨by simpa using h.1, fun x hx => by
  rcases List.mem_or_eq_of_mem_set hx with h1 | h1
  · exact h.2 x h1
  · rw [h1]; exact ho⟩
theorem compile_blk (n : NodeT) (h1 : slen n ≤ 2 ^ 29) (h2 : tsz n ≤ 2 ^ 29) : ∀ b ∈ compile n, ∀ o ∈ b, o.blocks.length ≤ 2 ^ 29 := fun b hb o ho => by
  obtain ⟨c1, c2⟩ := comp_okL (2 ^ 29) n [[]] h1 h2 (fun b hb => by simp only [List.mem_singleton] at hb; subst hb; intro o ho; cases ho)
  exact (okB_set c2 c1 b hb o ho).2
theorem elKint13 : ElK Try.prog 3 := ⟨by rw [tz3]; decide, by rw [ty3]; decide, by rw [t03]; rfl, by rw [tn3, tz3]⟩
theorem szOk_ints13 (l : List Int) : szOk Try.prog 3 (l.map (.int .i64)) = true := by
  cases l with
  | nil => rfl
  | cons o l => rw [List.map_cons]; simp only [szOk, tz3]; rfl
theorem handX_ints (l : List Int) : handX (l.map (AV.int .i64)) = l.map (.int .i64) := handX_map _ (fun _ => rfl) l
theorem app_none {P : Program} {A : Ann} {f d : Nat} {el : TypeId} {sl : Option Nat} (hE : ElK P el) {es : List AV} {t : Tok} {L G : Hp} (hb : es.length * P.bytesOf el ≤ mostBytes) :
    appendA P A f d el sl (.sl es t) [] L G = some (.sl es t, L, G) := by
  have hc : ¬ (szT P el = 0 ∨ P.bytesOf el = 0 ∨ szOk P el [] = false ∨ (lenS (.sl es t) + ([] : List AV).length) * P.bytesOf el > mostBytes ∨ (zeroT P el).isNone = true ∨ zeroSz P el ≠ szT P el) := by
    simp only [lenS, not_or, hE.sz, hE.by_, szOk, hE.zero, hE.zsz, not_false_eq_true, true_and, Bool.true_eq_false, Bool.false_eq_true, ne_eq, not_true_eq_false, and_true, List.length_nil, Nat.add_zero]
    omega
  unfold appendA
  simp only
  rw [if_neg hc]
  rfl
theorem handAs_set (v : AV) : ∀ (l : List AV) (i : Nat), handAs true (l.set i v) = (handAs true l).set i (handA true v)
  | [], _ => rfl
  | x :: l, 0 => by rw [List.set_cons_zero, handAs, handAs, List.set_cons_zero]
  | x :: l, i + 1 => by rw [List.set_cons_succ, handAs, handAs, List.set_cons_succ, handAs_set v l i]
theorem deep_set (L : Hp) (l : List OpT) (i : Nat) (k n : Int) (s : List UInt8) (m : List Int) (t : Tok) : deepS false L [] 1 ((l.map opA).set i (.agg [.int .i64 k, .int .i64 n, .str s, .sl (m.map (.int .i64)) t])) = (l.set i ⟨k, n, s, m⟩).map opA := by
  rw [deepS_no fun v hv => by
    rcases List.mem_or_eq_of_mem_set hv with h | h
    · exact ops_noHs v h
    · rw [h]; rfl, handAs_set, hand_ops, ← set_ops]
  rfl
theorem deep_row {L : Hp} {l : List OpT} {i : Nat} {k n : Int} {s : List UInt8} {m : List Int} (hi : i < l.length) (hL : L[3]? = some (.row 0 (m.map (.int .i64)))) :
    deepS false L [] 1 ((l.map opA).set i (.agg [.int .i64 k, .int .i64 n, .str s, .hs true 3 0 0 m.length])) = (l.set i ⟨k, n, s, m⟩).map opA := by
  have hany : ((l.map opA).set i (.agg [.int .i64 k, .int .i64 n, .str s, .hs true 3 0 0 m.length])).any hasHs = true := by
    rw [List.any_eq_true]
    exact ⟨_, List.mem_iff_getElem?.2 ⟨i, by rw [List.getElem?_set_self (by simpa using hi)]⟩, rfl⟩
  have e1 : elemsOf L [] (.hs true 3 0 0 m.length) = some (m.map (.int .i64)) := by
    simp only [elemsOf, hpOf, hL, if_true, true_and, Nat.zero_add, List.length_map, Nat.le_refl, List.drop_zero]
    rw [List.take_of_length_le (by simp)]
  have e2 : handAs true (m.map (AV.int .i64)) = m.map (.int .i64) := by
    clear hL hany e1
    induction m with
    | nil => rfl
    | cons x m ih => rw [List.map_cons, handAs, ih]; rfl
  rw [deepS, if_pos hany, ← set_ops]
  apply List.ext_getElem?
  intro j
  rw [List.getElem?_map]
  by_cases hj : i = j
  · subst hj
    rw [List.getElem?_set_self (by simpa using hi), List.getElem?_set_self (by simpa using hi)]
    simp only [Option.map_some, onCells, List.map_cons, List.map_nil, unhs, e1, deepS, e2, Bool.true_or, if_true, handA]
  · rw [List.getElem?_set_ne hj, List.getElem?_set_ne hj, List.getElem?_map, Option.map_map]
    congr 1
/-- what stands in the frame's own heap ahead of the last region -/
theorem frz_code {L : Hp} {k g b len : Nat} {es : List AV} {C : CodeT} {D0 : List OpT} (hL : L[2]? = some (.row g es)) (hk : L[k]? = some (.row 0 ((C.map blockA').set b (.hs true 2 g 0 len))))
    (hk1 : L[k + 1]? = some (.row 0 [.agg [.hs true k 0 0 C.length]])) (hlen : len ≤ es.length) (hb : b < C.length) (hdeep : deepS false L [] 1 (es.take len) = D0.map opA) :
    frzW L [] (.ptr true (k + 1) 0 0 0) = .rptr (.agg [.sl ((C.set b D0).map blockA') .no]) 0 := by
  have e1 : elemsOf L [] (.hs true (k + 1) 0 0 1) = some [.agg [.hs true k 0 0 C.length]] := by simp [elemsOf, hpOf, hk1]
  have e2 : elemsOf L [] (.hs true k 0 0 C.length) = some ((C.map blockA').set b (.hs true 2 g 0 len)) := by
    simp only [elemsOf, hpOf, hk, if_true, true_and, Nat.zero_add, List.length_set, List.length_map, Nat.le_refl, List.drop_zero]
    rw [List.take_of_length_le (by simp)]
  have e3 : elemsOf L [] (.hs true 2 g 0 len) = some (es.take len) := by simp [elemsOf, hpOf, hL, hlen]
  have d2 : deepS false L [] 2 ((C.map blockA').set b (.hs true 2 g 0 len)) = (C.set b D0).map blockA' := by
    unfold deepS
    have hany : ((C.map blockA').set b (.hs true 2 g 0 len)).any hasHs = true := by
      rw [List.any_eq_true]
      exact ⟨_, List.mem_iff_getElem?.2 ⟨b, by rw [List.getElem?_set_self (by simpa using hb)]⟩, rfl⟩
    rw [if_pos hany]
    apply List.ext_getElem?
    intro j
    rw [List.getElem?_map, List.getElem?_map]
    by_cases hj : b = j
    · subst hj
      rw [List.getElem?_set_self (by simpa using hb), List.getElem?_set_self hb]
      simp only [Option.map_some, onCells, unhs, e3, hdeep, Bool.true_or, if_true, blockA']
    · rw [List.getElem?_set_ne hj, List.getElem?_set_ne hj, List.getElem?_map, Option.map_map]
      congr 1
  have d3 : deepS false L [] 3 [.agg [.hs true k 0 0 C.length]] = [.agg [.sl ((C.set b D0).map blockA') .no]] := by
    have hany : [AV.agg [.hs true k 0 0 C.length]].any hasHs = true := rfl
    rw [deepS, if_pos hany]
    simp only [List.map_cons, List.map_nil, onCells, unhs, e2, d2, Bool.true_or, if_true]
  have hv : frzV L [] (.ptr true (k + 1) 0 0 0) = .rptr (.agg [.sl ((C.set b D0).map blockA') .no]) 0 := by
    unfold frzV
    simp only [e1, d3]
  unfold frzW
  rw [hv, if_pos]
  unfold AV.noL
  simp only [AV.refs, refss, Tok.refs, refs_blocks, Bool.and_true]
end Ev
namespace Ev
open Go Go.Proofs
theorem evS_true (l : List Int) (at' how by' : Int) (hi : okInts l) (hl : l.length ≤ 1048576) : ∃ G', ev Try.prog ann 4 [intsA l, .int .i64 at', .int .i64 how, .int .i64 by'] [] = some (.val (.bool true), G') := by
  have haw := awake13_call
  obtain ⟨s0, hs0, hgen⟩ := gen_call l hi (by omega)
  obtain ⟨n, e, hpar, hne⟩ := parse_call s0 (by omega)
  have hkn : ∃ kn sn ln, nodeA n = .agg [.int .i64 kn, .str sn, .sl (nodesA ln) .no] := by
    obtain ⟨kn, sn, ln⟩ := n
    exact ⟨kn, sn, ln, by rw [nodeA]⟩
  obtain ⟨kn, sn, ln, hnode⟩ := hkn
  rw [fun_some Try.func4 rfl rfl]
  simp only [intsA]
  by_cases e0 : e = 0
  · subst e0
    obtain ⟨n1, n2⟩ := hne rfl
    have c2 := fun L G => refCompile_call n (by omega) L G
    obtain ⟨k1, k2⟩ := compile_ok n (by omega) (by omega)
    have hblk := compile_blk n (by omega) (by omega)
    have hsd := compile_sound n (by omega) (by omega)
    have r1 := fun L G => soundCheck_call (compile n) k1 L G
    have r2 := fun L G => soundDepth_call (compile n) k1 L G
    have r3 := fun L G => refDepth_call (compile n) k1 L G
    rw [hsd] at r1
    replace k2 : opsum (compile n) ≤ 16384 := by omega
    generalize compile n = C at c2 k1 k2 hsd r1 r2 r3 hblk
    obtain ⟨hne1, hne2⟩ := sound_ne hsd
    rw [hnode] at hpar c2
    have e9 : ((0 : Int) != 0) = false := rfl
    simp only [codeA] at c2 r1 r2 r3
    refine ⟨[], ?_⟩
    simp only [go_sem, Nat.reduceEqDiff, haw, hgen, hpar, e9, c2, r1, r2, r3, refs_blocks, refs_ints, refs_nodes, Nat.reduceAdd, Nat.reduceLeDiff, Nat.reduceLT, Nat.one_ne_zero, bne_self_eq_false]
    obtain ⟨hq1, hq2⟩ := sound_small k2 hsd
    have hCl : 0 < C.length := List.length_pos_iff.2 hne1
    obtain ⟨b, hb, hp1⟩ := place_nat at' C.length hCl (by omega)
    obtain ⟨B0, hB0⟩ : ∃ B0, C[b]? = some B0 := ⟨_, List.getElem?_eq_getElem hb⟩
    have hmem : B0 ∈ C := List.mem_of_getElem? hB0
    have hBl : 0 < B0.length := List.length_pos_iff.2 (hne2 B0 hmem)
    have hBs := hq2 B0 hmem
    obtain ⟨i, hi', hp2⟩ := place_nat (IntKind.i64.wrap (at'.tdiv 50)) B0.length hBl (by omega)
    have hp3 := fun L G => place_call by' 9 L G (by omega) (by omega)
    generalize by' % 9 = v at hp3
    obtain ⟨w, hw, hp5⟩ := place_nat by' 4 (by omega) (by omega)
    obtain ⟨q, hq, hp4⟩ := place_nat how 7 (by omega) (by omega)
    rw [show ((7 : Nat) : Int) = 7 from rfl] at hp4
    rw [show ((4 : Nat) : Int) = 4 from rfl] at hp5
    have s50 : ((50 : Int) = 0) = False := by decide
    obtain ⟨o, ho⟩ : ∃ o, B0[i]? = some o := ⟨_, List.getElem?_eq_getElem hi'⟩
    have g1 : (C.map blockA')[b]? = some (.sl (B0.map opA) .no) := by rw [List.getElem?_map, hB0]; rfl
    have g2 : (B0.map opA)[i]? = some (opA o) := by rw [List.getElem?_map, ho]; rfl
    have g3 : handX (B0.map opA) = B0.map opA := handX_map opA hand_opA B0
    have a1 := fun L G => app_lrow0 (P := Try.prog) (A := ann) (f := 4) (d := 49) (L := L) (G := G) elKop rfl rfl g3 rfl (szOk_ops B0) (by simpa using hne2 B0 hmem) (by rw [ty44, List.length_map]; simp only [mostBytes]; omega)
    have g4 : handX (C.map blockA') = C.map blockA' := handX_map blockA' (fun x => rfl) C
    have a2 := fun L G => app_lrow0 (P := Try.prog) (A := ann) (f := 4) (d := 145) (L := L) (G := G) elKops rfl rfl g4 rfl (szOk_blks C) (by simpa using hne1) (by rw [ty42, List.length_map]; simp only [mostBytes]; omega)
    simp only [go_sem, Nat.reduceEqDiff, hp1, hp2, hp3, g1, g2, g3, a1, s50, refs_blocks, Nat.reduceAdd, Nat.reduceLeDiff, Nat.reduceLT, Nat.one_ne_zero]
    generalize htail : evCode (cfg Try.prog ann) 4 (Code.seq (Code.region 27 _ _) _) = tail
    generalize Blk.row 0 [AV.agg [AV.int IntKind.i64 kn, AV.str sn, AV.sl (nodesA ln) Tok.no]] = N0
    have T0 : ∀ (E' : Env) (Y : Hp), (Y = [] ∨ ∃ y, Y = [y]) → ∀ (g : Nat) (es : List AV) (D0 : List OpT) (len : Nat), len ≤ es.length → OkOps D0 → (∀ Z, deepS false ([N0, Blk.row 0 [AV.agg [AV.sl (C.map blockA') Tok.no]], Blk.row g es] ++ Y ++ Z) [] 1 (es.take len) = D0.map opA) →
        endR Try.prog true [ResultVar.tmp 8] (tail ((11, .ptr true 1 0 0 0) :: (12, .int .i64 b) :: (13, .hs true 2 g 0 len) :: E') ([N0, Blk.row 0 [AV.agg [AV.sl (C.map blockA') Tok.no]], Blk.row g es] ++ Y) []) = some (.val (.bool true), []) := by
      intro E' Y hY g es D0 len hlen hD hdeep
      have hOk : OkCode (C.set b D0) := ⟨by simpa using k1.1, fun l hl => by
        rcases List.mem_or_eq_of_mem_set hl with h | h
        · exact k1.2 l h
        · rw [h]; exact hD⟩
      have w1 := fun L G => soundCheck_call (C.set b D0) hOk L G
      have w2 := fun L G => refCheck_call (C.set b D0) hOk L G
      have w3 := fun L G => soundDepth_call (C.set b D0) hOk L G
      have w4 := fun L G => refDepth_call (C.set b D0) hOk L G
      simp only [codeA] at w1 w2 w3 w4
      generalize soundF (C.set b D0) = sf at w1 w2
      generalize deepF (C.set b D0) = df at w3 w4
      rw [← htail]
      clear htail
      have done : ∀ (k : Nat) (L' : Hp), frzW L' [] (.ptr true k 0 0 0) = .rptr (.agg [.sl ((C.set b D0).map blockA') .no]) 0 → True := fun _ _ _ => trivial
      rcases hY with rfl | ⟨y, rfl⟩
      · have hfr := frz_code (L := [N0, Blk.row 0 [AV.agg [AV.sl (C.map blockA') Tok.no]], Blk.row g es, Blk.row 0 ((C.map blockA').set b (.hs true 2 g 0 len)), Blk.row 0 [AV.agg [AV.hs true 3 0 0 C.length]]]) (k := 3) rfl rfl rfl hlen hb (hdeep [Blk.row 0 ((C.map blockA').set b (.hs true 2 g 0 len)), Blk.row 0 [AV.agg [AV.hs true 3 0 0 C.length]]])
        simp only [go_sem, Nat.reduceEqDiff, g1, g4, a2, hb, refs_blocks, Nat.reduceAdd, Nat.reduceLeDiff, Nat.reduceLT, Nat.one_ne_zero, hfr, w1, w2, w3, w4, haw, bne_self_eq_false, beq_self_eq_true]
      · have hfr := frz_code (L := [N0, Blk.row 0 [AV.agg [AV.sl (C.map blockA') Tok.no]], Blk.row g es, y, Blk.row 0 ((C.map blockA').set b (.hs true 2 g 0 len)), Blk.row 0 [AV.agg [AV.hs true 4 0 0 C.length]]]) (k := 4) rfl rfl rfl hlen hb (hdeep [Blk.row 0 ((C.map blockA').set b (.hs true 2 g 0 len)), Blk.row 0 [AV.agg [AV.hs true 4 0 0 C.length]]])
        simp only [go_sem, Nat.reduceEqDiff, g1, g4, a2, hb, refs_blocks, Nat.reduceAdd, Nat.reduceLeDiff, Nat.reduceLT, Nat.one_ne_zero, hfr, w1, w2, w3, w4, haw, bne_self_eq_false, beq_self_eq_true]
    have hBok := k1.2 B0 hmem
    have hook := hBok.2 o (List.mem_of_getElem? ho)
    have T1 : ∀ (E' : Env) (Y : Hp), (Y = [] ∨ ∃ y, Y = [y]) → ∀ (g : Nat) (D0 : List OpT) (len : Nat), len = D0.length → OkOps D0 →
        endR Try.prog true [ResultVar.tmp 8] (tail ((11, .ptr true 1 0 0 0) :: (12, .int .i64 b) :: (13, .hs true 2 g 0 len) :: E') ([N0, Blk.row 0 [AV.agg [AV.sl (C.map blockA') Tok.no]], Blk.row g (D0.map opA)] ++ Y) []) = some (.val (.bool true), []) := by
      intro E' Y hY g D0 len hlen hD
      subst hlen
      refine T0 E' Y hY g _ D0 _ (by simp) hD fun Z => ?_
      rw [List.take_of_length_le (by simp), deep_ops]
    have g2' : (B0.map opA)[i]? = some (.agg [.int .i64 o.kind, .int .i64 o.n, .str o.s, .sl (o.blocks.map (.int .i64)) .no]) := g2
    obtain rfl | rfl | rfl | rfl | rfl | rfl | rfl : q = 0 ∨ q = 1 ∨ q = 2 ∨ q = 3 ∨ q = 4 ∨ q = 5 ∨ q = 6 := by omega
    · rw [show (((0 : Nat)) : Int) = 0 from rfl] at hp4
      simp only [go_sem, Nat.reduceEqDiff, Nat.reduceAdd, Nat.reduceLeDiff, Nat.reduceLT, Nat.one_ne_zero, hp4, Int.reduceBEq, hi', g2', set_ops]
      exact T1 [] [] (.inl rfl) 0 _ _ (by simp) (okOps_set hBok i hook)
    · rw [show (((1 : Nat)) : Int) = 1 from rfl] at hp4
      simp only [go_sem, Nat.reduceEqDiff, Nat.reduceAdd, Nat.reduceLeDiff, Nat.reduceLT, Nat.one_ne_zero, hp4, Int.reduceBEq, hi', g2', set_ops]
      exact T1 [] [] (.inl rfl) 0 _ _ (by simp) (okOps_set hBok i hook)
    · rw [show (((2 : Nat)) : Int) = 2 from rfl] at hp4
      obtain ⟨st, hst, hstr⟩ : ∃ st : List UInt8, st.length < 2 ^ 40 ∧ [AV.str [], AV.str [105, 102], AV.str [115, 116, 114, 105, 112], AV.str [115, 117, 98, 115, 116]][w]? = some (.str st) := by
        obtain rfl | rfl | rfl | rfl : w = 0 ∨ w = 1 ∨ w = 2 ∨ w = 3 := by omega
        · exact ⟨[], by decide, rfl⟩
        · exact ⟨[105, 102], by decide, rfl⟩
        · exact ⟨[115, 116, 114, 105, 112], by decide, rfl⟩
        · exact ⟨[115, 117, 98, 115, 116], by decide, rfl⟩
      simp only [go_sem, Nat.reduceEqDiff, Nat.reduceAdd, Nat.reduceLeDiff, Nat.reduceLT, Nat.one_ne_zero, hp4, Int.reduceBEq, hi', g2', set_ops, hp5, hw, hstr]
      exact T1 [] [] (.inl rfl) 0 _ _ (by simp) (okOps_set hBok i ⟨hst, hook.2⟩)
    · rw [show (((3 : Nat)) : Int) = 3 from rfl] at hp4
      have c1 : ((i : Int) ≤ (B0.length : Int)) = True := by simp; omega
      have c2 : (0 = i ∧ B0.length = 0) = False := eq_false fun h => by omega
      have c3 : IntKind.i64.wrap ((i : Int) + 1) = ((i + 1 : Nat) : Int) := by rw [wrap_in (by omega) (by omega)]; rfl
      have c4 : ((0 : Int) ≤ ((i + 1 : Nat) : Int) ∧ ((i + 1 : Nat) : Int) ≤ (B0.length : Int)) = True := by simp; omega
      have c5 : (i + 1 = 0) = False := by simp
      have hne0 : (B0.map opA) ≠ [] := by simpa using hne2 B0 hmem
      have hz := szOk_ops B0
      have hxs : handX ((B0.drop (i + 1)).map opA) = (B0.drop (i + 1)).map opA := handX_map opA hand_opA _
      have a3 := fun L (hL : L[2]? = some (Blk.row 0 (B0.map opA))) => app_lrowIn (P := Try.prog) (A := ann) (f := 4) (d := 118) (L := L) (G := []) (b := 2) (g := 0) (n := i) elKop hL hne0 hz hxs rfl (szOk_ops _) (by simp; omega) (by rw [ty44, List.length_map, List.length_drop]; simp only [mostBytes]; omega)
      have a3' := a3 [N0, Blk.row 0 [AV.agg [AV.sl (C.map blockA') Tok.no]], Blk.row 0 (B0.map opA)] rfl
      have hfin : ∀ E', endR Try.prog true [ResultVar.tmp 8] (tail ((11, .ptr true 1 0 0 0) :: (12, .int .i64 b) :: (13, .hs true 2 0 0 (i + ((B0.drop (i + 1)).map opA).length)) :: E') ([N0, Blk.row 0 [AV.agg [AV.sl (C.map blockA') Tok.no]], Blk.row 0 ((B0.map opA).take i ++ (B0.drop (i + 1)).map opA ++ (B0.map opA).drop (i + ((B0.drop (i + 1)).map opA).length))] ++ []) []) = some (.val (.bool true), []) := fun E' => by
        refine T0 E' [] (.inl rfl) 0 _ (B0.take i ++ B0.drop (i + 1)) _ (by simp; omega) ⟨by simp; omega, fun x hx => ?_⟩ fun Z => ?_
        · rcases List.mem_append.1 hx with h | h
          · exact hBok.2 x (List.mem_of_mem_take h)
          · exact hBok.2 x (List.mem_of_mem_drop h)
        · have e : ((B0.map opA).take i ++ (B0.drop (i + 1)).map opA ++ (B0.map opA).drop (i + ((B0.drop (i + 1)).map opA).length)).take (i + ((B0.drop (i + 1)).map opA).length) = (B0.take i ++ B0.drop (i + 1)).map opA := by
            rw [List.map_append, List.map_take]
            exact List.take_left' (by simp; omega)
          rw [e, deep_ops]
      by_cases hlast : i + 1 = B0.length
      · have hd : B0.drop (i + 1) = [] := List.drop_eq_nil_of_le (by omega)
        rw [hd] at a3' hfin
        simp only [List.map_nil, List.append_nil, List.length_nil, Nat.add_zero] at a3' hfin
        have c8 : (¬B0.length = 0 ∨ B0.length = 0) = True := eq_true (by omega)
        have c7 : ((B0.length : Int) ≤ (B0.length : Int)) = True := by simp
        simp only [go_sem, Nat.reduceEqDiff, Nat.reduceAdd, Nat.reduceLeDiff, Nat.reduceLT, Nat.one_ne_zero, hp4, Int.reduceBEq, hi', g2', set_ops, c1, c2, c3, c4, c5, Int.toNat_natCast, hlast, c7, c8, a3']
        exact hfin []
      · have c6 : (i + 1 = B0.length) = False := by simp [hlast]
        have c7 : (((i + 1 : Nat) : Int) ≤ (B0.length : Int)) = True := eq_true (by omega)
        have c9 : szOk Try.prog 44 (B0.map opA) = true := hz
        simp only [go_sem] at c9
        have c10 : (i + 1 + (B0.length - (i + 1)) ≤ B0.length) = True := eq_true (by omega)
        have c11 : ((B0.map opA).drop (i + 1)).take (B0.length - (i + 1)) = (B0.drop (i + 1)).map opA := by rw [← List.map_drop, List.take_of_length_le (by simp)]
        simp only [go_sem, Nat.reduceEqDiff, Nat.reduceAdd, Nat.reduceLeDiff, Nat.reduceLT, Nat.one_ne_zero, hp4, Int.reduceBEq, hi', g2', set_ops, c1, c2, c3, c4, c5, c6, c7, hne0, c9, c10, c11, Int.toNat_natCast, a3', not_false_eq_true]
        simp only [List.length_map] at hfin
        exact hfin []
    · rw [show (((4 : Nat)) : Int) = 4 from rfl] at hp4
      have s420 : ((4 : Nat) ≤ 2 ^ 20) = True := by decide
      have hne0 : (B0.map opA) ≠ [] := by simpa using hne2 B0 hmem
      have hz := szOk_ops B0
      have a4 := app_lrow1 (P := Try.prog) (A := ann) (f := 4) (d := 127) (L := [N0, Blk.row 0 [AV.agg [AV.sl (C.map blockA') Tok.no]], Blk.row 0 (B0.map opA)]) (G := []) (b := 2) (g := 0) (xs := [opA o]) (ys := [opA o]) elKop rfl hne0 hz (handX_map opA hand_opA [o]) rfl (szOk_ops [o]) (by simp) (by rw [ty44, List.length_map]; simp only [mostBytes, List.length_cons, List.length_nil]; omega)
      simp only [opA, intsA, List.length_map] at a4
      simp only [go_sem, Nat.reduceEqDiff, Nat.reduceAdd, Nat.reduceLeDiff, Nat.reduceLT, Nat.one_ne_zero, hp4, Int.reduceBEq, hi', g2', set_ops, s420, a4]
      have := T1 [] [] (.inl rfl) 1 (B0 ++ [o]) (B0.length + 1) (by simp) ⟨by simp; omega, fun x hx => by
        rcases List.mem_append.1 hx with h | h
        · exact hBok.2 x h
        · rw [List.mem_singleton.1 h]; exact hook⟩
      rw [List.map_append] at this
      exact this
    · rw [show (((5 : Nat)) : Int) = 5 from rfl] at hp4
      have s120 : ((1 : Nat) ≤ 2 ^ 20) = True := by decide
      have hok5 : ∀ m : List Int, m.length < 2 ^ 40 → OkOps (B0.set i ⟨o.kind, o.n, o.s, m⟩) := fun m hm => okOps_set hBok i ⟨hook.1, hm⟩
      have hobl := hblk B0 hmem o (List.mem_of_getElem? ho)
      have hvx := handX_ints [IntKind.i64.wrap (v - 2)]
      have hvz := szOk_ints13 [IntKind.i64.wrap (v - 2)]
      by_cases ob : o.blocks = []
      · rw [ob] at g2'
        have a5 := fun L G => app_none (P := Try.prog) (A := ann) (f := 4) (d := 137) (sl := none) (es := []) (t := .full) (L := L) (G := G) elKint13 (by simp)
        have a6 := fun L G => app_ltok0 (P := Try.prog) (A := ann) (f := 4) (d := 140) (L := L) (G := G) elKint13 rfl rfl hvx rfl hvz (by simp) (by rw [ty3]; simp only [mostBytes, List.length_map, List.length_cons, List.length_nil]; omega)
        rw [tz3] at a6
        simp only [List.map_cons, List.map_nil] at g2' a6
        simp only [go_sem, Nat.reduceEqDiff, Nat.reduceAdd, Nat.reduceLeDiff, Nat.reduceLT, Nat.one_ne_zero, hp4, Int.reduceBEq, hi', g2', s120, a5, a6]
        exact T0 [] [.tok 1 1] (.inr ⟨_, rfl⟩) 0 _ (B0.set i ⟨o.kind, o.n, o.s, [IntKind.i64.wrap (v - 2)]⟩) _ (by simp) (hok5 _ (by simp)) fun Z => by
          rw [List.take_of_length_le (by simp)]
          exact deep_set _ B0 i o.kind o.n o.s [IntKind.i64.wrap (v - 2)] _
      · have a5 := fun L G => app_ltok0 (P := Try.prog) (A := ann) (f := 4) (d := 137) (L := L) (G := G) elKint13 rfl rfl (handX_ints o.blocks) rfl (szOk_ints13 o.blocks) (by simpa using ob) (by rw [ty3, List.length_map]; simp only [mostBytes]; omega)
        have a6 := app_ltok1 (P := Try.prog) (A := ann) (f := 4) (d := 140) (L := [N0, Blk.row 0 [AV.agg [AV.sl (C.map blockA') Tok.no]], Blk.row 0 (B0.map opA)] ++ [.tok (o.blocks.map (AV.int .i64)).length 1]) (G := []) (a := 3) (es := o.blocks.map (.int .i64)) elKint13 (by rw [tz3]; rfl) hvx rfl hvz (by simp) (by rw [ty3, List.length_map, List.length_map]; simp only [mostBytes, List.length_cons, List.length_nil]; omega)
        rw [tz3] at a5 a6
        simp only [List.map_cons, List.map_nil, List.cons_append, List.nil_append, List.length_map, List.set_cons_succ, List.set_cons_zero] at a6
        simp only [go_sem, Nat.reduceEqDiff, Nat.reduceAdd, Nat.reduceLeDiff, Nat.reduceLT, Nat.one_ne_zero, hp4, Int.reduceBEq, hi', g2', s120, a5, a6]
        exact T0 [] [.tok (o.blocks.length + 1) 1] (.inr ⟨_, rfl⟩) 0 _ (B0.set i ⟨o.kind, o.n, o.s, o.blocks ++ [IntKind.i64.wrap (v - 2)]⟩) _ (by simp) (hok5 _ (by simp; omega)) fun Z => by
          rw [List.take_of_length_le (by simp)]
          have := deep_set ([N0, Blk.row 0 [AV.agg [AV.sl (C.map blockA') Tok.no]], Blk.row 0 ((B0.map opA).set i (AV.agg [AV.int IntKind.i64 o.kind, AV.int IntKind.i64 o.n, AV.str o.s, AV.sl (o.blocks.map (AV.int IntKind.i64) ++ [AV.int IntKind.i64 (IntKind.i64.wrap (v - 2))]) (Tok.own true 3)]))] ++ [.tok (o.blocks.length + 1) 1] ++ Z) B0 i o.kind o.n o.s (o.blocks ++ [IntKind.i64.wrap (v - 2)]) (.own true 3)
          rw [List.map_append] at this
          exact this
    · rw [show (((6 : Nat)) : Int) = 6 from rfl] at hp4
      cases hob : o.blocks with
      | nil =>
        rw [hob] at g2'
        have c0 : ((0 : Int) < ((0 : Nat) : Int)) = False := eq_false (by omega)
        simp only [go_sem, Nat.reduceEqDiff, Nat.reduceAdd, Nat.reduceLeDiff, Nat.reduceLT, Nat.one_ne_zero, hp4, Int.reduceBEq, hi', g2', c0]
        exact T1 _ [] (.inl rfl) 0 B0 _ rfl hBok
      | cons x m =>
        rw [hob] at g2'
        have hobl : (x :: m).length < 2 ^ 40 := by rw [← hob]; exact hook.2
        have a7 := fun L G => app_lrow0 (P := Try.prog) (A := ann) (f := 4) (d := 75) (L := L) (G := G) elKint13 rfl rfl (handX_ints (x :: m)) rfl (szOk_ints13 (x :: m)) (by simp) (by rw [ty3, List.length_map]; simp only [mostBytes]; omega)
        simp only [List.map_cons, List.length_cons, List.length_map] at a7 g2'
        have c2 : ((0 : Int) < 0) = False := by simp
        have c3 : Int.toNat 0 = 0 := rfl
        have c4 : (0 < m.length + 1) = True := by simp
        have gs : ∀ X, ((B0.map opA).set i X)[i]? = some X := fun X => List.getElem?_set_self (by simpa using hi')
        have c1 : ((0 : Int) < ((m.length + 1 : Nat) : Int)) = True := eq_true (by omega)
        simp only [go_sem, Nat.reduceEqDiff, Nat.reduceAdd, Nat.reduceLeDiff, Nat.reduceLT, Nat.one_ne_zero, hp4, Int.reduceBEq, hi', g2', a7, c1, c2, c3, c4, gs, List.set_set]
        exact T0 [] [.row 0 (AV.int .i64 (IntKind.i64.wrap (v - 2)) :: m.map (AV.int .i64))] (.inr ⟨_, rfl⟩) 0 _ (B0.set i ⟨o.kind, o.n, o.s, IntKind.i64.wrap (v - 2) :: m⟩) _ (by simp) (okOps_set hBok i ⟨hook.1, hobl⟩) fun Z => by
          rw [List.take_of_length_le (by simp)]
          exact deep_row (m := IntKind.i64.wrap (v - 2) :: m) hi' rfl
  · have e9 : (e != 0) = true := by simpa using e0
    rw [hnode] at hpar
    exact ⟨_, by simp only [go_sem, Nat.reduceEqDiff, haw, hgen, hpar, e9, refs_ints, refs_nodes, Nat.reduceAdd, Nat.reduceLeDiff, Nat.reduceLT, Nat.one_ne_zero] <;> rfl⟩
end Ev
