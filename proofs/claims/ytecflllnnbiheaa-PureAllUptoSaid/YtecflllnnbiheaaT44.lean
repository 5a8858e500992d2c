/- Texts sorted, each once: the document's way. -/
import Derived.Test.YtecflllnnbiheaaT43
set_option maxHeartbeats 4000000
set_option linter.unusedVariables false
set_option linter.unusedSimpArgs false
namespace Ev
open Go Go.Proofs
set_option maxRecDepth 10000
/-- a text put into such a list -/
def insU (x : List UInt8) : List (List UInt8) → List (List UInt8)
  | [] => [x]
  | y :: m => if bytesLt y x = true then y :: insU x m else if y = x then y :: m else x :: y :: m
def sortU (l : List (List UInt8)) : List (List UInt8) := l.foldl (fun m x => insU x m) []
def StrictS (l : List (List UInt8)) : Prop := l.Pairwise fun x y => bytesLt x y = true
theorem insU_at {x : List UInt8} : ∀ {m : List (List UInt8)} {p : Nat}, p ≤ m.length → (∀ j y, j < p → m[j]? = some y → bytesLt y x = true) → (∀ y, m[p]? = some y → bytesLt y x = false) → insU x m = if m[p]? = some x then m else m.take p ++ x :: m.drop p
  | [], p, hp, _, _ => by
    have : p = 0 := by simpa using hp
    subst this
    rfl
  | y :: m, 0, _, _, h => by
    have := h y rfl
    rw [insU, if_neg (by rw [this]; simp)]
    simp
  | y :: m, p + 1, hp, h1, h2 => by
    have := h1 0 y (by omega) rfl
    rw [insU, if_pos this, insU_at (p := p) (by simpa using hp) (fun j z hj hz => h1 (j + 1) z (by omega) (by simpa using hz)) (fun z hz => h2 z (by simpa using hz))]
    simp only [List.getElem?_cons_succ, List.take_succ_cons, List.drop_succ_cons, List.cons_append]
    split <;> rfl
theorem insU_mem {x z : List UInt8} : ∀ {m : List (List UInt8)}, z ∈ insU x m ↔ z = x ∨ z ∈ m
  | [] => by simp [insU]
  | y :: m => by
    rw [insU]
    split
    · rw [List.mem_cons, insU_mem, List.mem_cons]
      constructor
      · rintro (h | h | h)
        · exact .inr (.inl h)
        · exact .inl h
        · exact .inr (.inr h)
      · rintro (h | h | h)
        · exact .inr (.inl h)
        · exact .inl h
        · exact .inr (.inr h)
    · split
      · rename_i e
        subst e
        simp
      · simp
theorem insU_strict {x : List UInt8} : ∀ {m : List (List UInt8)}, StrictS m → StrictS (insU x m)
  | [], _ => by simp [insU, StrictS]
  | y :: m, h => by
    obtain ⟨h1, h2⟩ := List.pairwise_cons.1 h
    rw [insU]
    split
    · rename_i hy
      refine List.pairwise_cons.2 ⟨fun z hz => ?_, insU_strict h2⟩
      rcases insU_mem.1 hz with rfl | hz
      · exact hy
      · exact h1 z hz
    · rename_i hy
      split
      · exact h
      · rename_i hne
        have hxy : bytesLt x y = true := by
          cases hh : bytesLt x y with
          | true => rfl
          | false => exact absurd (blt_tri (by simpa using hy) hh) hne
        refine List.pairwise_cons.2 ⟨fun z hz => ?_, h⟩
        rcases List.mem_cons.1 hz with rfl | hz
        · exact hxy
        · exact blt_trans hxy (h1 z hz)
theorem strict_unique : ∀ {l m : List (List UInt8)}, StrictS l → StrictS m → (∀ z, z ∈ l ↔ z ∈ m) → l = m
  | [], [], _, _, _ => rfl
  | [], y :: m, _, _, h => by have := (h y).2 (by simp); simp at this
  | x :: l, [], _, _, h => by have := (h x).1 (by simp); simp at this
  | x :: l, y :: m, hl, hm, h => by
    obtain ⟨h1, h2⟩ := List.pairwise_cons.1 hl
    obtain ⟨k1, k2⟩ := List.pairwise_cons.1 hm
    have e : x = y := by
      rcases List.mem_cons.1 ((h x).1 (by simp)) with e | hx
      · exact e
      · rcases List.mem_cons.1 ((h y).2 (by simp)) with e | hy
        · exact e.symm
        · have := blt_trans (k1 x hx) (h1 y hy)
          rw [blt_irrefl] at this
          cases this
    subst e
    rw [strict_unique h2 k2 fun z => ?_]
    have hz := h z
    simp only [List.mem_cons] at hz
    constructor
    · intro hzl
      rcases hz.1 (.inr hzl) with rfl | h'
      · have := h1 z hzl; rw [blt_irrefl] at this; cases this
      · exact h'
    · intro hzm
      rcases hz.2 (.inr hzm) with rfl | h'
      · have := k1 z hzm; rw [blt_irrefl] at this; cases this
      · exact h'
theorem sortU_fold : ∀ (l m : List (List UInt8)), StrictS m → StrictS (l.foldl (fun m x => insU x m) m) ∧ ∀ z, z ∈ l.foldl (fun m x => insU x m) m ↔ z ∈ m ∨ z ∈ l
  | [], m, h => ⟨h, by simp⟩
  | x :: l, m, h => by
    obtain ⟨h1, h2⟩ := sortU_fold l (insU x m) (insU_strict h)
    refine ⟨h1, fun z => ?_⟩
    rw [List.foldl_cons, h2 z, insU_mem, List.mem_cons]
    constructor
    · rintro ((h | h) | h)
      · exact .inr (.inl h)
      · exact .inl h
      · exact .inr (.inr h)
    · rintro (h | h | h)
      · exact .inl (.inr h)
      · exact .inl (.inl h)
      · exact .inr h
theorem compS_mem : ∀ {l : List (List UInt8)} {z}, z ∈ compS l ↔ z ∈ l
  | [], z => Iff.rfl
  | [x], z => Iff.rfl
  | x :: y :: l, z => by
    rw [compS]
    split
    · rename_i e
      subst e
      rw [compS_mem]
      simp
    · rw [List.mem_cons, compS_mem]
      simp
theorem compS_strict : ∀ {l : List (List UInt8)}, SortedS l → StrictS (compS l)
  | [], _ => List.Pairwise.nil
  | [x], _ => by simp [compS, StrictS]
  | x :: y :: l, h => by
    obtain ⟨h1, h2⟩ := List.pairwise_cons.1 h
    rw [compS]
    split
    · exact compS_strict h2
    · rename_i hne
      refine List.pairwise_cons.2 ⟨fun z hz => ?_, compS_strict h2⟩
      have hz' := compS_mem.1 hz
      have hzx := h1 z hz'
      cases hh : bytesLt x z with
      | true => rfl
      | false =>
        have e := blt_tri hh hzx
        subst e
        have hyx := h1 y (by simp)
        rcases List.mem_cons.1 hz' with e | hz''
        · exact absurd e hne
        · have := (List.pairwise_cons.1 h2).1 x hz''
          exact absurd (blt_tri this hyx) hne
/-- both ways the same -/
theorem comp_sortU (l : List (List UInt8)) : compS (sortS l) = sortU l := by
  obtain ⟨h1, h2⟩ := sortU_fold l [] List.Pairwise.nil
  refine strict_unique (compS_strict (sortS_sorted l)) h1 fun z => ?_
  rw [compS_mem, (sortS_perm l).mem_iff]
  have := h2 z
  simp only [List.not_mem_nil, false_or] at this
  exact this.symm
theorem sortU_snoc (l : List (List UInt8)) (x : List UInt8) : sortU (l ++ [x]) = insU x (sortU l) := by unfold sortU; rw [List.foldl_append]; rfl
theorem sortU_strict (l : List (List UInt8)) : StrictS (sortU l) := (sortU_fold l [] List.Pairwise.nil).1
theorem insU_len (x : List UInt8) : ∀ m : List (List UInt8), (insU x m).length ≤ m.length + 1
  | [] => Nat.le_refl _
  | y :: m => by
    have := insU_len x m
    rw [insU]
    split
    · simp only [List.length_cons]; omega
    · split <;> simp
theorem sortU_len (l : List (List UInt8)) : (sortU l).length ≤ l.length := by
  have : ∀ (l m : List (List UInt8)), (l.foldl (fun m x => insU x m) m).length ≤ m.length + l.length := fun l => by
    induction l with
    | nil => intro m; simp
    | cons x l ih => intro m; have := ih (insU x m); have := insU_len x m; rw [List.foldl_cons, List.length_cons]; omega
  have := this l []
  unfold sortU
  simpa using this
theorem sliced_row {L : Hp} {b g o n : Nat} {l : List (List UInt8)} (h : L[b]? = some (.row g (l.map .str))) (hn : o + n = l.length) : slicedA L [] (.hs true b g o n) = some ((l.drop o).map .str) := by
  simp only [slicedA, elemsOf, hpOf, if_true, h, true_and, List.length_map]
  rw [if_pos (by omega), ← List.map_drop, List.take_of_length_le (by simp; omega)]
theorem copy_row {L : Hp} {b g p : Nat} {m : List (List UInt8)} (h : L[b]? = some (.row g ((m ++ [[]]).map .str))) (hp : p < m.length) :
    ∃ L', copyA Try.prog 9 (.hs true b g (p + 1) (m.length - p)) (((m ++ [[]]).drop p).map .str) L [] = some (m.length - p, L', []) ∧ L'[b]? = some (.row g (((m ++ [[]]).take (p + 1) ++ m.drop p).map .str)) ∧ L'.length = L.length := by
  have ht : (((m ++ [[]]).drop p).map AV.str).take (m.length - p) = (m.drop p).map .str := by
    rw [← List.map_take, List.drop_append_of_le_length (by omega), List.take_append_of_le_length (by simp), List.take_of_length_le (by simp)]
  have hb := (List.getElem?_eq_some_iff.1 h).1
  refine ⟨L.set b (.row g (((m ++ [[]]).take (p + 1) ++ m.drop p).map .str)), ?_, by rw [List.getElem?_set, if_pos rfl, if_pos hb], by simp⟩
  simp only [copyA, hpOf, if_true, h, true_and, ht, handAs_strs, szOk_strs tz9, true_or, and_true, setHp]
  rw [if_pos ⟨by simp; omega, by simp⟩]
  simp only [List.length_map, List.length_drop]
  have hd : ((m ++ [[]]).map AV.str).drop (p + 1 + (m.length - p)) = [] := List.drop_of_length_le (by simp; omega)
  rw [hd, List.append_nil, ← List.map_take, ← List.map_append]
theorem ins_row {x : List UInt8} {m : List (List UInt8)} {p : Nat} (hp : p ≤ m.length) : ((((m ++ [[]]).take (p + 1) ++ m.drop p).map AV.str).set p (.str x)) = (m.take p ++ x :: m.drop p).map .str := by
  have e : (m ++ [[]]).take (p + 1) = m.take p ++ [(m ++ [[]])[p]'(by simp; omega)] := by
    rw [List.take_succ_eq_append_getElem (by simp; omega), List.take_append_of_le_length hp]
  rw [e, show AV.str x = AV.str x from rfl, ← List.map_set]
  congr 1
  rw [List.append_assoc, List.set_append, if_neg (by simp; omega), List.length_take, Nat.min_eq_left hp, Nat.sub_self]
  rfl
theorem ds_copy {C : Cfg} {f b : Nat} {d : Option Tmp} {ty : TypeId} {pos : String} {aft : Array Edge} {g : Option (Nat × Bool)} {e : Env} {p : Array Operand} {q : Array TypeId} : drawStep C f b ⟨d, .call ⟨.builtin .copy, p, q⟩, ty, pos, aft, g⟩ e = true := id rfl
theorem copy_nil {P : Program} {el : TypeId} {t : Tok} {xs : List AV} {L G : Hp} : copyA P el (.sl [] t) xs L G = some (0, L, G) := rfl
/-- what stands at the place found -/
structure Found (x : List UInt8) (m : List (List UInt8)) (p : Nat) : Prop where
  le : p ≤ m.length
  low : ∀ j y, j < p → m[j]? = some y → bytesLt y x = true
  high : ∀ y, m[p]? = some y → bytesLt y x = false
theorem refSort_call (l : List (List UInt8)) (hl : l.length ≤ 2 ^ 30) (L G : Hp) : callA (cfg Try.prog ann) 50 [strsA l] L G = some (.val (strsA (sortU l)), L, G) := by
  suffices hh : ∃ G', ev Try.prog ann 50 [strsA l] [] = some (.val (strsA (sortU l)), G') by
    obtain ⟨G', h⟩ := hh
    refine call_pure rfl rfl ?_ ?_ (G' := G') ?_
    · simp only [strsA, handAs, handA, pfs, refss, AV.refs, Tok.refs, Tok.drop, if_true, refs_strs', Bool.and_self]
    · simp only [strsA, AV.pf, AV.refs, Tok.refs, refs_strs', Bool.and_self]
    · simp only [strsA, handAs, handA, Tok.drop, if_true] at h ⊢
      exact h
  rw [fun_some Try.func50 rfl rfl]
  simp only [strsA, go_sem, Nat.reduceEqDiff, Nat.reduceAdd, Nat.reduceLeDiff, show ((3 : Nat) = 0) = False from by decide]
  generalize hw : loopW _ _ _ _ _ _ = w
  obtain ⟨ou, rfl, v', L', rfl, r1⟩ : ∃ ou, w = some ou ∧ ∃ v' L', ou = (.exit 0, [(3, v')], L', []) ∧ LRow L' v' (sortU l) := by
    rw [← hw]
    clear hw
    refine loop_ex (σ := Nat × List (List UInt8) × AV × Hp × Env) (fun q => (0, .sl (l.map .str) .no) :: (3, q.2.2.1) :: (4, .int .i64 q.1) :: q.2.2.2.2) (fun q => q.2.2.2.1) (fun _ => []) (fun q => q.1 ≤ l.length ∧ q.2.1 = sortU (l.take q.1) ∧ LRow q.2.2.2.1 q.2.2.1 q.2.1) (fun q => l.length - q.1) _ ?_
      (0, [], _, _, []) ⟨Nat.zero_le _, rfl, .inl ⟨rfl, rfl⟩⟩
    rintro ⟨i, m, v, L, E⟩ ⟨q1, q2, q3⟩
    simp only at q1 q2 q3
    have hw : IntKind.i64.wrap ((i : Int) + 1) = ((i + 1 : Nat) : Int) := by rw [wrap_in] <;> omega
    by_cases hi : i < l.length
    · obtain ⟨x, hx⟩ : ∃ x, l[i]? = some x := ⟨_, List.getElem?_eq_getElem hi⟩
      have hx' : (l.map AV.str)[i]? = some (.str x) := by rw [List.getElem?_map, hx]; rfl
      have htake : l.take (i + 1) = l.take i ++ [x] := by rw [List.take_succ_eq_append_getElem hi]; congr 1; rw [List.getElem?_eq_getElem hi] at hx; simpa using hx
      have hst := sortU_strict (l.take i)
      have hml := sortU_len (l.take i)
      rw [List.length_take] at hml
      rw [← q2] at hst hml
      have hnext : sortU (l.take (i + 1)) = insU x m := by rw [htake, sortU_snoc, ← q2]
      rcases q3 with ⟨rfl, rfl⟩ | ⟨hne, b, g, rfl, hrow⟩
      · simp only [go_sem, Nat.reduceEqDiff, hi, Nat.reduceAdd, Nat.reduceLeDiff, decide_true, show ((3 : Nat) = 0) = False from by decide]
        generalize hw2 : loopW _ _ _ _ _ _ = w2
        obtain ⟨o2, rfl, p, rfl, hf⟩ : ∃ o2, w2 = some o2 ∧ ∃ p : Nat, o2 = (.exit 2, [(0, .sl (l.map .str) .no), (3, .sl [] .full), (4, .int .i64 i), (5, .int .i64 p)], L, []) ∧ Found x ([] : List (List UInt8)) p := by
          rw [← hw2]
          clear hw2
          refine loop_ex (σ := Nat × Nat) (fun q => [(0, .sl (l.map .str) .no), (3, .sl [] .full), (4, .int .i64 i), (5, .int .i64 q.1), (6, .int .i64 q.2)]) (fun _ => L) (fun _ => [])
            (fun q => q.1 ≤ q.2 ∧ q.2 ≤ (([] : List (List UInt8))).length ∧ (∀ j y, j < q.1 → (([] : List (List UInt8)))[j]? = some y → bytesLt y x = true) ∧ ∀ j y, q.2 ≤ j → (([] : List (List UInt8)))[j]? = some y → bytesLt y x = false) (fun q => q.2 - q.1) _ ?_ (0, (([] : List (List UInt8))).length)
            ⟨Nat.zero_le _, Nat.le_refl _, fun j y h => by simp only at h; omega, fun j y h1 h2 => by have := (List.getElem?_eq_some_iff.1 h2).1; simp only at h1; omega⟩
          rintro ⟨lo, hh⟩ ⟨p1, p2, p3, p4⟩
          simp only at p1 p2 p3 p4
          by_cases hlt : lo < hh
          · exact absurd hlt (by simp at p2; omega)

          · have e : lo = hh := by omega
            subst e
            refine ⟨_, by simp only [go_sem, Nat.reduceEqDiff, Nat.lt_irrefl, decide_false, Nat.reduceAdd, Nat.reduceLeDiff] <;> rfl, .inr ⟨_, rfl, lo, rfl, p2, p3, fun y hy => p4 lo y (Nat.le_refl _) hy⟩⟩
        have hp0 : p = 0 := by have := hf.le; simpa using this
        subst hp0
        obtain ⟨b2, g2, L2, a1, hrow2⟩ := app_lRow (P := Try.prog) (A := ann) (f := 50) (d := 52) (L := L) (v := .sl [] .full) (l := []) (ms := [[]]) elKstr tz9 rfl rfl (.inl ⟨rfl, rfl⟩) (by simp) (by rw [ty9]; simp [mostBytes])
        simp only [List.map_cons, List.map_nil, List.nil_append, List.length_nil, List.length_cons, Nat.zero_add] at a1 hrow2
        have hb2 : b2 < L2.length := (List.getElem?_eq_some_iff.1 hrow2).1
        have p3 : ((1 : Nat) ≤ 2 ^ 20) = True := by decide
        have p4 : ((0 : Int) < ((0 : Nat) : Int)) = False := by simp
        have w1 : IntKind.i64.wrap (0 + 1) = 1 := by decide
        have u1 : ((1 : Int) ≤ ((1 : Nat) : Int)) = True := by decide
        have u2 : ((0 : Int) ≤ 1) = True := by decide
        have u3 : ((0 : Int) ≤ 0) = True := by decide
        have u4 : ((0 : Int) ≤ ((1 : Nat) : Int)) = True := by decide
        have z1 : Int.toNat 1 = 1 := rfl
        have z0 : Int.toNat 0 = 0 := rfl
        have sl1 := sliced_row (L := L2) (b := b2) (g := g2) (o := 0) (n := 1) (l := [[]]) hrow2 rfl
        simp only [List.drop_zero, List.map_cons, List.map_nil] at sl1
        have n0 : ((0 : Nat) : Int) = 0 := rfl
        have hnx : insU x [] = [x] := rfl
        have htr : ∀ LL, trim 0 [(0, .sl (l.map AV.str) .no), (3, .hs true b2 g2 0 1), (4, .int .i64 ((i + 1 : Nat) : Int))] LL = LL := fun LL => trim_hs (i := 3) (b := b2) (g := g2) (o := 0) (n := 1) (by simp) (Nat.zero_le _)
        simp only [go_sem, Nat.reduceEqDiff, Nat.reduceAdd, Nat.reduceLeDiff, Nat.reduceLT, a1, hrow2, hb2, p3, n0, w1, hw, htr, u1, u2, u3, u4, z0, z1, sl1, copy_nil, ds_copy, hi, hx', Int.lt_irrefl, decide_false, decide_true, show ((3 : Nat) = 0) = False from by decide]
        refine ⟨_, rfl, .inl ⟨(i + 1, [x], .hs true b2 g2 0 1, L2.set b2 (.row g2 [.str x]), []), ⟨by simp only; omega, hnext.symm, .inr ⟨by simp, b2, g2, rfl, by rw [List.getElem?_set, if_pos rfl, if_pos hb2]; rfl⟩⟩, by simp only; omega, rfl⟩⟩
      · have hbL : b < L.length := (List.getElem?_eq_some_iff.1 hrow).1
        simp only [go_sem, Nat.reduceEqDiff, hi, Nat.reduceAdd, Nat.reduceLeDiff, decide_true, show ((3 : Nat) = 0) = False from by decide]
        generalize hw2 : loopW _ _ _ _ _ _ = w2
        obtain ⟨o2, rfl, p, rfl, hf⟩ : ∃ o2, w2 = some o2 ∧ ∃ p : Nat, o2 = (.exit 2, [(0, .sl (l.map .str) .no), (3, .hs true b g 0 m.length), (4, .int .i64 i), (5, .int .i64 p)], L, []) ∧ Found x m p := by
          rw [← hw2]
          clear hw2
          refine loop_ex (σ := Nat × Nat) (fun q => [(0, .sl (l.map .str) .no), (3, .hs true b g 0 m.length), (4, .int .i64 i), (5, .int .i64 q.1), (6, .int .i64 q.2)]) (fun _ => L) (fun _ => [])
            (fun q => q.1 ≤ q.2 ∧ q.2 ≤ (m).length ∧ (∀ j y, j < q.1 → (m)[j]? = some y → bytesLt y x = true) ∧ ∀ j y, q.2 ≤ j → (m)[j]? = some y → bytesLt y x = false) (fun q => q.2 - q.1) _ ?_ (0, (m).length)
            ⟨Nat.zero_le _, Nat.le_refl _, fun j y h => by simp only at h; omega, fun j y h1 h2 => by have := (List.getElem?_eq_some_iff.1 h2).1; simp only at h1; omega⟩
          rintro ⟨lo, hh⟩ ⟨p1, p2, p3, p4⟩
          simp only at p1 p2 p3 p4
          by_cases hlt : lo < hh
          · have hk1 : IntKind.i64.wrap ((lo : Int) + (hh : Int)) = ((lo + hh : Nat) : Int) := by rw [wrap_in] <;> omega
            have hk2 : IntKind.i64.wrap (((lo + hh : Nat) : Int).tdiv 2) = (((lo + hh) / 2 : Nat) : Int) := by rw [show (((lo + hh : Nat) : Int).tdiv 2) = (((lo + hh) / 2 : Nat) : Int) from rfl, wrap_in] <;> omega
            have h20 : ((2 : Int) = 0) = False := by decide
            have hkl : lo ≤ (lo + hh) / 2 := by omega
            have hkh : (lo + hh) / 2 < hh := by omega
            generalize (lo + hh) / 2 = kk at hk2 hkl hkh
            have hk3 : IntKind.i64.wrap ((kk : Int) + 1) = ((kk + 1 : Nat) : Int) := by rw [wrap_in] <;> omega
            obtain ⟨y, hy⟩ : ∃ y, m[kk]? = some y := ⟨_, List.getElem?_eq_getElem (by omega)⟩
            have hy' : (m.map AV.str)[kk]? = some (.str y) := by rw [List.getElem?_map, hy]; rfl
            have hkm : kk < m.length := by omega
            have hpw := List.pairwise_iff_getElem.1 hst
            have hym := (List.getElem?_eq_some_iff.1 hy)
            cases hb : bytesLt y x with
            | true =>
              refine ⟨_, by simp only [go_sem, Nat.reduceEqDiff, hlt, decide_true, hk1, hk2, hk3, h20, hkm, hrow, hy', hb, hx', hi, trim_whole, hbL, Nat.reduceAdd, Nat.reduceLeDiff, show ((3 : Nat) = 0) = False from by decide] <;> rfl, ?_⟩
              refine .inl ⟨(kk + 1, hh), ⟨by simp only; omega, p2, fun j z hj hz => ?_, p4⟩, by simp only; omega, rfl⟩
              simp only at hj
              by_cases hjk : j = kk
              · subst hjk; rw [hy] at hz; cases hz; exact hb
              · obtain ⟨z1, z2⟩ := List.getElem?_eq_some_iff.1 hz
                have := hpw j kk z1 hym.1 (by omega)
                rw [z2, hym.2] at this
                exact blt_trans this hb
            | false =>
              refine ⟨_, by simp only [go_sem, Nat.reduceEqDiff, hlt, decide_true, hk1, hk2, hk3, h20, hkm, hrow, hy', hb, hx', hi, trim_whole, hbL, Nat.reduceAdd, Nat.reduceLeDiff, show ((3 : Nat) = 0) = False from by decide] <;> rfl, ?_⟩
              refine .inl ⟨(lo, kk), ⟨hkl, by simp only; omega, p3, fun j z hj hz => ?_⟩, by simp only; omega, rfl⟩
              simp only at hj
              by_cases hjk : j = kk
              · subst hjk; rw [hy] at hz; cases hz; exact hb
              · obtain ⟨z1, z2⟩ := List.getElem?_eq_some_iff.1 hz
                have := hpw kk j hym.1 z1 (by omega)
                rw [z2, hym.2] at this
                cases hzx : bytesLt z x with
                | false => rfl
                | true => rw [blt_trans this hzx] at hb; cases hb

          · have e : lo = hh := by omega
            subst e
            refine ⟨_, by simp only [go_sem, Nat.reduceEqDiff, Nat.lt_irrefl, decide_false, Nat.reduceAdd, Nat.reduceLeDiff] <;> rfl, .inr ⟨_, rfl, lo, rfl, p2, p3, fun y hy => p4 lo y (Nat.le_refl _) hy⟩⟩
        have hpl := hf.le
        have hwp : IntKind.i64.wrap ((p : Int) + 1) = ((p + 1 : Nat) : Int) := by rw [wrap_in] <;> omega
        by_cases hex : m[p]? = some x
        · have hpm : p < m.length := (List.getElem?_eq_some_iff.1 hex).1
          have hex' : (m.map AV.str)[p]? = some (.str x) := by rw [List.getElem?_map, hex]; rfl
          have hins : insU x m = m := by rw [insU_at hf.le hf.low hf.high, if_pos hex]
          have htr : ∀ LL, trim 0 [(0, .sl (l.map AV.str) .no), (3, .hs true b g 0 m.length), (4, .int .i64 ((i + 1 : Nat) : Int))] LL = LL := fun LL => trim_hs (i := 3) (b := b) (g := g) (o := 0) (n := m.length) (by simp) (Nat.zero_le _)
          simp only [go_sem, Nat.reduceEqDiff, Nat.reduceAdd, Nat.reduceLeDiff, Nat.reduceLT, hpm, hrow, hex', hbL, hw, htr, hi, hx', decide_true, show ((3 : Nat) = 0) = False from by decide]
          refine ⟨_, rfl, .inl ⟨(i + 1, m, .hs true b g 0 m.length, L, []), ⟨by simp only; omega, by simp only; rw [hnext, hins], .inr ⟨hne, b, g, rfl, hrow⟩⟩, by simp only; omega, rfl⟩⟩
        · have hins : insU x m = m.take p ++ x :: m.drop p := by rw [insU_at hf.le hf.low hf.high, if_neg hex]
          obtain ⟨b2, g2, L2, a1, hrow2⟩ := app_lRow (P := Try.prog) (A := ann) (f := 50) (d := 52) (L := L) (v := .hs true b g 0 m.length) (l := m) (ms := [[]]) elKstr tz9 rfl rfl (.inr ⟨hne, b, g, rfl, hrow⟩) (by simp) (by rw [ty9]; simp only [mostBytes, List.length_cons, List.length_nil]; omega)
          simp only [List.map_cons, List.map_nil, List.length_nil, List.length_cons, Nat.zero_add] at a1
          have hb2 : b2 < L2.length := (List.getElem?_eq_some_iff.1 hrow2).1
          have p3 : ((1 : Nat) ≤ 2 ^ 20) = True := by decide
          have htr : ∀ LL, trim 0 [(0, .sl (l.map AV.str) .no), (3, .hs true b2 g2 0 (m.length + 1)), (4, .int .i64 ((i + 1 : Nat) : Int))] LL = LL := fun LL => trim_hs (i := 3) (b := b2) (g := g2) (o := 0) (n := m.length + 1) (by simp) (Nat.zero_le _)
          have f1 : (((p + 1 : Nat) : Int) ≤ ((m.length + 1 : Nat) : Int)) = True := eq_true (by omega)
          have f2 : ((p : Int) ≤ ((m.length + 1 : Nat) : Int)) = True := eq_true (by omega)
          have f3 : (p = m.length + 1) = False := eq_false (by omega)
          have f4 : (p + 1 = 0) = False := eq_false (by omega)
          have f5 : (p < m.length + 1) = True := eq_true (by omega)
          have f6 : ((m ++ [[]]).map AV.str = []) = False := eq_false (by simp)
          have hz0 : szOk Try.prog 9 ((m ++ [[]]).map AV.str) = true := szOk_strs tz9 _
          simp only [go_sem] at hz0
          have hrow2' := hrow2
          have hget : ∀ l' : List (List UInt8), p < l'.length → ∃ z, (l'.map AV.str)[p]? = some (.str z) := fun l' h => ⟨_, by rw [List.getElem?_map, List.getElem?_eq_getElem h]; rfl⟩
          have hpart : ∃ n L3, L3.length = L2.length ∧ (∃ m3 : List (List UInt8), p < m3.length ∧ L3[b2]? = some (.row g2 (m3.map .str)) ∧ (m3.map AV.str).set p (.str x) = (insU x m).map .str) ∧
              ∀ D S, (D = (if p = m.length then AV.sl [] .no else .hs true b2 g2 (p + 1) (m.length + 1 - (p + 1)))) → (S = if p = 0 then AV.hs true b2 g2 0 (m.length + 1) else .hs true b2 g2 p (m.length + 1 - p)) → ∃ xs, slicedA L2 [] S = some xs ∧ copyA Try.prog 9 D xs L2 [] = some (n, L3, []) := by
            have hS : ∀ S, (S = if p = 0 then AV.hs true b2 g2 0 (m.length + 1) else .hs true b2 g2 p (m.length + 1 - p)) → slicedA L2 [] S = some (((m ++ [[]]).drop p).map .str) := fun S hS => by
              by_cases hp0 : p = 0
              · subst hp0
                rw [if_pos rfl] at hS
                subst hS
                exact sliced_row (o := 0) (n := m.length + 1) hrow2 (by simp)
              · rw [if_neg hp0] at hS
                subst hS
                exact sliced_row (o := p) (n := m.length + 1 - p) hrow2 (by simp; omega)
            by_cases hpm : p = m.length
            · refine ⟨0, L2, rfl, ⟨m ++ [[]], by simp; omega, hrow2, ?_⟩, fun D S hD hS' => ⟨_, hS S hS', by rw [hD, if_pos hpm]; rfl⟩⟩
              rw [hins, ← ins_row hpl]
              congr 2
              rw [hpm, List.take_of_length_le (by simp), List.drop_of_length_le (Nat.le_refl _), List.append_nil]
            · obtain ⟨L3, c1, c2, c3⟩ := copy_row hrow2 (p := p) (by omega)
              refine ⟨m.length - p, L3, c3, ⟨_, by simp; omega, c2, by rw [ins_row hpl, hins]⟩, fun D S hD hS' => ⟨_, hS S hS', ?_⟩⟩
              rw [hD, if_neg hpm, show m.length + 1 - (p + 1) = m.length - p by omega]
              exact c1
          obtain ⟨n, L3, hL3, ⟨m3, hm3, hrow3, hfin⟩, hcp⟩ := hpart
          have hb3 : b2 < L3.length := by omega
          obtain ⟨z, hz⟩ := hget m3 hm3
          have hfinal : ((L3.set b2 (.row g2 ((m3.map AV.str).set p (.str x))))[b2]? = some (.row g2 ((insU x m).map .str))) := by rw [List.getElem?_set, if_pos rfl, if_pos hb3, hfin]
          have hilen : (insU x m).length = m.length + 1 := by rw [hins]; simp; omega
          have hine : insU x m ≠ [] := fun e => by rw [e] at hilen; simp at hilen
          have hmp : p < m.length → ∃ y, (m.map AV.str)[p]? = some (.str y) ∧ (y == x) = false := fun h => by
            refine ⟨m[p], by rw [List.getElem?_map, List.getElem?_eq_getElem h]; rfl, ?_⟩
            rw [List.getElem?_eq_getElem h] at hex
            simpa using hex
          by_cases hpm : p < m.length
          · obtain ⟨y, hy1, hy2⟩ := hmp hpm
            have f7 : (p = m.length) = False := eq_false (by omega)
            by_cases hp0 : p = 0
            · obtain ⟨xs, k1, k2⟩ := hcp _ _ rfl rfl
              rw [if_neg (by omega)] at k2
              rw [if_pos hp0] at k1
              have f8 : (p = 0) = True := eq_true hp0
              simp only [go_sem, Nat.reduceEqDiff, Nat.reduceAdd, Nat.reduceLeDiff, Nat.reduceLT, Nat.add_right_cancel_iff, a1, hpm, hrow, hy1, hy2, hbL, hrow2, hb2, p3, hwp, hw, htr, f1, f2, f3, f4, f5, f6, f7, f8, hz0, k1, k2, hrow3, hz, ds_copy, Int.toNat_natCast, not_false_eq_true, not_true_eq_false, hi, hx', decide_true, decide_false, show ((3 : Nat) = 0) = False from by decide]
              refine ⟨_, rfl, .inl ⟨(i + 1, insU x m, .hs true b2 g2 0 (m.length + 1), L3.set b2 (.row g2 ((m3.map AV.str).set p (.str x))), []), ⟨by simp only; omega, hnext.symm, .inr ⟨hine, b2, g2, by rw [hilen], hfinal⟩⟩, by simp only; omega, rfl⟩⟩
            · obtain ⟨xs, k1, k2⟩ := hcp _ _ rfl rfl
              rw [if_neg (by omega)] at k2
              rw [if_neg hp0] at k1
              have f8 : (p = 0) = False := eq_false hp0
              simp only [go_sem, Nat.reduceEqDiff, Nat.reduceAdd, Nat.reduceLeDiff, Nat.reduceLT, Nat.add_right_cancel_iff, a1, hpm, hrow, hy1, hy2, hbL, hrow2, hb2, p3, hwp, hw, htr, f1, f2, f3, f4, f5, f6, f7, f8, hz0, k1, k2, hrow3, hz, ds_copy, Int.toNat_natCast, not_false_eq_true, not_true_eq_false, hi, hx', decide_true, decide_false, show ((3 : Nat) = 0) = False from by decide]
              refine ⟨_, rfl, .inl ⟨(i + 1, insU x m, .hs true b2 g2 0 (m.length + 1), L3.set b2 (.row g2 ((m3.map AV.str).set p (.str x))), []), ⟨by simp only; omega, hnext.symm, .inr ⟨hine, b2, g2, by rw [hilen], hfinal⟩⟩, by simp only; omega, rfl⟩⟩
          · have f7 : (p = m.length) = True := eq_true (by omega)
            by_cases hp0 : p = 0
            · obtain ⟨xs, k1, k2⟩ := hcp _ _ rfl rfl
              rw [if_pos (by omega)] at k2
              rw [if_pos hp0] at k1
              have f8 : (p = 0) = True := eq_true hp0
              simp only [go_sem, Nat.reduceEqDiff, Nat.reduceAdd, Nat.reduceLeDiff, Nat.reduceLT, Nat.add_right_cancel_iff, a1, hpm, hrow,  hbL, hrow2, hb2, p3, hwp, hw, htr, f1, f2, f3, f4, f5, f6, f7, f8, hz0, k1, k2, hrow3, hz, ds_copy, Int.toNat_natCast, not_false_eq_true, not_true_eq_false, hi, hx', decide_true, decide_false, show ((3 : Nat) = 0) = False from by decide]
              refine ⟨_, rfl, .inl ⟨(i + 1, insU x m, .hs true b2 g2 0 (m.length + 1), L3.set b2 (.row g2 ((m3.map AV.str).set p (.str x))), []), ⟨by simp only; omega, hnext.symm, .inr ⟨hine, b2, g2, by rw [hilen], hfinal⟩⟩, by simp only; omega, rfl⟩⟩
            · obtain ⟨xs, k1, k2⟩ := hcp _ _ rfl rfl
              rw [if_pos (by omega)] at k2
              rw [if_neg hp0] at k1
              have f8 : (p = 0) = False := eq_false hp0
              simp only [go_sem, Nat.reduceEqDiff, Nat.reduceAdd, Nat.reduceLeDiff, Nat.reduceLT, Nat.add_right_cancel_iff, a1, hpm, hrow,  hbL, hrow2, hb2, p3, hwp, hw, htr, f1, f2, f3, f4, f5, f6, f7, f8, hz0, k1, k2, hrow3, hz, ds_copy, Int.toNat_natCast, not_false_eq_true, not_true_eq_false, hi, hx', decide_true, decide_false, show ((3 : Nat) = 0) = False from by decide]
              refine ⟨_, rfl, .inl ⟨(i + 1, insU x m, .hs true b2 g2 0 (m.length + 1), L3.set b2 (.row g2 ((m3.map AV.str).set p (.str x))), []), ⟨by simp only; omega, hnext.symm, .inr ⟨hine, b2, g2, by rw [hilen], hfinal⟩⟩, by simp only; omega, rfl⟩⟩
    · have e : l.take i = l := List.take_of_length_le (by omega)
      rw [e] at q2
      subst q2
      exact ⟨_, by simp only [go_sem, Nat.reduceEqDiff, hi, decide_false, Nat.reduceAdd, Nat.reduceLeDiff] <;> rfl, .inr ⟨_, rfl, v, L, rfl, q3⟩⟩
  rcases r1 with ⟨e, rfl⟩ | ⟨_, b, g, rfl, hrow⟩
  · rw [e]
    exact ⟨_, by simp only [go_sem, Nat.reduceEqDiff, leave, Tok.drop] <;> rfl⟩
  · have hlv : leave true L' [] (.hs true b g 0 (sortU l).length) = .sl ((sortU l).map .str) .no := by
      have he : elemsOf L' [] (.hs true b g 0 (sortU l).length) = some ((sortU l).map .str) := by
        simp only [elemsOf, hpOf, if_true, hrow, true_and, Nat.zero_add, List.length_map, List.drop_zero]
        rw [if_pos (Nat.le_refl _), List.take_of_length_le (by simp)]
      simp only [leave, Bool.or_true, if_true, he, deep_strs]
    exact ⟨_, by simp only [go_sem, Nat.reduceEqDiff, hlv] <;> rfl⟩
theorem refNames16_call (n : NodeT) (hb : tsz n ≤ 2 ^ 30) (L G : Hp) : callA (cfg Try.prog ann) 28 [nodeA n] L G = some (.val (strsA (Names n)), L, G) := by
  suffices hh : ∃ G', ev Try.prog ann 28 [nodeA n] [] = some (.val (strsA (Names n)), G') by
    obtain ⟨G', h⟩ := hh
    obtain ⟨k, s, l⟩ := n
    refine call_pure rfl rfl ?_ ?_ (G' := G') ?_
    · simp only [nodeA, handAs, handA, pfs, refss, AV.refs, Tok.refs, Tok.drop, if_true, refs_nodes, Bool.and_self]
    · simp only [strsA, AV.pf, AV.refs, Tok.refs, refs_strs', Bool.and_self]
    · simp only [nodeA, handAs, handA, Tok.drop, if_true] at h ⊢
      exact h
  have c1 := refNames_all _ n (Nat.le_refl _) hb
  have c2 := refSort_call (namesF n) (Nat.le_trans (namesF_len n) hb)
  rw [← comp_sortU] at c2
  have hn : ∃ k s l, nodeA n = .agg [.int .i64 k, .str s, .sl l .no] := by obtain ⟨k, s, l⟩ := n; exact ⟨k, s, _, by rw [nodeA]⟩
  obtain ⟨k, s, ln, hn⟩ := hn
  rw [fun_some Try.func28 rfl rfl]
  rw [hn] at c1 ⊢
  unfold Names
  simp only [strsA] at c1 c2 ⊢
  exact ⟨_, by simp only [go_sem, Nat.reduceEqDiff, Nat.reduceAdd, Nat.reduceLeDiff, c1, c2, leave, Tok.drop, show ((3 : Nat) = 0) = False from by decide] <;> rfl⟩
end Ev
