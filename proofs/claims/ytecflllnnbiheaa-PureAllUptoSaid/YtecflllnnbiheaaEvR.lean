/- Lists under way beside rows: appended to, by none too; through loops. Lists of texts in the heap that callees see. -/
import Derived.Test.YtecflllnnbiheaaEv17
import Derived.Test.YtecflllnnbiheaaEvO
set_option maxHeartbeats 4000000
set_option linter.unusedVariables false
set_option linter.unusedSimpArgs false
namespace Ev
open Go
/-- rows stay -/
def RowsKept (L L' : Hp) : Prop := L.length ≤ L'.length ∧ ∀ (i g : Nat) (es : List AV), L[i]? = some (Blk.row g es) → L'[i]? = some (Blk.row g es)
theorem RowsKept.refl (L : Hp) : RowsKept L L := ⟨Nat.le_refl _, fun _ _ _ h => h⟩
theorem RowsKept.trans {A B C : Hp} (h : RowsKept A B) (k : RowsKept B C) : RowsKept A C := ⟨Nat.le_trans h.1 k.1, fun i g es e => k.2 i g es (h.2 i g es e)⟩
theorem app_lst {P : Program} {A : Ann} {f d : Nat} {el : TypeId} (hE : ElK P el) (hr : A.rows f d = false) (hg : A.glob f d = false) {l xs ys : List AV} {t : Tok} {L : Hp} (h : Acc (szT P el) l t L) (hx : handX xs = ys)
    (hlen : ys.length = xs.length) (hok : szOk P el xs = true) (hb : (l.length + xs.length) * P.bytesOf el ≤ mostBytes) :
    ∃ t' L', (∀ G, appendA P A f d el none (.sl l t) xs L G = some (.sl (l ++ ys) t', L', G)) ∧ Acc (szT P el) (l ++ ys) t' L' ∧ RowsKept L L' := by
  have hc : ¬ (szT P el = 0 ∨ P.bytesOf el = 0 ∨ szOk P el xs = false ∨ (lenS (.sl l t) + xs.length) * P.bytesOf el > mostBytes ∨ (zeroT P el).isNone = true ∨ zeroSz P el ≠ szT P el) := by
    simp only [lenS, not_or, hE.sz, hE.by_, hok, hE.zero, hE.zsz, not_false_eq_true, true_and, Bool.true_eq_false, Bool.false_eq_true, ne_eq, not_true_eq_false, and_true]
    omega
  by_cases hne : xs = []
  · subst hne
    have hy : ys = [] := List.eq_nil_of_length_eq_zero hlen
    subst hy
    refine ⟨t, L, fun G => ?_, by simpa using h, .refl L⟩
    unfold appendA
    simp only
    rw [if_neg hc, hx]
    simp
  have hy0 : ¬ ys.length = 0 := by rw [hlen]; intro e; exact hne (List.length_eq_zero_iff.1 e)
  rcases h with ⟨rfl, rfl⟩ | ⟨a, rfl, h2⟩
  · refine ⟨_, L ++ [.tok (0 + ys.length) (szT P el)], fun G => ?_, .inr ⟨L.length, rfl, ?_⟩, by simp, fun i g es e => ?_⟩
    · unfold appendA
      simp only
      rw [if_neg hc, hx, if_neg hy0]
      simp only [szOk, hr, hg, Bool.false_eq_true, if_false, Bool.not_false, newBlk, if_true, newL, Bool.true_eq_false, List.length_nil]
    · simp
    · rw [List.getElem?_append_left (List.getElem?_eq_some_iff.1 e).1]; exact e
  · refine ⟨_, L.set a (.tok (l.length + ys.length) (szT P el)), fun G => ?_, .inr ⟨a, rfl, ?_⟩, by simp, fun i g es e => ?_⟩
    · unfold appendA
      simp only
      rw [if_neg hc, hx, if_neg hy0]
      simp only [hpOf, if_true, h2, and_self, setHp]
    · rw [List.getElem?_set, if_pos rfl, if_pos (List.getElem?_eq_some_iff.1 h2).1, List.length_append]
    · rw [List.getElem?_set_ne]
      · exact e
      · intro ei; subst ei; rw [h2] at e; cases e
theorem acc_trimk {k sz i : Nat} {l : List AV} {t : Tok} {L : Hp} {e : Env} (h : Acc sz l t L) (hm : (i, AV.sl l t) ∈ e) : Acc sz l t (trim k e L) := by
  rcases h with h | ⟨a, rfl, h2⟩
  · exact .inl h
  · refine .inr ⟨a, rfl, ?_⟩
    by_cases ha : a < k
    · rw [trim_low ha]; exact h2
    · rw [trim_own (a := 0) (v := .sl l (.own true a)) (List.mem_map.2 ⟨_, hm, rfl⟩) (by simp [AV.bel, AV.refs, Tok.refs]; omega)]
      exact h2
theorem trim_rowk {k i g : Nat} {es : List AV} {L : Hp} {e : Env} (hi : i < k) (h : L[i]? = some (.row g es)) : (trim k e L)[i]? = some (.row g es) := by rw [trim_low hi]; exact h
theorem acc_row {sz : Nat} {l : List AV} {t : Tok} {L : Hp} (h : Acc sz l t L) (x : Blk) : Acc sz l t (L ++ [x]) := acc_more h [x]

/-! ### lists of texts in the heap that callees see -/
/-- a list of texts in the heap that callees see, from a block on -/
def RowList (G : Hp) (lo : Nat) (v : AV) (l : List (List UInt8)) : Prop :=
  (l = [] ∧ v = .sl [] .full) ∨ (l ≠ [] ∧ ∃ b g, lo ≤ b ∧ v = .hs false b g 0 l.length ∧ G[b]? = some (.row g (l.map .str)))
/-- the first blocks stay -/
def LowKept (lo : Nat) (G G' : Hp) : Prop := G.length ≤ G'.length ∧ ∀ i, i < lo → G'[i]? = G[i]?
theorem LowKept.refl (lo : Nat) (G : Hp) : LowKept lo G G := ⟨Nat.le_refl _, fun _ _ => rfl⟩
theorem LowKept.trans {lo : Nat} {A B C : Hp} (h : LowKept lo A B) (k : LowKept lo B C) : LowKept lo A C := ⟨Nat.le_trans h.1 k.1, fun i hi => (k.2 i hi).trans (h.2 i hi)⟩
theorem LowKept.le {lo lo' : Nat} {G G' : Hp} (h : LowKept lo G G') (hl : lo' ≤ lo) : LowKept lo' G G' := ⟨h.1, fun i hi => h.2 i (by omega)⟩
theorem RowList.kept {G G' : Hp} {lo n : Nat} {v : AV} {l : List (List UInt8)} (h : RowList G lo v l) (k : LowKept n G G') (hn : G.length ≤ n) : RowList G' lo v l := by
  rcases h with h | ⟨h0, b, g, h1, h2, h3⟩
  · exact .inl h
  · exact .inr ⟨h0, b, g, h1, h2, by rw [k.2 b (by have := (List.getElem?_eq_some_iff.1 h3).1; omega)]; exact h3⟩
theorem RowList.noL {G : Hp} {lo : Nat} {v : AV} {l : List (List UInt8)} (h : RowList G lo v l) : v.noL = true ∧ handA false v = v := by
  rcases h with ⟨_, rfl⟩ | ⟨_, b, g, _, rfl, _⟩ <;> exact ⟨rfl, rfl⟩
theorem RowList.elems {G L : Hp} {lo : Nat} {v : AV} {l : List (List UInt8)} (h : RowList G lo v l) : elemsOf L G v = some (l.map .str) := by
  rcases h with ⟨rfl, rfl⟩ | ⟨_, b, g, _, rfl, h3⟩
  · rfl
  · simp only [elemsOf, hpOf, Bool.false_eq_true, if_false, h3, true_and, Nat.zero_add, List.length_map, Nat.le_refl, if_true, List.drop_zero]
    rw [List.take_of_length_le (by simp)]
theorem refs_strs' {Q : Bool → Nat → Bool} : ∀ (l : List (List UInt8)), refss Q (l.map .str) = true
  | [] => rfl
  | x :: l => by simp only [List.map_cons, refss, AV.refs, refs_strs' l, Bool.and_self]
theorem handX_strs (l : List (List UInt8)) : handX (l.map AV.str) = l.map .str := handX_map _ (fun _ => rfl) l
/-- texts put behind such a list -/
theorem app_rowList {P : Program} {A : Ann} {f d : Nat} {el : TypeId} {sl : Option Nat} (hE : ElK P el) (hsz : szT P el = 1) (hr : A.rows f d = true) (hg : A.glob f d = true) {G : Hp} {lo : Nat} {v : AV} {l ms : List (List UInt8)} (h : RowList G lo v l)
    (hlo : lo ≤ G.length) (hb : (l.length + ms.length) * P.bytesOf el ≤ mostBytes) :
    ∃ v' G', (∀ L, appendA P A f d el sl v (ms.map .str) L G = some (v', L, G')) ∧ RowList G' lo v' (l ++ ms) ∧ LowKept lo G G' := by
  have hok : ∀ m : List (List UInt8), szOk P el (m.map .str) = true := fun m => by
    cases m with
    | nil => rfl
    | cons x m => rw [List.map_cons]; simp only [szOk, AV.cells, hsz]; rfl
  have hX := handX_strs ms
  by_cases hm : ms = []
  · subst hm
    rcases h with ⟨rfl, rfl⟩ | ⟨h0, b, g, h1, rfl, h3⟩
    · refine ⟨_, G, fun L => ?_, .inl ⟨rfl, rfl⟩, .refl _ _⟩
      have hc : ¬ (szT P el = 0 ∨ P.bytesOf el = 0 ∨ szOk P el [] = false ∨ (lenS (.sl [] .full) + ([] : List AV).length) * P.bytesOf el > mostBytes ∨ (zeroT P el).isNone = true ∨ zeroSz P el ≠ szT P el) := by
        simp only [lenS, not_or, hE.sz, hE.by_, szOk, hE.zero, hE.zsz, not_false_eq_true, true_and, Bool.true_eq_false, Bool.false_eq_true, ne_eq, not_true_eq_false, and_true, List.length_nil, Nat.add_zero]
        omega
      unfold appendA
      simp only [List.map_nil]
      rw [if_neg hc]
      rfl
    · refine ⟨.hs false b g 0 l.length, G.set b (.row g (l.map .str)), fun L => ?_, .inr ⟨by simpa using h0, b, g, h1, by simp, by simp [(List.getElem?_eq_some_iff.1 h3).1]⟩, by simp, fun i hi => by rw [List.getElem?_set_ne (by omega)]⟩
      have hc : ¬ (szT P el = 0 ∨ P.bytesOf el = 0 ∨ szOk P el [] = false ∨ (lenS (.hs false b g 0 l.length) + ([] : List AV).length) * P.bytesOf el > mostBytes ∨ (zeroT P el).isNone = true ∨ zeroSz P el ≠ szT P el) := by
        simp only [lenS, not_or, hE.sz, hE.by_, szOk, hE.zero, hE.zsz, not_false_eq_true, true_and, Bool.true_eq_false, Bool.false_eq_true, ne_eq, not_true_eq_false, and_true, List.length_nil, Nat.add_zero] at hb ⊢
        omega
      have he : (l.map AV.str).isEmpty = false := by cases l with | nil => exact absurd rfl h0 | cons => rfl
      unfold appendA
      simp only [List.map_nil]
      rw [if_neg hc]
      simp only [hpOf, Bool.false_eq_true, if_false, h3, ne_eq, not_true_eq_false, he, hok, Bool.true_eq_false, false_or, Bool.and_false, setHp, handX, handAs, noLs, refss, and_false, List.length_nil, Nat.zero_add, Nat.add_zero, List.length_map, Nat.le_refl, if_true]
      rw [List.take_of_length_le (by simp), List.drop_of_length_le (by simp)]
      simp
  · have hne : ms.map AV.str ≠ [] := by simpa using hm
    rcases h with ⟨rfl, rfl⟩ | ⟨h0, b, g, h1, rfl, h3⟩
    · refine ⟨.hs false G.length 0 0 ms.length, G ++ [.row 0 (ms.map .str)], fun L => by simpa using app_row0 hE hr hg hX rfl (hok ms) hne (refs_strs' ms) (by simpa using hb), .inr ⟨by simpa using hm, G.length, 0, hlo, by simp, by simp⟩, by simp, fun i hi => by rw [List.getElem?_append_left (by omega)]⟩
    · refine ⟨.hs false b (g + 1) 0 (l.length + ms.length), G.set b (.row (g + 1) (l.map .str ++ ms.map .str)), fun L => ?_, .inr ⟨by simp [h0], b, g + 1, h1, by simp, by rw [List.getElem?_set, if_pos rfl, if_pos (List.getElem?_eq_some_iff.1 h3).1, List.map_append]⟩, by simp, fun i hi => by rw [List.getElem?_set_ne (by omega)]⟩
      have := app_row1 (P := P) (A := A) (f := f) (d := d) (el := el) (sl := sl) hE h3 (by simpa using h0) (hok l) hX rfl (hok ms) hne (refs_strs' ms) (by simpa using hb) (L := L)
      simpa using this
end Ev
namespace Ev
open Go
/-! ### lists of texts in rows of the frame's own heap -/
def LRow (L : Hp) (v : AV) (l : List (List UInt8)) : Prop :=
  (l = [] ∧ v = .sl [] .full) ∨ (l ≠ [] ∧ ∃ b g, v = .hs true b g 0 l.length ∧ L[b]? = some (.row g (l.map .str)))
theorem szOk_strs {P : Program} {el : TypeId} (hsz : szT P el = 1) (m : List (List UInt8)) : szOk P el (m.map .str) = true := by
  cases m with
  | nil => rfl
  | cons x m => rw [List.map_cons]; simp only [szOk, AV.cells, hsz]; rfl
theorem app_lRow {P : Program} {A : Ann} {f d : Nat} {el : TypeId} (hE : ElK P el) (hsz : szT P el = 1) (hr : A.rows f d = true) (hg : A.glob f d = false) {L : Hp} {v : AV} {l ms : List (List UInt8)} (h : LRow L v l) (hm : ms ≠ [])
    (hb : (l.length + ms.length) * P.bytesOf el ≤ mostBytes) :
    ∃ b g L', (∀ G, appendA P A f d el none v (ms.map .str) L G = some (.hs true b g 0 (l.length + ms.length), L', G)) ∧ L'[b]? = some (.row g ((l ++ ms).map .str)) := by
  have hX := handX_strs ms
  have hne : ms.map AV.str ≠ [] := by simpa using hm
  have hok := szOk_strs hsz ms
  have hlen0 : ¬ (ms.map AV.str).length = 0 := by simpa using hm
  rcases h with ⟨rfl, rfl⟩ | ⟨h0, b, g, rfl, h3⟩
  · refine ⟨L.length, 0, L ++ [.row 0 (ms.map .str)], fun G => ?_, by simp⟩
    have hc : ¬ (szT P el = 0 ∨ P.bytesOf el = 0 ∨ szOk P el (ms.map .str) = false ∨ (lenS (.sl [] .full) + (ms.map AV.str).length) * P.bytesOf el > mostBytes ∨ (zeroT P el).isNone = true ∨ zeroSz P el ≠ szT P el) := by
      simp only [lenS, not_or, hE.sz, hE.by_, hok, hE.zero, hE.zsz, not_false_eq_true, true_and, Bool.true_eq_false, Bool.false_eq_true, ne_eq, not_true_eq_false, and_true, List.length_nil, Nat.zero_add, List.length_map] at hb ⊢
      omega
    unfold appendA
    simp only
    rw [if_neg hc, hX, if_neg hlen0]
    simp only [szOk, hr, hg, Bool.true_eq_false, if_false, Bool.not_false, newBlk, newL, if_true, Bool.false_eq_true, List.nil_append, List.length_nil, Nat.zero_add, true_or, List.length_map]
  · refine ⟨b, g + 1, L.set b (.row (g + 1) (l.map .str ++ ms.map .str)), fun G => ?_, by rw [List.getElem?_set, if_pos rfl, if_pos (List.getElem?_eq_some_iff.1 h3).1, List.map_append]⟩
    have hc : ¬ (szT P el = 0 ∨ P.bytesOf el = 0 ∨ szOk P el (ms.map .str) = false ∨ (lenS (.hs true b g 0 l.length) + (ms.map AV.str).length) * P.bytesOf el > mostBytes ∨ (zeroT P el).isNone = true ∨ zeroSz P el ≠ szT P el) := by
      simp only [lenS, not_or, hE.sz, hE.by_, hok, hE.zero, hE.zsz, not_false_eq_true, true_and, Bool.true_eq_false, Bool.false_eq_true, ne_eq, not_true_eq_false, and_true, List.length_map]
      omega
    have he : (l.map AV.str).isEmpty = false := by cases l with | nil => exact absurd rfl h0 | cons => rfl
    have hml : 0 < ms.length := List.length_pos_iff.2 hm
    unfold appendA
    simp only
    rw [if_neg hc, hX]
    simp only [hpOf, if_true, h3, ne_eq, not_true_eq_false, he, szOk_strs hsz l, Bool.false_eq_true, Bool.true_eq_false, false_or, false_and, if_false, Nat.zero_add, setHp, List.length_map, and_self]
    rw [if_neg (by omega)]
theorem trim_hs {k b g o n : Nat} {i : Nat} {e : Env} {L : Hp} (hm : (i, AV.hs true b g o n) ∈ e) (hb : k ≤ b) : trim k e L = L :=
  trim_own (a := 0) (v := .hs true b g o n) (List.mem_map.2 ⟨_, hm, rfl⟩) (by simp [AV.bel, AV.refs]; omega)
end Ev
