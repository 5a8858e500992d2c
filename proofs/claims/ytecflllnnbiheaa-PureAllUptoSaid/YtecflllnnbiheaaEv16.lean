/- Appends to lists under way: what grows at its end alone. -/
import Derived.Test.YtecflllnnbiheaaEv14
set_option maxHeartbeats 4000000
set_option linter.unusedVariables false
set_option linter.unusedSimpArgs false
namespace Ev
open Go
theorem ofVal_nil : ofVal (.slice none 0 0) = .sl [] .full := id rfl
theorem ofVal_nilm : ofVal (.map none) = .nilm := id rfl
attribute [go_sem] ofVal_nil ofVal_nilm List.set_cons_zero List.set_cons_succ List.length_set listA
/-- an element type that may be appended -/
structure ElK (P : Program) (el : TypeId) : Prop where
  sz : szT P el ≠ 0
  by_ : P.bytesOf el ≠ 0
  zero : (zeroT P el).isNone = false
  zsz : zeroSz P el = szT P el
/-- a list under way in the frame's own heap -/
def Acc (sz : Nat) (l : List AV) (t : Tok) (L : Hp) : Prop := (l = [] ∧ t = .full) ∨ ∃ a, t = .own true a ∧ L[a]? = some (.tok l.length sz)
theorem acc_nil {sz : Nat} {L : Hp} : Acc sz [] .full L := .inl ⟨rfl, rfl⟩
theorem acc_more {sz : Nat} {l : List AV} {t : Tok} {L : Hp} (h : Acc sz l t L) (K : Hp) : Acc sz l t (L ++ K) := by
  rcases h with h | ⟨a, h1, h2⟩
  · exact .inl h
  · exact .inr ⟨a, h1, by rw [List.getElem?_append_left (List.getElem?_eq_some_iff.1 h2).1]; exact h2⟩
theorem acc_set {sz : Nat} {l : List AV} {t : Tok} {L : Hp} (h : Acc sz l t L) {b : Nat} {x y : Blk} (hb : L[b]? = some y) (hy : ∀ n s, y ≠ .tok n s) : Acc sz l t (L.set b x) := by
  rcases h with h | ⟨a, h1, h2⟩
  · exact .inl h
  · refine .inr ⟨a, h1, ?_⟩
    rw [List.getElem?_set_ne]
    · exact h2
    · intro e; subst e; rw [hb] at h2; cases h2; exact hy _ _ rfl
theorem mem_refs {Q : Bool → Nat → Bool} {v : AV} : ∀ {l : List AV}, v ∈ l → v.refs Q = false → refss Q l = false
  | [], h, _ => by cases h
  | u :: l, h, hv => by
    rw [refss]
    rcases List.mem_cons.1 h with rfl | h
    · rw [hv]; rfl
    · rw [mem_refs h hv, Bool.and_false]
theorem trim_own {k a : Nat} {e : Env} {L : Hp} {v : AV} (hm : v ∈ valsE e) (hv : v.bel k = false) : trim k e L = L := by
  unfold trim
  have : bels k (valsE e) = false := mem_refs hm hv
  rw [this]
  simp
theorem acc_trim {sz i : Nat} {l : List AV} {t : Tok} {L : Hp} {e : Env} (h : Acc sz l t L) (hm : (i, AV.sl l t) ∈ e) : Acc sz l t (trim 0 e L) := by
  rcases h with h | ⟨a, rfl, h2⟩
  · exact .inl h
  · refine .inr ⟨a, rfl, ?_⟩
    rw [trim_own (a := 0) (v := .sl l (.own true a)) (List.mem_map.2 ⟨_, hm, rfl⟩) (by simp [AV.bel, AV.refs, Tok.refs])]
    exact h2
theorem app_acc {P : Program} {A : Ann} {f d : Nat} {el : TypeId} (hE : ElK P el) (hr : A.rows f d = false) (hg : A.glob f d = false) {l xs ys : List AV} {t : Tok} {L : Hp} (h : Acc (szT P el) l t L) (hx : handX xs = ys)
    (hlen : ys.length = xs.length) (hok : szOk P el xs = true) (hne : xs ≠ []) (hb : (l.length + xs.length) * P.bytesOf el ≤ mostBytes) :
    ∃ t' L', (∀ G, appendA P A f d el none (.sl l t) xs L G = some (.sl (l ++ ys) t', L', G)) ∧ Acc (szT P el) (l ++ ys) t' L' := by
  have hc : ¬ (szT P el = 0 ∨ P.bytesOf el = 0 ∨ szOk P el xs = false ∨ (lenS (.sl l t) + xs.length) * P.bytesOf el > mostBytes ∨ (zeroT P el).isNone = true ∨ zeroSz P el ≠ szT P el) := by
    simp only [lenS, not_or, hE.sz, hE.by_, hok, hE.zero, hE.zsz, not_false_eq_true, true_and, Bool.true_eq_false, Bool.false_eq_true, ne_eq, not_true_eq_false, and_true]
    omega
  have hy0 : ¬ ys.length = 0 := by rw [hlen]; intro e; exact hne (List.length_eq_zero_iff.1 e)
  rcases h with ⟨rfl, rfl⟩ | ⟨a, rfl, h2⟩
  · refine ⟨_, L ++ [.tok (0 + ys.length) (szT P el)], fun G => ?_, .inr ⟨L.length, rfl, ?_⟩⟩
    · unfold appendA
      simp only
      rw [if_neg hc, hx, if_neg hy0]
      simp only [szOk, hr, hg, Bool.false_eq_true, if_false, Bool.not_false, newBlk, if_true, newL, Bool.true_eq_false, List.length_nil]
    · simp
  · refine ⟨_, L.set a (.tok (l.length + ys.length) (szT P el)), fun G => ?_, .inr ⟨a, rfl, ?_⟩⟩
    · unfold appendA
      simp only
      rw [if_neg hc, hx, if_neg hy0]
      simp only [hpOf, if_true, h2, and_self, setHp]
    · rw [List.getElem?_set, if_pos rfl, if_pos (List.getElem?_eq_some_iff.1 h2).1, List.length_append]
/-- a list under way in the heap that callees see: begun -/
theorem app_row0 {P : Program} {A : Ann} {f d : Nat} {el : TypeId} {sl : Option Nat} (hE : ElK P el) (hr : A.rows f d = true) (hg : A.glob f d = true) {xs ys : List AV} {L G : Hp} (hx : handX xs = ys)
    (hlen : ys.length = xs.length) (hok : szOk P el xs = true) (hne : xs ≠ []) (hno : noLs ys = true) (hb : xs.length * P.bytesOf el ≤ mostBytes) :
    appendA P A f d el sl (.sl [] .full) xs L G = some (.hs false G.length 0 0 ys.length, L, G ++ [.row 0 ys]) := by
  have hc : ¬ (szT P el = 0 ∨ P.bytesOf el = 0 ∨ szOk P el xs = false ∨ (lenS (.sl [] .full) + xs.length) * P.bytesOf el > mostBytes ∨ (zeroT P el).isNone = true ∨ zeroSz P el ≠ szT P el) := by
    simp only [lenS, not_or, hE.sz, hE.by_, hok, hE.zero, hE.zsz, not_false_eq_true, true_and, Bool.true_eq_false, Bool.false_eq_true, ne_eq, not_true_eq_false, and_true, List.length_nil, Nat.zero_add]
    omega
  have hy0 : ¬ ys.length = 0 := by rw [hlen]; intro e; exact hne (List.length_eq_zero_iff.1 e)
  unfold appendA
  simp only
  rw [if_neg hc, hx, if_neg hy0]
  simp only [szOk, hr, hg, Bool.true_eq_false, if_false, if_true, Bool.not_true, newBlk, Bool.false_eq_true, false_or, List.nil_append, hno, List.length_nil, Nat.zero_add]
/-- .. and gone on with -/
theorem app_row1 {P : Program} {A : Ann} {f d : Nat} {el : TypeId} {sl : Option Nat} (hE : ElK P el) {b g : Nat} {es xs ys : List AV} {L G : Hp} (hG : G[b]? = some (.row g es)) (hes : es ≠ []) (hoe : szOk P el es = true) (hx : handX xs = ys)
    (hlen : ys.length = xs.length) (hok : szOk P el xs = true) (hne : xs ≠ []) (hno : noLs ys = true) (hb : (es.length + xs.length) * P.bytesOf el ≤ mostBytes) :
    appendA P A f d el sl (.hs false b g 0 es.length) xs L G = some (.hs false b (g + 1) 0 (es.length + ys.length), L, G.set b (.row (g + 1) (es ++ ys))) := by
  have hc : ¬ (szT P el = 0 ∨ P.bytesOf el = 0 ∨ szOk P el xs = false ∨ (lenS (.hs false b g 0 es.length) + xs.length) * P.bytesOf el > mostBytes ∨ (zeroT P el).isNone = true ∨ zeroSz P el ≠ szT P el) := by
    simp only [lenS, not_or, hE.sz, hE.by_, hok, hE.zero, hE.zsz, not_false_eq_true, true_and, Bool.true_eq_false, Bool.false_eq_true, ne_eq, not_true_eq_false, and_true]
    omega
  have hy0 : ¬ ys.length = 0 := by rw [hlen]; intro e; exact hne (List.length_eq_zero_iff.1 e)
  have he : es.isEmpty = false := by cases es <;> simp_all
  unfold appendA
  simp only
  rw [if_neg hc, hx]
  simp only [hpOf, Bool.false_eq_true, if_false, hG, ne_eq, not_true_eq_false, he, hoe, Bool.true_eq_false, hno, and_false, or_self, if_false]
  rw [if_neg (by omega), if_pos ⟨trivial, trivial⟩]
  simp only [setHp, Bool.false_eq_true, if_false]
end Ev
