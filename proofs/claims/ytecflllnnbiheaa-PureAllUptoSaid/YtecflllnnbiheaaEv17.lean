/- Lists under way above a place of the frame's own heap; rows gone on with. -/
import Derived.Test.YtecflllnnbiheaaEv16
set_option maxHeartbeats 4000000
set_option linter.unusedVariables false
set_option linter.unusedSimpArgs false
namespace Ev
open Go
def AccK (k sz : Nat) (l : List AV) (t : Tok) (L : Hp) : Prop := k ≤ L.length ∧ ((l = [] ∧ t = .full) ∨ ∃ a, k ≤ a ∧ t = .own true a ∧ L[a]? = some (.tok l.length sz))
theorem acck_nil {k sz : Nat} {L : Hp} (h : k ≤ L.length) : AccK k sz [] .full L := ⟨h, .inl ⟨rfl, rfl⟩⟩
theorem acck_more {k sz : Nat} {l : List AV} {t : Tok} {L : Hp} (h : AccK k sz l t L) (K : Hp) : AccK k sz l t (L ++ K) := by
  obtain ⟨h0, h⟩ := h
  refine ⟨by rw [List.length_append]; omega, ?_⟩
  rcases h with h | ⟨a, ha, h1, h2⟩
  · exact .inl h
  · exact .inr ⟨a, ha, h1, by rw [List.getElem?_append_left (List.getElem?_eq_some_iff.1 h2).1]; exact h2⟩
theorem trim_low {k i : Nat} {e : Env} {L : Hp} (hi : i < k) : (trim k e L)[i]? = L[i]? := by
  unfold trim
  split
  · rfl
  · split
    · rw [List.getElem?_take, if_pos hi]
    · rfl
theorem trim_len {k : Nat} {e : Env} {L : Hp} (h : k ≤ L.length) : k ≤ (trim k e L).length := by
  unfold trim
  split
  · exact h
  · split
    · rw [List.length_take]; omega
    · exact h
theorem acck_trim {k sz i : Nat} {l : List AV} {t : Tok} {L : Hp} {e : Env} (h : AccK k sz l t L) (hm : (i, AV.sl l t) ∈ e) : AccK k sz l t (trim k e L) := by
  obtain ⟨h0, h⟩ := h
  refine ⟨trim_len h0, ?_⟩
  rcases h with h | ⟨a, ha, rfl, h2⟩
  · exact .inl h
  · refine .inr ⟨a, ha, rfl, ?_⟩
    rw [trim_own (a := 0) (v := .sl l (.own true a)) (List.mem_map.2 ⟨_, hm, rfl⟩) (by simp [AV.bel, AV.refs, Tok.refs]; omega)]
    exact h2
theorem app_acck {P : Program} {A : Ann} {f d k : Nat} {el : TypeId} (hE : ElK P el) (hr : A.rows f d = false) (hg : A.glob f d = false) {l xs ys : List AV} {t : Tok} {L : Hp} (h : AccK k (szT P el) l t L) (hx : handX xs = ys)
    (hlen : ys.length = xs.length) (hok : szOk P el xs = true) (hne : xs ≠ []) (hb : (l.length + xs.length) * P.bytesOf el ≤ mostBytes) :
    ∃ t' L', (∀ G, appendA P A f d el none (.sl l t) xs L G = some (.sl (l ++ ys) t', L', G)) ∧ AccK k (szT P el) (l ++ ys) t' L' ∧ (∀ i, i < k → L'[i]? = L[i]?) := by
  have hc : ¬ (szT P el = 0 ∨ P.bytesOf el = 0 ∨ szOk P el xs = false ∨ (lenS (.sl l t) + xs.length) * P.bytesOf el > mostBytes ∨ (zeroT P el).isNone = true ∨ zeroSz P el ≠ szT P el) := by
    simp only [lenS, not_or, hE.sz, hE.by_, hok, hE.zero, hE.zsz, not_false_eq_true, true_and, Bool.true_eq_false, Bool.false_eq_true, ne_eq, not_true_eq_false, and_true]
    omega
  have hy0 : ¬ ys.length = 0 := by rw [hlen]; intro e; exact hne (List.length_eq_zero_iff.1 e)
  obtain ⟨h0, h⟩ := h
  rcases h with ⟨rfl, rfl⟩ | ⟨a, ha, rfl, h2⟩
  · refine ⟨_, L ++ [.tok (0 + ys.length) (szT P el)], fun G => ?_, ⟨by simp; omega, .inr ⟨L.length, h0, rfl, ?_⟩⟩, fun i hi => ?_⟩
    · unfold appendA
      simp only
      rw [if_neg hc, hx, if_neg hy0]
      simp only [szOk, hr, hg, Bool.false_eq_true, if_false, Bool.not_false, newBlk, if_true, newL, Bool.true_eq_false, List.length_nil]
    · simp
    · rw [List.getElem?_append_left (by omega)]
  · refine ⟨_, L.set a (.tok (l.length + ys.length) (szT P el)), fun G => ?_, ⟨by simpa using h0, .inr ⟨a, ha, rfl, ?_⟩⟩, fun i hi => ?_⟩
    · unfold appendA
      simp only
      rw [if_neg hc, hx, if_neg hy0]
      simp only [hpOf, if_true, h2, and_self, setHp]
    · rw [List.getElem?_set, if_pos rfl, if_pos (List.getElem?_eq_some_iff.1 h2).1, List.length_append]
    · rw [List.getElem?_set_ne (by omega)]
/-- the same in the heap that callees see -/
theorem app_gtok0 {P : Program} {A : Ann} {f d : Nat} {el : TypeId} {sl : Option Nat} (hE : ElK P el) (hr : A.rows f d = false) (hg : A.glob f d = true) {xs ys : List AV} {L G : Hp} (hx : handX xs = ys)
    (hlen : ys.length = xs.length) (hok : szOk P el xs = true) (hne : xs ≠ []) (hb : xs.length * P.bytesOf el ≤ mostBytes) :
    appendA P A f d el sl (.sl [] .full) xs L G = some (.sl ys (.own false G.length), L, G ++ [.tok ys.length (szT P el)]) := by
  have hc : ¬ (szT P el = 0 ∨ P.bytesOf el = 0 ∨ szOk P el xs = false ∨ (lenS (.sl [] .full) + xs.length) * P.bytesOf el > mostBytes ∨ (zeroT P el).isNone = true ∨ zeroSz P el ≠ szT P el) := by
    simp only [lenS, not_or, hE.sz, hE.by_, hok, hE.zero, hE.zsz, not_false_eq_true, true_and, Bool.true_eq_false, Bool.false_eq_true, ne_eq, not_true_eq_false, and_true, List.length_nil, Nat.zero_add]
    omega
  have hy0 : ¬ ys.length = 0 := by rw [hlen]; intro e; exact hne (List.length_eq_zero_iff.1 e)
  unfold appendA
  simp only
  rw [if_neg hc, hx, if_neg hy0]
  simp only [szOk, hr, hg, Bool.true_eq_false, if_false, Bool.not_true, newBlk, Bool.false_eq_true, List.nil_append, List.length_nil, Nat.zero_add]
theorem app_gtok1 {P : Program} {A : Ann} {f d : Nat} {el : TypeId} {sl : Option Nat} (hE : ElK P el) {a : Nat} {es xs ys : List AV} {L G : Hp} (hG : G[a]? = some (.tok es.length (szT P el))) (hx : handX xs = ys)
    (hlen : ys.length = xs.length) (hok : szOk P el xs = true) (hne : xs ≠ []) (hb : (es.length + xs.length) * P.bytesOf el ≤ mostBytes) :
    appendA P A f d el sl (.sl es (.own false a)) xs L G = some (.sl (es ++ ys) (.own false a), L, G.set a (.tok (es.length + ys.length) (szT P el))) := by
  have hc : ¬ (szT P el = 0 ∨ P.bytesOf el = 0 ∨ szOk P el xs = false ∨ (lenS (.sl es (.own false a)) + xs.length) * P.bytesOf el > mostBytes ∨ (zeroT P el).isNone = true ∨ zeroSz P el ≠ szT P el) := by
    simp only [lenS, not_or, hE.sz, hE.by_, hok, hE.zero, hE.zsz, not_false_eq_true, true_and, Bool.true_eq_false, Bool.false_eq_true, ne_eq, not_true_eq_false, and_true]
    omega
  have hy0 : ¬ ys.length = 0 := by rw [hlen]; intro e; exact hne (List.length_eq_zero_iff.1 e)
  unfold appendA
  simp only
  rw [if_neg hc, hx, if_neg hy0]
  simp only [hpOf, Bool.false_eq_true, if_false, hG, and_self, if_true, setHp]
theorem app_ltok0 {P : Program} {A : Ann} {f d : Nat} {el : TypeId} (hE : ElK P el) (hr : A.rows f d = false) (hg : A.glob f d = false) {xs ys : List AV} {L G : Hp} (hx : handX xs = ys)
    (hlen : ys.length = xs.length) (hok : szOk P el xs = true) (hne : xs ≠ []) (hb : xs.length * P.bytesOf el ≤ mostBytes) :
    appendA P A f d el none (.sl [] .full) xs L G = some (.sl ys (.own true L.length), L ++ [.tok ys.length (szT P el)], G) := by
  have hc : ¬ (szT P el = 0 ∨ P.bytesOf el = 0 ∨ szOk P el xs = false ∨ (lenS (.sl [] .full) + xs.length) * P.bytesOf el > mostBytes ∨ (zeroT P el).isNone = true ∨ zeroSz P el ≠ szT P el) := by
    simp only [lenS, not_or, hE.sz, hE.by_, hok, hE.zero, hE.zsz, not_false_eq_true, true_and, Bool.true_eq_false, Bool.false_eq_true, ne_eq, not_true_eq_false, and_true, List.length_nil, Nat.zero_add]
    omega
  have hy0 : ¬ ys.length = 0 := by rw [hlen]; intro e; exact hne (List.length_eq_zero_iff.1 e)
  unfold appendA
  simp only
  rw [if_neg hc, hx, if_neg hy0]
  simp only [szOk, hr, hg, Bool.true_eq_false, if_false, Bool.not_false, newBlk, newL, if_true, Bool.false_eq_true, List.nil_append, List.length_nil, Nat.zero_add]
theorem app_ltok1 {P : Program} {A : Ann} {f d : Nat} {el : TypeId} (hE : ElK P el) {a : Nat} {es xs ys : List AV} {L G : Hp} (hG : L[a]? = some (.tok es.length (szT P el))) (hx : handX xs = ys)
    (hlen : ys.length = xs.length) (hok : szOk P el xs = true) (hne : xs ≠ []) (hb : (es.length + xs.length) * P.bytesOf el ≤ mostBytes) :
    appendA P A f d el none (.sl es (.own true a)) xs L G = some (.sl (es ++ ys) (.own true a), L.set a (.tok (es.length + ys.length) (szT P el)), G) := by
  have hc : ¬ (szT P el = 0 ∨ P.bytesOf el = 0 ∨ szOk P el xs = false ∨ (lenS (.sl es (.own true a)) + xs.length) * P.bytesOf el > mostBytes ∨ (zeroT P el).isNone = true ∨ zeroSz P el ≠ szT P el) := by
    simp only [lenS, not_or, hE.sz, hE.by_, hok, hE.zero, hE.zsz, not_false_eq_true, true_and, Bool.true_eq_false, Bool.false_eq_true, ne_eq, not_true_eq_false, and_true]
    omega
  have hy0 : ¬ ys.length = 0 := by rw [hlen]; intro e; exact hne (List.length_eq_zero_iff.1 e)
  unfold appendA
  simp only
  rw [if_neg hc, hx, if_neg hy0]
  simp only [hpOf, if_true, hG, and_self, setHp]
theorem trim_blk {k : Nat} {e : Env} {L : Hp} (h : (L.take k).all (Blk.bel k) = false) : trim k e L = L := by
  unfold trim
  rw [h]
  simp
theorem op_makeSlice {C : Cfg} {f : Nat} {sl : Option Nat} {e : Env} {L G : Hp} {d : Option Tmp} {ty : TypeId} {pos : String} {aft : Array Edge} {g : Option (Nat × Bool)} {t : TypeId} {n c : Operand} {a : Int} (hn : opd e n = .int .i64 a) (hc : opd e c = .int .i64 a) (h0 : 0 < a) (h1 : a < 2 ^ 20) {el : TypeId} {z : AV} (hel : elemT C.P t = some el) (hz : zeroT C.P el = some z)
    (hby : C.P.bytesOf el ≤ 2 ^ 10) (hsz : zeroSz C.P el = szT C.P el) (hfl : z.flat = true) (hno : z.noL = true) :
    evOp C f sl ⟨d, .makeSlice t n c, ty, pos, aft, g⟩ e L G = some (.val (.hs (!C.A.glob f (d.getD 0)) (newBlk (!C.A.glob f (d.getD 0)) sl (.row 0 (List.replicate a.toNat z)) L G).1 0 0 a.toNat), (newBlk (!C.A.glob f (d.getD 0)) sl (.row 0 (List.replicate a.toNat z)) L G).2.1, (newBlk (!C.A.glob f (d.getD 0)) sl (.row 0 (List.replicate a.toNat z)) L G).2.2) := by
  have hm : a * (C.P.bytesOf el : Int) ≤ (mostBytes : Int) := by
    have h2 : a * (C.P.bytesOf el : Int) ≤ 2 ^ 20 * (C.P.bytesOf el : Int) := Int.mul_le_mul_of_nonneg_right (by omega) (by omega)
    simp only [mostBytes]
    omega
  simp only [evOp, calleeOf, evOp0, hel, hz, Option.bind_some, hn, hc]
  rw [if_pos ⟨trivial, by omega, hm, by omega, hsz, hfl, hno⟩, if_neg (by omega)]
end Ev
