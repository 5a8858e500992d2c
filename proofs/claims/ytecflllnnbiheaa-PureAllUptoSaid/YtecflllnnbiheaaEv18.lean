/- The evaluator with fuel: what is worked out by computation alone. -/
import Derived.Test.YtecflllnnbiheaaEv17
set_option maxHeartbeats 4000000
set_option linter.unusedVariables false
set_option linter.unusedSimpArgs false
namespace Ev
open Go
def evCodeF (C : Cfg) (f n : Nat) : Code → Env → Hp → Hp → Option Out
  | .skip, e, L, G => some (.nor, e, L, G)
  | .label _, e, L, G => some (.nor, e, L, G)
  | .region id ops draw, e, L, G => evReg C f id ops draw e L G
  | .seq a b, e, L, G => seqA (evCodeF C f n a e L G) (evCodeF C f n b)
  | .cond c a b, e, L, G => condA (opd e c) (evCodeF C f n a e L G) (evCodeF C f n b e L G)
  | .block id a, e, L, G => blockA id (evCodeF C f n a e L G)
  | .loop a, e, L, G => loopN (C.A.keep f) L.length (evCodeF C f n a) n (killE (C.A.keep f) e) L G
  | .exit id, e, L, G => liveA (C.A.exits f id) (some (.exit id, e, L, G))
  | .ret, e, L, G => some (.ret, e, L, G)
  | _, _, _, _ => none
theorem codeF_sub {C : Cfg} {f n : Nat} : ∀ {k : Code} {e : Env} {L G : Hp} {r : Out}, evCodeF C f n k e L G = some r → evCode C f k e L G = some r := by
  intro k
  induction k with
  | seq a b iha ihb =>
    intro e L G r hr
    unfold evCodeF at hr
    unfold evCode
    cases ha : evCodeF C f n a e L G with
    | none => rw [ha] at hr; cases hr
    | some x =>
      rw [iha ha]
      rw [ha] at hr
      obtain ⟨x, e', L', G'⟩ := x
      cases x <;> first | exact ihb hr | exact hr
  | cond t a b iha ihb =>
    intro e L G r hr
    unfold evCodeF condA at hr
    unfold evCode condA
    split at hr
    · split at hr
      · rename_i ht; rw [if_pos ht]; exact iha hr
      · rename_i ht; rw [if_neg ht]; exact ihb hr
    · cases hr
  | block i a iha =>
    intro e L G r hr
    unfold evCodeF at hr
    unfold evCode
    cases ha : evCodeF C f n a e L G with
    | none => rw [ha] at hr; cases hr
    | some x => rw [iha ha]; rw [ha] at hr; exact hr
  | loop a iha =>
    intro e L G r hr
    unfold evCodeF at hr
    unfold evCode
    exact loopW_iff.2 ⟨n, loopN_body (fun _ _ _ _ hx => iha hx) hr⟩
  | _ => intro e L G r hr; exact hr
def evFunF (C : Cfg) (n f : Nat) (args : List AV) (G : Hp) : Option (Rs × Hp) :=
  match C.P.funcs[f]? with
  | none => none
  | some fn => match fn.body with
    | none => none
    | some c => endA C f fn (evCodeF C f n c (argsE 0 args) [] G)
theorem funF_sub {C : Cfg} {n f : Nat} {args : List AV} {G : Hp} {r : Rs × Hp} (h : evFunF C n f args G = some r) : evFun C f args G = some r := by
  unfold evFunF at h
  split at h
  · cases h
  · rename_i fn hf
    split at h
    · cases h
    · rename_i k hk
      cases hx : evCodeF C f n k (argsE 0 args) [] G with
      | none => rw [hx] at h; cases h
      | some x => rw [hx] at h; exact evFun_some.2 ⟨fn, k, x, hf, hk, codeF_sub hx, h⟩
/-- so many rounds of a loop, so deep at most -/
def evF (P : Program) (A : Ann) (n : Nat) : Nat → CallF
  | 0 => fun _ _ _ => none
  | d + 1 => fun f args G => evFunF ⟨P, A, evF P A n d⟩ n f args G
theorem evF_le {P : Program} {A : Ann} {n : Nat} : ∀ d, Le (evF P A n d) (evN P A d)
  | 0 => fun _ _ _ _ h => by cases h
  | d + 1 => fun f a G r h => evFun_mono (evF_le d) (funF_sub h)
theorem ev_of_fuel {P : Program} {A : Ann} {n d f : Nat} {args : List AV} {G : Hp} {r : Rs × Hp} (h : evF P A n d f args G = some r) : ev P A f args G = some r := ev_iff.2 ⟨d, evF_le d _ _ _ _ h⟩
/-- true, whatever the heap behind it -/
def isTrue : Option (Rs × Hp) → Bool
  | some (.val (.bool true), _) => true
  | _ => false
theorem true_of_fuel {P : Program} {A : Ann} (n d f : Nat) {args : List AV} {G : Hp} (h : isTrue (evF P A n d f args G) = true) : ∃ G', ev P A f args G = some (.val (.bool true), G') := by
  cases hr : evF P A n d f args G with
  | none => rw [hr] at h; cases h
  | some r =>
    obtain ⟨x, G'⟩ := r
    rw [hr] at h
    cases x with
    | pan v => cases h
    | val v => cases v with
      | bool b => cases b with
        | true => exact ⟨G', ev_of_fuel hr⟩
        | false => cases h
      | _ => cases h
end Ev
