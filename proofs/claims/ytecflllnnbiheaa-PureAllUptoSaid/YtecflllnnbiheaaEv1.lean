/- The evaluator on code and functions; loops and calls are limits: no fuel is left in what a prover sees. -/
import Derived.Test.YtecflllnnbiheaaEv0
set_option maxHeartbeats 4000000
set_option linter.unusedVariables false
set_option linter.unusedSimpArgs false
namespace Ev
open Go

inductive Ex where
  | nor
  | exit (id : Nat)
  | ret
  | pan (v : AV)

abbrev Out := Ex × Env × Hp × Hp

/-- an operation, and what comes behind it -/
def stepA (r : Option (Rs × Hp × Hp)) (e : Env) (k : AV → Hp → Hp → Option Out) : Option Out :=
  match r with
  | some (.val v, L, G) => k v L G
  | some (.pan v, L, G) => some (.pan v, e, L, G)
  | none => none
def wantA (w : Option Bool) (x y : Option Out) : Option Out :=
  match w with
  | some true => x
  | some false => y
  | none => none
/-- Operations one behind the other. -/
def evList (C : Cfg) (f : Nat) (ops : Array Oper) : List Oper → Env → Hp → Hp → Option Out
  | [], e, L, G => some (.nor, e, L, G)
  | o :: rest, e, L, G =>
    wantA (wantedA ops o e) (stepA (evOp C f none o e L G) e fun v L' G' => evList C f ops rest (putE e o.dst v) L' G')
      (evList C f ops rest (putE e o.dst (.tup [])) L G)

/-- Temporaries that nobody reads any more are forgotten. -/
def killE : List Nat → Env → Env
  | [], _ => []
  | t :: K, e => match getE? e t with
    | some v => (t, v) :: killE K e
    | none => killE K e
def valsE (e : Env) : List AV := e.map Prod.snd

/-- Blocks of a round to which nothing leads any more go. -/
def trim (k : Nat) (e : Env) (L : Hp) : Hp :=
  if L.length ≤ k then L else if bels k (valsE e) && (L.take k).all (Blk.bel k) then L.take k else L

def loopN (m : List Nat) (k : Nat) (body : Env → Hp → Hp → Option Out) : Nat → Env → Hp → Hp → Option Out
  | 0, _, _, _ => none
  | n + 1, e, L, G =>
    match body e L G with
    | some (.nor, e', L', G') => loopN m k body n (killE m e') (trim k (killE m e') L') G'
    | r => r

open Classical in
noncomputable def loopW (m : List Nat) (k : Nat) (body : Env → Hp → Hp → Option Out) (e : Env) (L G : Hp) : Option Out :=
  if h : ∃ n, (loopN m k body n e L G).isSome then loopN m k body h.choose e L G else none

/-! ### regions that draw their order -/
inductive Cls where
  | a
  | b
  | c
  | t
  | g
  | d
  deriving DecidableEq

def clsOf (C : Cfg) (f : Nat) (o : Oper) : Cls :=
  match o.op with
  | .move _ | .assign _ | .pick .. | .build .. | .buildSlice .. | .nilCheck _ | .binOp .. | .unOp .. | .convert .. | .makeFunc ..
  | .fieldAddr .. | .field .. | .index .. | .extract .. | .makeInterface .. => .a
  | .load .. | .indexAddr .. | .slice .. => .b
  | .alloc _ | .box .. => if C.A.glob f (o.dst.getD 0) then .d else .c
  | .call c => match c.callee with
    | .builtin .len | .builtin .max | .builtin .min => .a
    | .builtin .append => if C.A.rows f (o.dst.getD 0) then .d else if C.A.glob f (o.dst.getD 0) then .g else .t
    | .value (.func g) => if C.A.sees g || (C.A.orc g).isSome then .d else .a
    | _ => .d
  | _ => .d

/-- may two operations of these kinds come in either order? -/
def Cls.free : Cls → Cls → Bool
  | .a, _ | _, .a => true
  | .b, .b | .b, .c | .c, .b | .c, .c | .b, .t | .t, .b | .b, .g | .g, .b => true
  | _, _ => false

/-- the operations that come ahead of each one, whatever the order -/
def aheadOf : List Oper → List (List Nat) → List (List Nat)
  | [], acc => acc.reverse
  | o :: rest, acc =>
    aheadOf rest ((o.after.toList.foldl (fun s e => if Region.binds .any e then e.on :: (acc.reverse.getD e.on [] ++ s) else s) []).eraseDups :: acc)
def ahead (ops : List Oper) : List (List Nat) := aheadOf ops []

def tmpsOf (x : Operand) : List Nat := match x with | .tmp t => [t] | _ => []
def readsOf (ops : Array Oper) (o : Oper) : List Nat :=
  o.op.operands.toList.flatMap tmpsOf ++ (match o.guard with | some (j, _) => ((ops[j]?).bind (·.dst)).toList | none => [])

/-- In whatever order that the edges allow, the operations come to the same. -/
def drawOk (C : Cfg) (f : Nat) (ops : Array Oper) : Bool :=
  let l := ops.toList
  let ah := ahead l
  let n := l.length
  (List.range n).all fun j => match l[j]? with
    | none => false
    | some oj => (oj.after.toList.all fun e => decide (e.on < j) || !(Region.binds .any e)) &&
      (List.range j).all fun i => (ah.getD j []).contains i || (match l[i]? with
        | none => false
        | some oi => (clsOf C f oi).free (clsOf C f oj) &&
          (match oi.dst with | some d => oj.dst != some d && !((readsOf ops oj).contains d) | none => true) &&
          (match oj.dst with | some d => !((readsOf ops oi).contains d) | none => true))

def slotted (C : Cfg) (f : Nat) : Nat → List Oper → List (Oper × Option Nat)
  | _, [] => []
  | k, o :: l => if clsOf C f o = .c ∨ clsOf C f o = .t then (o, some k) :: slotted C f (k + 1) l else (o, none) :: slotted C f k l
def slotsIn (C : Cfg) (f : Nat) : List Oper → Nat
  | [] => 0
  | o :: l => if clsOf C f o = .c ∨ clsOf C f o = .t then slotsIn C f l + 1 else slotsIn C f l

/-- an address that is read is older than the region -/
def oldPtr (base : Nat) : AV → Bool
  | .ptr true b _ _ _ => decide (b < base)
  | .hs true b _ _ _ => decide (b < base)
  | _ => true
/-- a slice that is put behind one that grows at its end alone, in this heap -/
def tokOk (w : Bool) : List AV → Bool
  | [.sl _ t, .sl _ _] => (match t with | .own loc _ => loc == w | _ => true)
  | _ => false
def drawStep (C : Cfg) (f : Nat) (base : Nat) (o : Oper) (e : Env) : Bool :=
  match o.op with
  | .load _ a => oldPtr base (opd e a)
  | .indexAddr _ x _ => oldPtr base (opd e x)
  | .slice _ x _ _ _ => oldPtr base (opd e x)
  | .call c => match c.callee with
    | .builtin .append => if clsOf C f o = .t then tokOk true (c.args.toList.map (opd e)) else if clsOf C f o = .g then tokOk false (c.args.toList.map (opd e)) else true
    | .value (.func g) => C.A.sees g || (C.A.orc g).isSome || pfs (handAs true (c.args.toList.map (opd e)))
    | _ => true
  | _ => true

def stepD (r : Option (Rs × Hp × Hp)) (k : AV → Hp → Hp → Option Out) : Option Out :=
  match r with
  | some (.val v, L, G) => k v L G
  | _ => none
def evDraws (C : Cfg) (f : Nat) (ops : Array Oper) (base : Nat) : List (Oper × Option Nat) → Env → Hp → Hp → Option Out
  | [], e, L, G => some (.nor, e, L, G)
  | (o, sl) :: rest, e, L, G =>
    wantA (wantedA ops o e) (if drawStep C f base o e then stepD (evOp C f sl o e L G) fun v L' G' => evDraws C f ops base rest (putE e o.dst v) L' G' else none)
      (evDraws C f ops base rest (putE e o.dst (.tup [])) L G)

def evReg0 (C : Cfg) (f id : Nat) (ops : Array Oper) (draw : Bool) (e : Env) (L G : Hp) : Option Out :=
  if draw then
    if C.A.dr f id then evDraws C f ops L.length (slotted C f L.length ops.toList) e (L ++ List.replicate (slotsIn C f ops.toList) .dead) G else none
  else evList C f ops ops.toList e L G
/-- behind a region: what is read later -/
def liveA (K : Option (List Nat)) (r : Option Out) : Option Out :=
  match K, r with
  | some K, some (x, e, L, G) => some (x, killE K e, L, G)
  | _, r => r
def evReg (C : Cfg) (f id : Nat) (ops : Array Oper) (draw : Bool) (e : Env) (L G : Hp) : Option Out := liveA (C.A.live f id) (evReg0 C f id ops draw (frzE (C.A.frz f id) L G e) (frzL (C.A.frz f id) L) G)

def seqA (r : Option Out) (k : Env → Hp → Hp → Option Out) : Option Out :=
  match r with
  | some (.nor, e, L, G) => k e L G
  | r => r
def blockA (id : Nat) (r : Option Out) : Option Out :=
  match r with
  | some (.exit i, e, L, G) => if i = id then some (.nor, e, L, G) else some (.exit i, e, L, G)
  | r => r

def condA (c : AV) (x y : Option Out) : Option Out :=
  match c with
  | .bool t => if t = true then x else y
  | _ => none

noncomputable def evCode (C : Cfg) (f : Nat) : Code → Env → Hp → Hp → Option Out
  | .skip, e, L, G => some (.nor, e, L, G)
  | .label _, e, L, G => some (.nor, e, L, G)
  | .region id ops draw, e, L, G => evReg C f id ops draw e L G
  | .seq a b, e, L, G => seqA (evCode C f a e L G) (evCode C f b)
  | .cond c a b, e, L, G => condA (opd e c) (evCode C f a e L G) (evCode C f b e L G)
  | .block id a, e, L, G => blockA id (evCode C f a e L G)
  | .loop a, e, L, G => loopW (C.A.keep f) L.length (evCode C f a) (killE (C.A.keep f) e) L G
  | .exit id, e, L, G => liveA (C.A.exits f id) (some (.exit id, e, L, G))
  | .ret, e, L, G => some (.ret, e, L, G)
  | _, _, _, _ => none

def resA (P : Program) (e : Env) (L G : Hp) : ResultVar → Option AV
  | .tmp t => some (getE e t)
  | .cell a t => loadA P t (getE e a) L G
def resAs (P : Program) (e : Env) (L G : Hp) : List ResultVar → Option (List AV)
  | [] => some []
  | r :: l => (resA P e L G r).bind fun v => (resAs P e L G l).map fun vs => v :: vs
def tupA : List AV → AV
  | [v] => v
  | vs => .tup vs

def endA (C : Cfg) (f : Nat) (fn : Func) : Option Out → Option (Rs × Hp)
  | some (.nor, e, L, G) => (resAs C.P e L G fn.results.toList).map fun vs => (.val (leave (!C.A.sees f) L G (tupA vs)), G)
  | some (.ret, e, L, G) => (resAs C.P e L G fn.results.toList).map fun vs => (.val (leave (!C.A.sees f) L G (tupA vs)), G)
  | some (.pan v, _, L, G) => some (.pan (leave (!C.A.sees f) L G v), G)
  | _ => none

def argsE : Nat → List AV → Env
  | _, [] => []
  | i, a :: l => (i, a) :: argsE (i + 1) l
noncomputable def evFun (C : Cfg) (f : Nat) (args : List AV) (G : Hp) : Option (Rs × Hp) :=
  match C.P.funcs[f]? with
  | none => none
  | some fn => match fn.body with
    | none => none
    | some c => endA C f fn (evCode C f c (argsE 0 args) [] G)

noncomputable def evN (P : Program) (A : Ann) : Nat → CallF
  | 0 => fun _ _ _ => none
  | n + 1 => fun f args G => evFun ⟨P, A, evN P A n⟩ f args G

open Classical in
noncomputable def ev (P : Program) (A : Ann) : CallF := fun f args G =>
  if h : ∃ n, (evN P A n f args G).isSome then evN P A h.choose f args G else none

noncomputable def cfg (P : Program) (A : Ann) : Cfg := ⟨P, A, ev P A⟩

/-! ### more is known of a callee: no less of the caller -/
def Le (c c' : CallF) : Prop := ∀ f a G r, c f a G = some r → c' f a G = some r

theorem callA_mono {P A c c'} (h : Le c c') {f args L G r} (hr : callA ⟨P, A, c⟩ f args L G = some r) : callA ⟨P, A, c'⟩ f args L G = some r := by
  unfold callA at hr ⊢
  cases ho : A.orc f with
  | some F => simp only [ho] at hr ⊢; exact hr
  | none =>
  simp only [ho] at hr ⊢
  split at hr
  · rename_i hs; rw [if_pos hs]
    split at hr
    · rename_i hn; rw [if_pos hn]
      cases hc : c f (handAs false args) G with
      | none => rw [hc] at hr; cases hr
      | some x => rw [h _ _ _ _ hc]; rw [hc] at hr; exact hr
    · cases hr
  · rename_i hs; rw [if_neg hs]
    split at hr
    · rename_i hp; rw [if_pos hp]
      cases hc : c f (handAs true args) [] with
      | none => rw [hc] at hr; cases hr
      | some x => rw [h _ _ _ _ hc]; rw [hc] at hr; exact hr
    · rename_i hp; rw [if_neg hp]
      split at hr
      · rename_i hq; rw [if_pos hq]
        cases hc : c f (leaves true L G args) [] with
        | none => rw [hc] at hr; cases hr
        | some x => rw [h _ _ _ _ hc]; rw [hc] at hr; exact hr
      · cases hr

theorem evOp_mono {P A c c'} (h : Le c c') {f sl o e L G r} (hr : evOp ⟨P, A, c⟩ f sl o e L G = some r) : evOp ⟨P, A, c'⟩ f sl o e L G = some r := by
  unfold evOp at hr ⊢
  split at hr
  · split at hr
    · exact callA_mono h hr
    · cases hr
  · exact hr

theorem evList_mono {P A c c'} (h : Le c c') {f ops} : ∀ {l e L G r}, evList ⟨P, A, c⟩ f ops l e L G = some r → evList ⟨P, A, c'⟩ f ops l e L G = some r := by
  intro l
  induction l with
  | nil => intro e L G r hr; exact hr
  | cons x l ih =>
    intro e L G r hr
    unfold evList wantA at hr ⊢
    split at hr
    · unfold stepA at hr ⊢
      split at hr
      · rename_i hx; rw [evOp_mono h hx]; exact ih hr
      · rename_i hx; rw [evOp_mono h hx]; exact hr
      · cases hr
    · exact ih hr
    · cases hr

theorem evDraws_mono {P A c c'} (h : Le c c') {f ops base} : ∀ {l e L G r}, evDraws ⟨P, A, c⟩ f ops base l e L G = some r → evDraws ⟨P, A, c'⟩ f ops base l e L G = some r := by
  intro l
  induction l with
  | nil => intro e L G r hr; exact hr
  | cons x l ih =>
    intro e L G r hr
    obtain ⟨o, sl⟩ := x
    unfold evDraws wantA at hr ⊢
    split at hr
    · split at hr
      · rename_i hd
        have hd' : drawStep ⟨P, A, c'⟩ f base o e = true := hd
        rw [if_pos hd']
        unfold stepD at hr ⊢
        split at hr
        · rename_i hx; rw [evOp_mono h hx]; exact ih hr
        · cases hr
      · cases hr
    · exact ih hr
    · cases hr

theorem clsOf_call {P A c c' f o} : clsOf ⟨P, A, c⟩ f o = clsOf ⟨P, A, c'⟩ f o := rfl
theorem slotted_call {P A c c' f} : ∀ {k l}, slotted ⟨P, A, c⟩ f k l = slotted ⟨P, A, c'⟩ f k l := by
  intro k l
  induction l generalizing k with
  | nil => rfl
  | cons o l ih => unfold slotted; rw [@clsOf_call P A c c' f o, ih, ih]
theorem slotsIn_call {P A c c' f} : ∀ {l}, slotsIn ⟨P, A, c⟩ f l = slotsIn ⟨P, A, c'⟩ f l := by
  intro l
  induction l with
  | nil => rfl
  | cons o l ih => unfold slotsIn; rw [@clsOf_call P A c c' f o, ih]
theorem drawOk_call {P A c c' f ops} : drawOk ⟨P, A, c⟩ f ops = drawOk ⟨P, A, c'⟩ f ops := rfl

theorem evReg0_mono {P A c c'} (h : Le c c') {f i ops d e L G r} (hr : evReg0 ⟨P, A, c⟩ f i ops d e L G = some r) : evReg0 ⟨P, A, c'⟩ f i ops d e L G = some r := by
  unfold evReg0 at hr ⊢
  split at hr
  · rename_i hd; rw [if_pos hd, ← @slotted_call P A c c', ← @slotsIn_call P A c c']
    split at hr
    · rename_i hk; rw [if_pos hk]; exact evDraws_mono h hr
    · cases hr
  · rename_i hd; rw [if_neg hd]; exact evList_mono h hr

theorem liveA_some {K : Option (List Nat)} {x : Option Out} {r : Out} (h : liveA K x = some r) : ∃ y, x = some y ∧ liveA K (some y) = some r := by
  cases x with
  | none => cases K <;> cases h
  | some y => exact ⟨y, rfl, h⟩
theorem evReg_mono {P A c c'} (h : Le c c') {f i ops d e L G r} (hr : evReg ⟨P, A, c⟩ f i ops d e L G = some r) : evReg ⟨P, A, c'⟩ f i ops d e L G = some r := by
  unfold evReg at hr ⊢
  obtain ⟨y, h1, h2⟩ := liveA_some hr
  rw [evReg0_mono h h1]
  exact h2

/-! ### loops -/
theorem loopN_mono {m k body} : ∀ {n e L G r}, loopN m k body n e L G = some r → loopN m k body (n + 1) e L G = some r := by
  intro n
  induction n with
  | zero => intro e L G r h; cases h
  | succ n ih =>
    intro e L G r h
    unfold loopN at h ⊢
    split at h
    · exact ih h
    · exact h
theorem loopN_le {m k body n n' e L G r} (hn : n ≤ n') (h : loopN m k body n e L G = some r) : loopN m k body n' e L G = some r := by
  induction hn with
  | refl => exact h
  | step _ ih => exact loopN_mono ih
theorem loopW_iff {m k body e L G r} : loopW m k body e L G = some r ↔ ∃ n, loopN m k body n e L G = some r := by
  unfold loopW
  constructor
  · intro h
    split at h
    · rename_i hx; exact ⟨_, h⟩
    · cases h
  · rintro ⟨n, h⟩
    have hx : ∃ n, (loopN m k body n e L G).isSome := ⟨n, by rw [h]; rfl⟩
    rw [dif_pos hx]
    obtain ⟨s, hs⟩ := Option.isSome_iff_exists.1 hx.choose_spec
    rcases Nat.le_total n hx.choose with hle | hle
    · exact loopN_le hle h
    · have := loopN_le hle hs
      rw [h] at this
      rw [hs, this]

/-- ONE ROUND. -/
theorem loopW_eq (m : List Nat) (k : Nat) (body : Env → Hp → Hp → Option Out) (e : Env) (L G : Hp) :
    loopW m k body e L G = seqA (body e L G) fun e' L' G' => loopW m k body (killE m e') (trim k (killE m e') L') G' := by
  apply Option.ext
  intro r
  constructor
  · intro h
    obtain ⟨n, hn⟩ := loopW_iff.1 h
    cases n with
    | zero => cases hn
    | succ n =>
      unfold loopN at hn
      cases hb : body e L G with
      | none => rw [hb] at hn; cases hn
      | some x =>
        obtain ⟨x, e', L', G'⟩ := x
        rw [hb] at hn
        cases x <;> first | exact loopW_iff.2 ⟨n, hn⟩ | exact hn
  · intro h
    unfold seqA at h
    split at h
    · rename_i hb
      obtain ⟨n, hn⟩ := loopW_iff.1 h
      exact loopW_iff.2 ⟨n + 1, by unfold loopN; rw [hb]; exact hn⟩
    · rename_i hb
      refine loopW_iff.2 ⟨1, ?_⟩
      unfold loopN
      split
      · rename_i hc; exact absurd hc (hb _ _ _)
      · exact h

theorem loopN_body {m k} {b b' : Env → Hp → Hp → Option Out} (h : ∀ e L G r, b e L G = some r → b' e L G = some r) :
    ∀ {n e L G r}, loopN m k b n e L G = some r → loopN m k b' n e L G = some r := by
  intro n
  induction n with
  | zero => intro e L G r hr; cases hr
  | succ n ih =>
    intro e L G r hr
    unfold loopN at hr ⊢
    cases hb : b e L G with
    | none => rw [hb] at hr; cases hr
    | some x =>
      rw [h _ _ _ _ hb]
      rw [hb] at hr
      obtain ⟨x, e', L', G'⟩ := x
      cases x <;> first | exact ih hr | exact hr

theorem evCode_mono {P A c c'} (h : Le c c') {f} : ∀ {k e L G r}, evCode ⟨P, A, c⟩ f k e L G = some r → evCode ⟨P, A, c'⟩ f k e L G = some r := by
  intro k
  induction k with
  | region i ops d => intro e L G r hr; exact evReg_mono h hr
  | seq a b iha ihb =>
    intro e L G r hr
    unfold evCode at hr ⊢
    cases ha : evCode ⟨P, A, c⟩ f a e L G with
    | none => rw [ha] at hr; cases hr
    | some x =>
      rw [iha ha]
      rw [ha] at hr
      obtain ⟨x, e', L', G'⟩ := x
      cases x <;> first | exact ihb hr | exact hr
  | cond t a b iha ihb =>
    intro e L G r hr
    unfold evCode condA at hr ⊢
    split at hr
    · split at hr
      · rename_i ht; rw [if_pos ht]; exact iha hr
      · rename_i ht; rw [if_neg ht]; exact ihb hr
    · cases hr
  | block i a iha =>
    intro e L G r hr
    unfold evCode at hr ⊢
    cases ha : evCode ⟨P, A, c⟩ f a e L G with
    | none => rw [ha] at hr; cases hr
    | some x => rw [iha ha]; rw [ha] at hr; exact hr
  | loop a iha =>
    intro e L G r hr
    unfold evCode at hr ⊢
    obtain ⟨n, hn⟩ := loopW_iff.1 hr
    exact loopW_iff.2 ⟨n, loopN_body (fun _ _ _ _ hx => iha hx) hn⟩
  | _ => intro e L G r hr; exact hr

theorem evFun_some {C : Cfg} {f args G r} : evFun C f args G = some r ↔ ∃ fn k x, C.P.funcs[f]? = some fn ∧ fn.body = some k ∧
    evCode C f k (argsE 0 args) [] G = some x ∧ endA C f fn (some x) = some r := by
  unfold evFun
  constructor
  · intro hr
    split at hr
    · cases hr
    · rename_i fn hf
      split at hr
      · cases hr
      · rename_i k hk
        cases hx : evCode C f k (argsE 0 args) [] G with
        | none => rw [hx] at hr; cases hr
        | some x => rw [hx] at hr; exact ⟨fn, k, x, hf, hk, hx, hr⟩
  · rintro ⟨fn, k, x, hf, hk, hx, hr⟩
    simp only [hf, hk, hx]
    exact hr
theorem evFun_mono {P A c c'} (h : Le c c') {f args G r} (hr : evFun ⟨P, A, c⟩ f args G = some r) : evFun ⟨P, A, c'⟩ f args G = some r := by
  obtain ⟨fn, k, x, hf, hk, hx, hr⟩ := evFun_some.1 hr
  exact evFun_some.2 ⟨fn, k, x, hf, hk, evCode_mono h hx, hr⟩

theorem evN_le {P A} : ∀ n, Le (evN P A n) (evN P A (n + 1)) := by
  intro n
  induction n with
  | zero => intro f a G r h; cases h
  | succ n ih => intro f a G r h; exact evFun_mono ih h
theorem evN_mono {P A n n'} (h : n ≤ n') : Le (evN P A n) (evN P A n') := by
  induction h with
  | refl => exact fun _ _ _ _ h => h
  | step _ ih => exact fun f a G r h => evN_le _ _ _ _ _ (ih _ _ _ _ h)
theorem ev_iff {P A f a G r} : ev P A f a G = some r ↔ ∃ n, evN P A n f a G = some r := by
  unfold ev
  constructor
  · intro h
    split at h
    · exact ⟨_, h⟩
    · cases h
  · rintro ⟨n, h⟩
    have hx : ∃ n, (evN P A n f a G).isSome := ⟨n, by rw [h]; rfl⟩
    rw [dif_pos hx]
    obtain ⟨s, hs⟩ := Option.isSome_iff_exists.1 hx.choose_spec
    rcases Nat.le_total n hx.choose with hle | hle
    · exact evN_mono hle _ _ _ _ h
    · have := evN_mono hle _ _ _ _ hs
      rw [h] at this
      rw [hs, this]

/-! ### what a limit of callees brings, one of them brings -/
section
variable {P : Program} {A : Ann} {cn : Nat → CallF} {c : CallF} (hm : ∀ n n', n ≤ n' → Le (cn n) (cn n')) (hc : ∀ f a G r, c f a G = some r → ∃ n, cn n f a G = some r)
include hm hc
omit hm in
theorem callA_sup {f args L G r} (hr : callA ⟨P, A, c⟩ f args L G = some r) : ∃ n, callA ⟨P, A, cn n⟩ f args L G = some r := by
  unfold callA at hr
  simp only at hr
  split at hr
  · rename_i ho; exact ⟨0, by unfold callA; simp only [ho]; exact hr⟩
  rename_i ho
  split at hr
  · rename_i hs
    split at hr
    · rename_i hn
      cases hx : c f (handAs false args) G with
      | none => rw [hx] at hr; cases hr
      | some x => obtain ⟨n, h⟩ := hc _ _ _ _ hx; exact ⟨n, by unfold callA; simp only [ho, hs, hn, if_true, h]; rw [hx] at hr; exact hr⟩
    · cases hr
  · rename_i hs
    split at hr
    · rename_i hp
      cases hx : c f (handAs true args) [] with
      | none => rw [hx] at hr; cases hr
      | some x => obtain ⟨n, h⟩ := hc _ _ _ _ hx; exact ⟨n, by unfold callA; simp only [ho, hs, hp, if_true, h]; rw [hx] at hr; exact hr⟩
    · rename_i hp
      split at hr
      · rename_i hq
        cases hx : c f (leaves true L G args) [] with
        | none => rw [hx] at hr; cases hr
        | some x => obtain ⟨n, h⟩ := hc _ _ _ _ hx; exact ⟨n, by unfold callA; simp only [ho, hs, hp, hq, if_true, h]; rw [hx] at hr; exact hr⟩
      · cases hr
omit hm in
theorem evOp_sup {f sl o e L G r} (hr : evOp ⟨P, A, c⟩ f sl o e L G = some r) : ∃ n, evOp ⟨P, A, cn n⟩ f sl o e L G = some r := by
  unfold evOp at hr
  split at hr
  · rename_i h1
    split at hr
    · rename_i h2
      obtain ⟨n, h⟩ := callA_sup hc hr
      exact ⟨n, by unfold evOp; simp only [h1, h2, h]⟩
    · cases hr
  · rename_i h1
    exact ⟨0, by unfold evOp; simp only [h1]; exact hr⟩
theorem evList_sup {f ops} : ∀ {l e L G r}, evList ⟨P, A, c⟩ f ops l e L G = some r → ∃ n, evList ⟨P, A, cn n⟩ f ops l e L G = some r := by
  intro l
  induction l with
  | nil => intro e L G r hr; exact ⟨0, hr⟩
  | cons x l ih =>
    intro e L G r hr
    unfold evList wantA at hr
    split at hr
    · rename_i hw
      unfold stepA at hr
      split at hr
      · rename_i hx
        obtain ⟨n, h1⟩ := evOp_sup hc hx
        obtain ⟨n', h2⟩ := ih hr
        refine ⟨max n n', ?_⟩
        unfold evList wantA stepA
        simp only [hw, evOp_mono (hm n _ (Nat.le_max_left _ _)) h1]
        exact evList_mono (hm n' _ (Nat.le_max_right _ _)) h2
      · rename_i hx
        obtain ⟨n, h1⟩ := evOp_sup hc hx
        exact ⟨n, by unfold evList wantA stepA; simp only [hw, h1]; exact hr⟩
      · cases hr
    · rename_i hw
      obtain ⟨n, h1⟩ := ih hr
      exact ⟨n, by unfold evList wantA; simp only [hw]; exact h1⟩
    · cases hr
theorem evDraws_sup {f ops base} : ∀ {l e L G r}, evDraws ⟨P, A, c⟩ f ops base l e L G = some r → ∃ n, evDraws ⟨P, A, cn n⟩ f ops base l e L G = some r := by
  intro l
  induction l with
  | nil => intro e L G r hr; exact ⟨0, hr⟩
  | cons x l ih =>
    intro e L G r hr
    obtain ⟨o, sl⟩ := x
    unfold evDraws wantA at hr
    split at hr
    · rename_i hw
      split at hr
      · rename_i hd
        unfold stepD at hr
        split at hr
        · rename_i hx
          obtain ⟨n, h1⟩ := evOp_sup hc hx
          obtain ⟨n', h2⟩ := ih hr
          refine ⟨max n n', ?_⟩
          unfold evDraws wantA stepD
          have hd' : drawStep ⟨P, A, cn (max n n')⟩ f base o e = true := hd
          simp only [hw, hd', if_true, evOp_mono (hm n _ (Nat.le_max_left _ _)) h1]
          exact evDraws_mono (hm n' _ (Nat.le_max_right _ _)) h2
        · cases hr
      · cases hr
    · rename_i hw
      obtain ⟨n, h1⟩ := ih hr
      exact ⟨n, by unfold evDraws wantA; simp only [hw]; exact h1⟩
    · cases hr
theorem evReg0_sup {f i ops d e L G r} (hr : evReg0 ⟨P, A, c⟩ f i ops d e L G = some r) : ∃ n, evReg0 ⟨P, A, cn n⟩ f i ops d e L G = some r := by
  unfold evReg0 at hr
  split at hr
  · rename_i hd
    split at hr
    · rename_i hk
      obtain ⟨n, h⟩ := evDraws_sup hm hc hr
      refine ⟨n, ?_⟩
      unfold evReg0
      rw [if_pos hd]
      refine (if_pos (show A.dr f i = true from hk)).trans ?_
      rw [← @slotted_call P A c (cn n), ← @slotsIn_call P A c (cn n)]
      exact h
    · cases hr
  · rename_i hd
    obtain ⟨n, h⟩ := evList_sup hm hc hr
    exact ⟨n, by unfold evReg0; rw [if_neg hd]; exact h⟩
theorem evReg_sup {f i ops d e L G r} (hr : evReg ⟨P, A, c⟩ f i ops d e L G = some r) : ∃ n, evReg ⟨P, A, cn n⟩ f i ops d e L G = some r := by
  unfold evReg at hr
  obtain ⟨y, h1, h2⟩ := liveA_some hr
  obtain ⟨n, hn⟩ := evReg0_sup hm hc h1
  exact ⟨n, by unfold evReg; rw [hn]; exact h2⟩
omit hm hc in
theorem loopN_sup {m k} {b : Nat → Env → Hp → Hp → Option Out} {b' : Env → Hp → Hp → Option Out} (hb : ∀ n n', n ≤ n' → ∀ e L G r, b n e L G = some r → b n' e L G = some r)
    (h : ∀ e L G r, b' e L G = some r → ∃ n, b n e L G = some r) : ∀ {j e L G r}, loopN m k b' j e L G = some r → ∃ n, loopN m k (b n) j e L G = some r := by
  intro j
  induction j with
  | zero => intro e L G r hr; cases hr
  | succ j ih =>
    intro e L G r hr
    unfold loopN at hr
    cases hx : b' e L G with
    | none => rw [hx] at hr; cases hr
    | some x =>
      obtain ⟨n, h1⟩ := h _ _ _ _ hx
      rw [hx] at hr
      obtain ⟨x, e', L', G'⟩ := x
      cases x with
      | nor =>
        obtain ⟨n', h2⟩ := ih hr
        refine ⟨max n n', ?_⟩
        unfold loopN
        rw [hb _ _ (Nat.le_max_left _ _) _ _ _ _ h1]
        exact loopN_body (fun _ _ _ _ hy => hb _ _ (Nat.le_max_right _ _) _ _ _ _ hy) h2
      | _ => exact ⟨n, by unfold loopN; rw [h1]; exact hr⟩
theorem evCode_sup {f} : ∀ {k e L G r}, evCode ⟨P, A, c⟩ f k e L G = some r → ∃ n, evCode ⟨P, A, cn n⟩ f k e L G = some r := by
  intro k
  induction k with
  | region i ops d => intro e L G r hr; exact evReg_sup hm hc hr
  | seq a b iha ihb =>
    intro e L G r hr
    unfold evCode at hr
    cases ha : evCode ⟨P, A, c⟩ f a e L G with
    | none => rw [ha] at hr; cases hr
    | some x =>
      obtain ⟨n, h1⟩ := iha ha
      rw [ha] at hr
      obtain ⟨x, e', L', G'⟩ := x
      cases x with
      | nor =>
        obtain ⟨n', h2⟩ := ihb hr
        refine ⟨max n n', ?_⟩
        unfold evCode
        rw [evCode_mono (hm n _ (Nat.le_max_left _ _)) h1]
        exact evCode_mono (hm n' _ (Nat.le_max_right _ _)) h2
      | _ => exact ⟨n, by unfold evCode; rw [h1]; exact hr⟩
  | cond t a b iha ihb =>
    intro e L G r hr
    unfold evCode condA at hr
    split at hr
    · rename_i ho
      split at hr
      · rename_i ht; obtain ⟨n, h⟩ := iha hr; exact ⟨n, by unfold evCode condA; simp only [ho]; rw [if_pos ht]; exact h⟩
      · rename_i ht; obtain ⟨n, h⟩ := ihb hr; exact ⟨n, by unfold evCode condA; simp only [ho]; rw [if_neg ht]; exact h⟩
    · cases hr
  | block i a iha =>
    intro e L G r hr
    unfold evCode at hr
    cases ha : evCode ⟨P, A, c⟩ f a e L G with
    | none => rw [ha] at hr; cases hr
    | some x => obtain ⟨n, h⟩ := iha ha; exact ⟨n, by unfold evCode; rw [h]; rw [ha] at hr; exact hr⟩
  | loop a iha =>
    intro e L G r hr
    unfold evCode at hr
    obtain ⟨j, hj⟩ := loopW_iff.1 hr
    obtain ⟨n, h⟩ := loopN_sup (b := fun n => evCode ⟨P, A, cn n⟩ f a) (fun n n' hn e L G r hx => evCode_mono (hm n n' hn) hx) (fun e L G r hx => iha hx) hj
    exact ⟨n, by unfold evCode; exact loopW_iff.2 ⟨j, h⟩⟩
  | _ => intro e L G r hr; exact ⟨0, hr⟩
theorem evFun_sup {f args G r} (hr : evFun ⟨P, A, c⟩ f args G = some r) : ∃ n, evFun ⟨P, A, cn n⟩ f args G = some r := by
  obtain ⟨fn, k, x, hf, hk, hx, hr⟩ := evFun_some.1 hr
  obtain ⟨n, h⟩ := evCode_sup hm hc hx
  exact ⟨n, evFun_some.2 ⟨fn, k, x, hf, hk, h, hr⟩⟩
end

/-- WHAT A FUNCTION COMES TO: its code, over callees that come to what they come to. -/
theorem ev_eq (P : Program) (A : Ann) (f : Nat) (args : List AV) (G : Hp) : ev P A f args G = evFun (cfg P A) f args G := by
  apply Option.ext
  intro r
  constructor
  · intro h
    obtain ⟨n, hn⟩ := ev_iff.1 h
    cases n with
    | zero => cases hn
    | succ n => exact evFun_mono (fun f a G r hx => ev_iff.2 ⟨n, hx⟩) hn
  · intro h
    obtain ⟨n, hn⟩ := evFun_sup (cn := evN P A) (fun _ _ h => evN_mono h) (fun _ _ _ _ hx => ev_iff.1 hx) h
    exact ev_iff.2 ⟨n + 1, hn⟩
#print axioms ev_eq
end Ev
