/- What the evaluator says, step by step: the rules by which a function's code is worked out. -/
import Derived.Test.YtecflllnnbiheaaEv1
import Derived.Attr
set_option maxHeartbeats 4000000
set_option linter.unusedVariables false
set_option linter.unusedSimpArgs false
namespace Ev
open Go

theorem seqA_congr {r r' : Option Out} {k : Env → Hp → Hp → Option Out} (h : r = r') : seqA r k = seqA r' k := by rw [h]
theorem condA_congr {c c' : AV} {x y : Option Out} (h : c = c') : condA c x y = condA c' x y := by rw [h]
theorem wantA_congr {w w' : Option Bool} {x y : Option Out} (h : w = w') : wantA w x y = wantA w' x y := by rw [h]
theorem stepA_congr {r r' : Option (Rs × Hp × Hp)} {e : Env} {k : AV → Hp → Hp → Option Out} (h : r = r') : stepA r e k = stepA r' e k := by rw [h]
theorem stepD_congr {r r' : Option (Rs × Hp × Hp)} {k : AV → Hp → Hp → Option Out} (h : r = r') : stepD r k = stepD r' k := by rw [h]
theorem evList_congr {C : Cfg} {f : Nat} {ops : Array Oper} {l : List Oper} {e e' : Env} {L L' G G' : Hp} (he : e = e') (hL : L = L') (hG : G = G') :
    evList C f ops l e L G = evList C f ops l e' L' G' := by rw [he, hL, hG]
theorem evDraws_congr {C : Cfg} {f : Nat} {ops : Array Oper} {b : Nat} {l : List (Oper × Option Nat)} {e e' : Env} {L L' G G' : Hp} (he : e = e') (hL : L = L') (hG : G = G') :
    evDraws C f ops b l e L G = evDraws C f ops b l e' L' G' := by rw [he, hL, hG]
theorem evCode_congr {C : Cfg} {f : Nat} {c : Code} {e e' : Env} {L L' G G' : Hp} (he : e = e') (hL : L = L') (hG : G = G') :
    evCode C f c e L G = evCode C f c e' L' G' := by rw [he, hL, hG]
theorem wantedA_congr {ops : Array Oper} {o : Oper} {e e' : Env} (he : e = e') : wantedA ops o e = wantedA ops o e' := by rw [he]
theorem evOp_cg {C : Cfg} {f : Nat} {sl : Option Nat} {o : Oper} {e e' : Env} {L L' G G' : Hp} (he : e = e') (hL : L = L') (hG : G = G') :
    evOp C f sl o e L G = evOp C f sl o e' L' G' := by rw [he, hL, hG]
theorem endA_congr {C : Cfg} {f : Nat} {fn : Func} {r r' : Option Out} (h : r = r') : endA C f fn r = endA C f fn r' := by rw [h]
theorem evFun_congr {C : Cfg} {f : Nat} {a a' : List AV} {G G' : Hp} (h : a = a') (hG : G = G') : evFun C f a G = evFun C f a' G' := by rw [h, hG]
theorem liveA_congr {K : Option (List Nat)} {r r' : Option Out} (h : r = r') : liveA K r = liveA K r' := by rw [h]
theorem killE_congr {K K' : List Nat} {e e' : Env} (hK : K = K') (h : e = e') : killE K e = killE K' e' := by rw [hK, h]
theorem loopW_congr {m : List Nat} {k : Nat} {b : Env → Hp → Hp → Option Out} {e e' : Env} {L L' G G' : Hp} (he : e = e') (hL : L = L') (hG : G = G') :
    loopW m k b e L G = loopW m k b e' L' G' := by rw [he, hL, hG]
theorem callA_congr {C : Cfg} {f : Nat} {a a' : List AV} {L L' G G' : Hp} (h : a = a') (hL : L = L') (hG : G = G') : callA C f a L G = callA C f a' L' G' := by rw [h, hL, hG]
attribute [congr] seqA_congr condA_congr wantA_congr stepA_congr stepD_congr evList_congr evDraws_congr evCode_congr wantedA_congr evOp_cg endA_congr liveA_congr killE_congr evFun_congr loopW_congr callA_congr

section
variable {C : Cfg} {f : Nat} {e : Env} {L G : Hp}
theorem seqA_nor {k : Env → Hp → Hp → Option Out} : seqA (some (.nor, e, L, G)) k = k e L G := id rfl
theorem seqA_ret {k : Env → Hp → Hp → Option Out} : seqA (some (.ret, e, L, G)) k = some (.ret, e, L, G) := id rfl
theorem seqA_exit {i : Nat} {k : Env → Hp → Hp → Option Out} : seqA (some (.exit i, e, L, G)) k = some (.exit i, e, L, G) := id rfl
theorem seqA_pan {v : AV} {k : Env → Hp → Hp → Option Out} : seqA (some (.pan v, e, L, G)) k = some (.pan v, e, L, G) := id rfl
theorem seqA_none {k : Env → Hp → Hp → Option Out} : seqA none k = none := id rfl
theorem seqA_ite {p : Prop} [Decidable p] {x y : Option Out} {k : Env → Hp → Hp → Option Out} : seqA (if p then x else y) k = if p then seqA x k else seqA y k := by split <;> rfl
theorem blockA_nor {i : Nat} : blockA i (some (.nor, e, L, G)) = some (.nor, e, L, G) := id rfl
theorem blockA_ret {i : Nat} : blockA i (some (.ret, e, L, G)) = some (.ret, e, L, G) := id rfl
theorem blockA_pan {i : Nat} {v : AV} : blockA i (some (.pan v, e, L, G)) = some (.pan v, e, L, G) := id rfl
theorem blockA_exit {i j : Nat} : blockA i (some (.exit j, e, L, G)) = if j = i then some (.nor, e, L, G) else some (.exit j, e, L, G) := id rfl
theorem blockA_none {i : Nat} : blockA i none = none := id rfl
theorem blockA_ite {i : Nat} {p : Prop} [Decidable p] {x y : Option Out} : blockA i (if p then x else y) = if p then blockA i x else blockA i y := by split <;> rfl
theorem condA_bool {t : Bool} {x y : Option Out} : condA (.bool t) x y = if t = true then x else y := id rfl
theorem wantA_true {x y : Option Out} : wantA (some true) x y = x := id rfl
theorem wantA_false {x y : Option Out} : wantA (some false) x y = y := id rfl
theorem wantA_some {b : Bool} {x y : Option Out} : wantA (some b) x y = if b = true then x else y := by cases b <;> rfl
theorem stepA_val {v : AV} {k : AV → Hp → Hp → Option Out} : stepA (some (.val v, L, G)) e k = k v L G := id rfl
theorem stepA_pan {v : AV} {k : AV → Hp → Hp → Option Out} : stepA (some (.pan v, L, G)) e k = some (.pan v, e, L, G) := id rfl
theorem stepA_ite {p : Prop} [Decidable p] {x y : Option (Rs × Hp × Hp)} {k : AV → Hp → Hp → Option Out} : stepA (if p then x else y) e k = if p then stepA x e k else stepA y e k := by split <;> rfl
theorem stepD_val {v : AV} {k : AV → Hp → Hp → Option Out} : stepD (some (.val v, L, G)) k = k v L G := id rfl
theorem valA_some {v : AV} : valA L G (some v) = some (.val v, L, G) := id rfl

theorem code_skip : evCode C f .skip e L G = some (.nor, e, L, G) := id rfl
theorem code_label {l : Nat} : evCode C f (.label l) e L G = some (.nor, e, L, G) := id rfl
theorem code_region {i : Nat} {l : List Oper} : evCode C f (.region i l.toArray false) e L G = liveA (C.A.live f i) (evList C f l.toArray l (frzE (C.A.frz f i) L G e) (frzL (C.A.frz f i) L) G) := id rfl
theorem code_draw {i : Nat} {l : List Oper} : evCode C f (.region i l.toArray true) e L G =
    liveA (C.A.live f i) (if C.A.dr f i then evDraws C f l.toArray (frzL (C.A.frz f i) L).length (slotted C f (frzL (C.A.frz f i) L).length l) (frzE (C.A.frz f i) L G e) (frzL (C.A.frz f i) L ++ List.replicate (slotsIn C f l) .dead) G else none) := id rfl
theorem frzE_no : frzE false L G e = e := id rfl
theorem frzL_no : frzL false L = L := id rfl
theorem frzE_yes : frzE true L G e = e.map fun p => (p.1, frzW L G p.2) := id rfl
theorem frzL_yes : frzL true L = [] := id rfl
theorem live_some {K : List Nat} {x : Ex} : liveA (some K) (some (x, e, L, G)) = some (x, killE K e, L, G) := id rfl
theorem live_none {K : List Nat} : liveA (some K) none = none := id rfl
theorem live_ite {K : List Nat} {p : Prop} [Decidable p] {x y : Option Out} : liveA (some K) (if p then x else y) = if p then liveA (some K) x else liveA (some K) y := by split <;> rfl
theorem kill_nil : killE [] e = [] := id rfl
theorem kill_cons {t : Nat} {K : List Nat} : killE (t :: K) e = match getE? e t with | some v => (t, v) :: killE K e | none => killE K e := id rfl
theorem get?_cons {i t : Nat} {v : AV} : getE? ((i, v) :: e) t = if i = t then some v else getE? e t := id rfl
theorem get?_nil {t : Nat} : getE? [] t = none := id rfl
theorem get_cons {i t : Nat} {v : AV} : getE ((i, v) :: e) t = if i = t then v else getE e t := id rfl
theorem get_nil {t : Nat} : getE [] t = .junk := id rfl
theorem args_cons {i : Nat} {v : AV} {l : List AV} : argsE i (v :: l) = (i, v) :: argsE (i + 1) l := id rfl
theorem args_nil {i : Nat} : argsE i [] = [] := id rfl
theorem code_seq {a b : Code} : evCode C f (.seq a b) e L G = seqA (evCode C f a e L G) (evCode C f b) := id rfl
theorem code_cond {c : Operand} {a b : Code} : evCode C f (.cond c a b) e L G = condA (opd e c) (evCode C f a e L G) (evCode C f b e L G) := id rfl
theorem code_block {i : Nat} {a : Code} : evCode C f (.block i a) e L G = blockA i (evCode C f a e L G) := id rfl
theorem code_loop {a : Code} : evCode C f (.loop a) e L G = loopW (C.A.keep f) L.length (evCode C f a) (killE (C.A.keep f) e) L G := id rfl
theorem code_exit {i : Nat} : evCode C f (.exit i) e L G = liveA (C.A.exits f i) (some (.exit i, e, L, G)) := id rfl
theorem code_ret : evCode C f .ret e L G = some (.ret, e, L, G) := id rfl

variable {ops : Array Oper} {rest : List Oper} {d : Option Tmp} {ty : TypeId} {pos : String} {aft : Array Edge} {g : Option (Nat × Bool)}
theorem list_nil : evList C f ops [] e L G = some (.nor, e, L, G) := id rfl
theorem list_cons {o : Oper} : evList C f ops (o :: rest) e L G =
    wantA (wantedA ops o e) (stepA (evOp C f none o e L G) e fun v L' G' => evList C f ops rest (putE e o.dst v) L' G') (evList C f ops rest (putE e o.dst (.tup [])) L G) := id rfl
theorem list_move {x : Operand} : evList C f ops (⟨d, .move x, ty, pos, aft, none⟩ :: rest) e L G = evList C f ops rest (putE e d (opd e x)) L G := id rfl
theorem list_assign {x : Operand} : evList C f ops (⟨d, .assign x, ty, pos, aft, none⟩ :: rest) e L G = evList C f ops rest (putE e d (opd e x)) L G := id rfl
theorem list_plain {op : Op} : evList C f ops (⟨d, op, ty, pos, aft, none⟩ :: rest) e L G =
    stepA (evOp C f none ⟨d, op, ty, pos, aft, none⟩ e L G) e fun v L' G' => evList C f ops rest (putE e d v) L' G' := id rfl
theorem putE_some {t : Nat} {v : AV} : putE e (some t) v = (t, v) :: e := id rfl
theorem putE_none {v : AV} : putE e none v = e := id rfl
theorem opd_tmp {t : Nat} : opd e (.tmp t) = getE e t := id rfl
theorem opd_const {v : Value} : opd e (.const v) = ofVal v := id rfl
theorem opd_func {k : Nat} : opd e (.func k) = .fn k [] := id rfl
theorem ofVal_int {k : IntKind} {n : Int} : ofVal (.int k n) = .int k n := id rfl
theorem ofVal_bool {b : Bool} : ofVal (.bool b) = .bool b := id rfl
theorem ofVal_str {l : List UInt8} : ofVal (.string ⟨l.toArray⟩) = .str l := by simp [ofVal, ofCell]

variable {sl : Option Nat}
theorem op_move {x : Operand} : evOp C f sl ⟨d, .move x, ty, pos, aft, g⟩ e L G = some (.val (opd e x), L, G) := id rfl
theorem op_assign {x : Operand} : evOp C f sl ⟨d, .assign x, ty, pos, aft, g⟩ e L G = some (.val (opd e x), L, G) := id rfl
theorem op_bin {op : BinOp} {t t' : TypeId} {x y : Operand} : evOp C f sl ⟨d, .binOp op t x y t', ty, pos, aft, g⟩ e L G = valA L G (binA C.P t op (opd e x) (opd e y)) := id rfl
theorem op_un {op : UnOp} {t : TypeId} {x : Operand} : evOp C f sl ⟨d, .unOp op t x, ty, pos, aft, g⟩ e L G = valA L G (unA op (opd e x)) := id rfl
theorem op_load {t : TypeId} {a : Operand} : evOp C f sl ⟨d, .load t a, ty, pos, aft, g⟩ e L G = valA L G (loadA C.P t (opd e a) L G) := id rfl
theorem op_extract {x : Operand} {i : Nat} : evOp C f sl ⟨d, .extract x i, ty, pos, aft, g⟩ e L G = match opd e x with | .tup vs => valA L G vs[i]? | _ => none := id rfl
theorem op_store {t : TypeId} {a x : Operand} : evOp C f sl ⟨d, .store t a x, ty, pos, aft, g⟩ e L G = (storeA C.P t (opd e a) (opd e x) L G).map fun (L', G') => (.val (.tup []), L', G') := id rfl
theorem op_indexAddr {t : TypeId} {x i : Operand} : evOp C f sl ⟨d, .indexAddr t x i, ty, pos, aft, g⟩ e L G = valA L G (indexAddrA C.P t (opd e x) (opd e i) L G) := id rfl
theorem op_index {t : TypeId} {x i : Operand} : evOp C f sl ⟨d, .index t x i, ty, pos, aft, g⟩ e L G = valA L G (indexA C.P t (opd e x) (opd e i)) := id rfl
theorem op_conv {t t' : TypeId} {x : Operand} : evOp C f sl ⟨d, .convert t t' x, ty, pos, aft, g⟩ e L G = valA L G (convA C.P t t' (opd e x)) := id rfl
theorem op_slice {t : TypeId} {x : Operand} {lo hi mx : Option Operand} : evOp C f sl ⟨d, .slice t x lo hi mx, ty, pos, aft, g⟩ e L G = valA L G (sliceA C.P t (opd e x) (lo.map (opd e)) (hi.map (opd e)) (mx.map (opd e)) L G) := id rfl
theorem op_build {t : TypeId} {ps : List (Nat × Operand)} : evOp C f sl ⟨d, .build t ps.toArray, ty, pos, aft, g⟩ e L G = valA L G (buildA C.P t (ps.map fun p => (p.1, opd e p.2))) := id rfl
theorem op_part {t : TypeId} {x : Operand} {k : Nat} : evOp C f sl ⟨d, .field t x k, ty, pos, aft, g⟩ e L G = valA L G ((fieldT C.P t k).bind fun (off, ft) => match opd e x with
      | .agg cs => (cellT C.P ft).bind fun (ag, k) => (AV.agg cs).part off ag k
      | _ => none) := id rfl
theorem op_append {s x : Operand} {t t' : TypeId} : evOp C f sl ⟨d, .call ⟨.builtin .append, #[s, x], #[t, t']⟩, ty, pos, aft, g⟩ e L G =
    (elemT C.P t).bind fun el => if ((elemT C.P t').isSome || isStr C.P t') = false then none else (elemsOf L G (opd e x)).bind fun xs =>
          (appendA C.P C.A f (d.getD 0) el sl (opd e s) xs L G).map fun (w, L', G') => (.val w, L', G') := id rfl
theorem op_field {t : TypeId} {x : Operand} {k : Nat} : evOp C f sl ⟨d, .fieldAddr t x k, ty, pos, aft, g⟩ e L G = valA L G (fieldA C.P t (opd e x) k) := id rfl
theorem op_call {gn : Nat} {args : List Operand} {ts : Array TypeId} : evOp C f sl ⟨d, .call ⟨.value (.func gn), args.toArray, ts⟩, ty, pos, aft, g⟩ e L G =
    callA C gn (args.map (opd e)) L G := by
  simp [evOp, calleeOf, opd]
theorem op_len {x : Operand} {t : TypeId} : evOp C f sl ⟨d, .call ⟨.builtin .len, #[x], #[t]⟩, ty, pos, aft, g⟩ e L G = valA L G ((lenA C.P t (opd e x)).map fun (n : Nat) => AV.int .i64 (n : Int)) := id rfl
theorem slot_nil {k : Nat} : slotted C f k [] = [] := id rfl
theorem slot_cons {k : Nat} {o : Oper} {l : List Oper} : slotted C f k (o :: l) = if clsOf C f o = .c ∨ clsOf C f o = .t then (o, some k) :: slotted C f (k + 1) l else (o, none) :: slotted C f k l := id rfl
theorem slots_nil : slotsIn C f [] = 0 := id rfl
theorem slots_cons {o : Oper} {l : List Oper} : slotsIn C f (o :: l) = if clsOf C f o = .c ∨ clsOf C f o = .t then slotsIn C f l + 1 else slotsIn C f l := id rfl
theorem draws_nil {b : Nat} : evDraws C f ops b [] e L G = some (.nor, e, L, G) := id rfl
theorem draws_one {b : Nat} {op : Op} {rs : List (Oper × Option Nat)} : evDraws C f ops b ((⟨d, op, ty, pos, aft, none⟩, sl) :: rs) e L G =
    if drawStep C f b ⟨d, op, ty, pos, aft, none⟩ e = true then stepD (evOp C f sl ⟨d, op, ty, pos, aft, none⟩ e L G) fun v L' G' => evDraws C f ops b rs (putE e d v) L' G' else none := id rfl
theorem draws_guard {b : Nat} {op : Op} {j : Nat} {w : Bool} {rs : List (Oper × Option Nat)} : evDraws C f ops b ((⟨d, op, ty, pos, aft, some (j, w)⟩, sl) :: rs) e L G =
    wantA (wantedA ops ⟨d, op, ty, pos, aft, some (j, w)⟩ e) (if drawStep C f b ⟨d, op, ty, pos, aft, some (j, w)⟩ e = true then stepD (evOp C f sl ⟨d, op, ty, pos, aft, some (j, w)⟩ e L G) fun v L' G' => evDraws C f ops b rs (putE e d v) L' G' else none)
      (evDraws C f ops b rs (putE e d (.tup [])) L G) := id rfl
theorem ds_move {b : Nat} {x : Operand} : drawStep C f b ⟨d, .move x, ty, pos, aft, g⟩ e = true := id rfl
theorem ds_assign {b : Nat} {x : Operand} : drawStep C f b ⟨d, .assign x, ty, pos, aft, g⟩ e = true := id rfl
theorem ds_pick {b : Nat} {x y z : Operand} : drawStep C f b ⟨d, .pick x y z, ty, pos, aft, g⟩ e = true := id rfl
theorem ds_build {b : Nat} {t : TypeId} {ps : Array (Nat × Operand)} : drawStep C f b ⟨d, .build t ps, ty, pos, aft, g⟩ e = true := id rfl
theorem ds_buildSlice {b : Nat} {t : TypeId} {n : Nat} {ps : Array (Nat × Operand)} : drawStep C f b ⟨d, .buildSlice t n ps, ty, pos, aft, g⟩ e = true := id rfl
theorem ds_nilCheck {b : Nat} {x : Operand} : drawStep C f b ⟨d, .nilCheck x, ty, pos, aft, g⟩ e = true := id rfl
theorem ds_binOp {b : Nat} {o : BinOp} {t t' : TypeId} {x y : Operand} : drawStep C f b ⟨d, .binOp o t x y t', ty, pos, aft, g⟩ e = true := id rfl
theorem ds_unOp {b : Nat} {o : UnOp} {t : TypeId} {x : Operand} : drawStep C f b ⟨d, .unOp o t x, ty, pos, aft, g⟩ e = true := id rfl
theorem ds_convert {b : Nat} {t t' : TypeId} {x : Operand} : drawStep C f b ⟨d, .convert t t' x, ty, pos, aft, g⟩ e = true := id rfl
theorem ds_fieldAddr {b : Nat} {t : TypeId} {x : Operand} {k : Nat} : drawStep C f b ⟨d, .fieldAddr t x k, ty, pos, aft, g⟩ e = true := id rfl
theorem ds_field {b : Nat} {t : TypeId} {x : Operand} {k : Nat} : drawStep C f b ⟨d, .field t x k, ty, pos, aft, g⟩ e = true := id rfl
theorem ds_index {b : Nat} {t : TypeId} {x y : Operand} : drawStep C f b ⟨d, .index t x y, ty, pos, aft, g⟩ e = true := id rfl
theorem ds_extract {b : Nat} {x : Operand} {k : Nat} : drawStep C f b ⟨d, .extract x k, ty, pos, aft, g⟩ e = true := id rfl
theorem ds_makeInterface {b : Nat} {t : TypeId} {x : Operand} : drawStep C f b ⟨d, .makeInterface t x, ty, pos, aft, g⟩ e = true := id rfl
theorem ds_alloc {b : Nat} {t : TypeId} : drawStep C f b ⟨d, .alloc t, ty, pos, aft, g⟩ e = true := id rfl
theorem ds_box {b : Nat} {t : TypeId} {x : Operand} : drawStep C f b ⟨d, .box t x, ty, pos, aft, g⟩ e = true := id rfl
theorem ds_store {b : Nat} {t : TypeId} {x y : Operand} : drawStep C f b ⟨d, .store t x y, ty, pos, aft, g⟩ e = true := id rfl
theorem ds_makeFunc {b : Nat} {k : Fn} {p q : Array Operand} : drawStep C f b ⟨d, .makeFunc k p q, ty, pos, aft, g⟩ e = true := id rfl
theorem ds_len {b : Nat} {p : Array Operand} {q : Array TypeId} : drawStep C f b ⟨d, .call ⟨.builtin .len, p, q⟩, ty, pos, aft, g⟩ e = true := id rfl
theorem ds_min {b : Nat} {p : Array Operand} {q : Array TypeId} : drawStep C f b ⟨d, .call ⟨.builtin .min, p, q⟩, ty, pos, aft, g⟩ e = true := id rfl
theorem ds_max {b : Nat} {p : Array Operand} {q : Array TypeId} : drawStep C f b ⟨d, .call ⟨.builtin .max, p, q⟩, ty, pos, aft, g⟩ e = true := id rfl
theorem ds_load {b : Nat} {t : TypeId} {x : Operand} : drawStep C f b ⟨d, .load t x, ty, pos, aft, g⟩ e = oldPtr b (opd e x) := id rfl
theorem ds_indexAddr {b : Nat} {t : TypeId} {x y : Operand} : drawStep C f b ⟨d, .indexAddr t x y, ty, pos, aft, g⟩ e = oldPtr b (opd e x) := id rfl
theorem ds_slice {b : Nat} {t : TypeId} {x : Operand} {l h m : Option Operand} : drawStep C f b ⟨d, .slice t x l h m, ty, pos, aft, g⟩ e = oldPtr b (opd e x) := id rfl
theorem ds_call {b k : Nat} {p : List Operand} {q : Array TypeId} : drawStep C f b ⟨d, .call ⟨.value (.func k), p.toArray, q⟩, ty, pos, aft, g⟩ e = (C.A.sees k || (C.A.orc k).isSome || pfs (handAs true (p.map (opd e)))) := id rfl
theorem ds_append {b : Nat} {x y : Operand} {q : Array TypeId} : drawStep C f b ⟨d, .call ⟨.builtin .append, #[x, y], q⟩, ty, pos, aft, g⟩ e = if C.A.rows f (d.getD 0) = true then true else tokOk (!C.A.glob f (d.getD 0)) [opd e x, opd e y] := by
  unfold drawStep clsOf
  cases C.A.rows f (d.getD 0) <;> cases C.A.glob f (d.getD 0) <;> simp
theorem tok_no {w : Bool} {es fs : List AV} {u : Tok} : tokOk w [.sl es .no, .sl fs u] = true := id rfl
theorem tok_full {w : Bool} {es fs : List AV} {u : Tok} : tokOk w [.sl es .full, .sl fs u] = true := id rfl
theorem tok_own {w l : Bool} {a : Nat} {es fs : List AV} {u : Tok} : tokOk w [.sl es (.own l a), .sl fs u] = (l == w) := id rfl
theorem draws_step {b : Nat} {op : Op} {rs : List (Oper × Option Nat)} (h : drawStep C f b ⟨d, op, ty, pos, aft, none⟩ e = true) : evDraws C f ops b ((⟨d, op, ty, pos, aft, none⟩, sl) :: rs) e L G =
    stepD (evOp C f sl ⟨d, op, ty, pos, aft, none⟩ e L G) fun v L' G' => evDraws C f ops b rs (putE e d v) L' G' := by rw [draws_one, if_pos h]
theorem draws_yes {b : Nat} {op : Op} {j : Nat} {w : Bool} {rs : List (Oper × Option Nat)} (hw : wantedA ops ⟨d, op, ty, pos, aft, some (j, w)⟩ e = some true) (h : drawStep C f b ⟨d, op, ty, pos, aft, some (j, w)⟩ e = true) :
    evDraws C f ops b ((⟨d, op, ty, pos, aft, some (j, w)⟩, sl) :: rs) e L G = stepD (evOp C f sl ⟨d, op, ty, pos, aft, some (j, w)⟩ e L G) fun v L' G' => evDraws C f ops b rs (putE e d v) L' G' := by rw [draws_guard, hw, if_pos h]; rfl
theorem draws_no {b : Nat} {op : Op} {j : Nat} {w : Bool} {rs : List (Oper × Option Nat)} (hw : wantedA ops ⟨d, op, ty, pos, aft, some (j, w)⟩ e = some false) :
    evDraws C f ops b ((⟨d, op, ty, pos, aft, some (j, w)⟩, sl) :: rs) e L G = evDraws C f ops b rs (putE e d (.tup [])) L G := by rw [draws_guard, hw]; rfl
theorem op_pick {c a b : Operand} : evOp C f sl ⟨d, .pick c a b, ty, pos, aft, g⟩ e L G = match opd e c with | .bool t => valA L G (some (if t then opd e a else opd e b)) | _ => none := id rfl
theorem op_min {x y : Operand} {ts : Array TypeId} : evOp C f sl ⟨d, .call ⟨.builtin .min, #[x, y], ts⟩, ty, pos, aft, g⟩ e L G = valA L G (minA (opd e x) (opd e y)) := by
  simp [evOp, evOp0, calleeOf, foldA]
theorem op_max {x y : Operand} {ts : Array TypeId} : evOp C f sl ⟨d, .call ⟨.builtin .max, #[x, y], ts⟩, ty, pos, aft, g⟩ e L G = valA L G (maxA (opd e x) (opd e y)) := by
  simp [evOp, evOp0, calleeOf, foldA]
theorem op_alloc {t : TypeId} : evOp C f sl ⟨d, .alloc t, ty, pos, aft, g⟩ e L G = (zeroT C.P t).bind fun z => if z.flat = true ∧ z.cells.length ≠ 0 ∧ ((!C.A.glob f (d.getD 0)) = true ∨ z.noL = true) then
      some (.val (.ptr (!C.A.glob f (d.getD 0)) (newBlk (!C.A.glob f (d.getD 0)) sl (.row 0 [z]) L G).1 0 0 0), (newBlk (!C.A.glob f (d.getD 0)) sl (.row 0 [z]) L G).2.1, (newBlk (!C.A.glob f (d.getD 0)) sl (.row 0 [z]) L G).2.2) else none := id rfl
theorem op_box {t : TypeId} {x : Operand} : evOp C f sl ⟨d, .box t x, ty, pos, aft, g⟩ e L G = if (opd e x).flat = true ∧ (opd e x).cells.length ≠ 0 ∧ ((!C.A.glob f (d.getD 0)) = true ∨ (opd e x).noL = true) then
      some (.val (.ptr (!C.A.glob f (d.getD 0)) (newBlk (!C.A.glob f (d.getD 0)) sl (.row 0 [opd e x]) L G).1 0 0 0), (newBlk (!C.A.glob f (d.getD 0)) sl (.row 0 [opd e x]) L G).2.1, (newBlk (!C.A.glob f (d.getD 0)) sl (.row 0 [opd e x]) L G).2.2) else none := id rfl
theorem op_buildSlice {t : TypeId} {n : Nat} {ps : List (Nat × Operand)} : evOp C f sl ⟨d, .buildSlice t n ps.toArray, ty, pos, aft, g⟩ e L G = (elemT C.P t).bind fun el => (zeroT C.P el).bind fun z =>
      (listA (szT C.P el) (List.replicate n z) (ps.map fun p => (p.1, handY (opd e p.2)))).bind fun es =>
      if n * szT C.P el ≤ 2 ^ 20 ∧ zeroSz C.P el = szT C.P el ∧ z.flat = true ∧ C.A.rows f (d.getD 0) = false then some (.val (.sl es .full), L, G) else none := id rfl
theorem op_nilCheck {x : Operand} : evOp C f sl ⟨d, .nilCheck x, ty, pos, aft, g⟩ e L G = match opd e x with
    | .ptr loc b g i k => some (.val (.ptr loc b g i k), L, G)
    | .rptr w k => some (.val (.rptr w k), L, G)
    | .fn g cs => some (.val (.fn g cs), L, G)
    | _ => none := id rfl
theorem op_makeFunc {k : Nat} {caps : List Operand} : evOp C f sl ⟨d, .makeFunc (.func k) #[] caps.toArray, ty, pos, aft, g⟩ e L G = valA L G (some (.fn k (caps.map (opd e)))) := id rfl
theorem op_makeMap {t : TypeId} : evOp C f sl ⟨d, .makeMap t none, ty, pos, aft, g⟩ e L G = if (mapT C.P t).isNone = true then none else
      some (.val (.mp (!C.A.glob f (d.getD 0)) (newBlk (!C.A.glob f (d.getD 0)) sl (.map []) L G).1), (newBlk (!C.A.glob f (d.getD 0)) sl (.map []) L G).2.1, (newBlk (!C.A.glob f (d.getD 0)) sl (.map []) L G).2.2) := id rfl
theorem op_lookup {t : TypeId} {m k : Operand} {ok : Bool} : evOp C f sl ⟨d, .lookup t m k ok, ty, pos, aft, g⟩ e L G = valA L G (lookupA C.P t (opd e m) (opd e k) ok L G) := id rfl
theorem op_insert {t : TypeId} {m k x : Operand} : evOp C f sl ⟨d, .insert t m k x, ty, pos, aft, g⟩ e L G = (updateA C.P t (opd e m) (opd e k) (opd e x) L G).map fun (L', G') => (.val (.tup []), L', G') := id rfl
theorem op_mapUpdate {t : TypeId} {m k x : Operand} : evOp C f sl ⟨d, .mapUpdate t m k x, ty, pos, aft, g⟩ e L G = (updateA C.P t (opd e m) (opd e k) (opd e x) L G).map fun (L', G') => (.val (.tup []), L', G') := id rfl
theorem op_iface {t : TypeId} {x : Operand} : evOp C f sl ⟨d, .makeInterface t x, ty, pos, aft, g⟩ e L G = valA L G (if isIf C.P t then none else some (.ifc t (handA true (opd e x)))) := id rfl
theorem op_callv {t : Nat} {args : List Operand} {ts : Array TypeId} : evOp C f sl ⟨d, .call ⟨.value (.tmp t), args.toArray, ts⟩, ty, pos, aft, g⟩ e L G =
    match getE e t with | .fn k caps => callA C k (args.map (opd e) ++ caps) L G | _ => none := id rfl
theorem op_copy {x y : Operand} {t t' : TypeId} : evOp C f sl ⟨d, .call ⟨.builtin .copy, #[x, y], #[t, t']⟩, ty, pos, aft, g⟩ e L G = (elemT C.P t).bind fun el => (slicedA L G (opd e y)).bind fun xs =>
          (copyA C.P el (opd e x) xs L G).map fun (n, L', G') => (.val (.int .i64 (n : Int)), L', G') := id rfl
theorem new_loc {x : Blk} : newBlk true none x L G = (L.length, L ++ [x], G) := id rfl
theorem new_slot {k : Nat} {x : Blk} : newBlk true (some k) x L G = (k, L.set k x, G) := id rfl
theorem new_glob {x : Blk} : newBlk false sl x L G = (G.length, L, G ++ [x]) := id rfl
/-- a callee that sees no heap, whose arguments lead into none -/
theorem call_pure {P : Program} {A : Ann} {k : Nat} {args : List AV} {v : AV} {G' : Hp} (ho : A.orc k = none) (hs : A.sees k = false) (ha : pfs (handAs true args) = true) (hv : v.pf = true) (h : ev P A k (handAs true args) [] = some (.val v, G')) :
    callA (cfg P A) k args L G = some (.val v, L, G) := by
  unfold callA
  have ho' : (cfg P A).A.orc k = none := ho
  have hs' : (cfg P A).A.sees k = false := hs
  have h' : (cfg P A).call k (handAs true args) [] = some (.val v, G') := h
  simp only [ho', hs', ha, h', hv, Bool.false_eq_true, if_false, if_true]
theorem call_sees {P : Program} {A : Ann} {k : Nat} {args : List AV} {v : AV} {G' : Hp} (ho : A.orc k = none) (hs : A.sees k = true) (ha : noLs (handAs false args) = true) (hv : v.noL = true) (h : ev P A k (handAs false args) G = some (.val v, G')) :
    callA (cfg P A) k args L G = some (.val v, L, G') := by
  unfold callA
  have ho' : (cfg P A).A.orc k = none := ho
  have hs' : (cfg P A).A.sees k = true := hs
  have h' : (cfg P A).call k (handAs false args) G = some (.val v, G') := h
  simp only [ho', hs', ha, h', hv, if_true]
theorem list_guard {op : Op} {j : Nat} {b : Bool} : evList C f ops (⟨d, op, ty, pos, aft, some (j, b)⟩ :: rest) e L G =
    wantA (wantedA ops ⟨d, op, ty, pos, aft, some (j, b)⟩ e) (stepA (evOp C f none ⟨d, op, ty, pos, aft, some (j, b)⟩ e L G) e fun v L' G' => evList C f ops rest (putE e d v) L' G')
      (evList C f ops rest (putE e d (.tup [])) L G) := id rfl
theorem list_yes {op : Op} {j : Nat} {b : Bool} (hw : wantedA ops ⟨d, op, ty, pos, aft, some (j, b)⟩ e = some true) : evList C f ops (⟨d, op, ty, pos, aft, some (j, b)⟩ :: rest) e L G =
    stepA (evOp C f none ⟨d, op, ty, pos, aft, some (j, b)⟩ e L G) e fun v L' G' => evList C f ops rest (putE e d v) L' G' := by rw [list_guard, hw]; rfl
theorem list_no {op : Op} {j : Nat} {b : Bool} (hw : wantedA ops ⟨d, op, ty, pos, aft, some (j, b)⟩ e = some false) : evList C f ops (⟨d, op, ty, pos, aft, some (j, b)⟩ :: rest) e L G =
    evList C f ops rest (putE e d (.tup [])) L G := by rw [list_guard, hw]; rfl
theorem want_guard {op : Op} {j : Nat} {b : Bool} : wantedA ops ⟨d, op, ty, pos, aft, some (j, b)⟩ e = match (ops[j]?).bind (·.dst) with
    | none => some false
    | some d => match getE? e d with
      | some (.bool c) => some (c == b)
      | some (.tup []) => some false
      | _ => none := id rfl
end
end Ev
