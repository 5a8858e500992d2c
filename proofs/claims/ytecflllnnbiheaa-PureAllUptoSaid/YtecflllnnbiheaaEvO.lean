/- Functions of the library that are known by what they come to: slices.Sort, slices.Compact at []string. -/
import Derived.Test.YtecflllnnbiheaaEv0
set_option maxHeartbeats 4000000
set_option linter.unusedVariables false
set_option linter.unusedSimpArgs false
namespace Ev
open Go
def strsOf : List AV → Option (List (List UInt8))
  | [] => some []
  | .str s :: l => (strsOf l).map (s :: ·)
  | _ => none
def insS (x : List UInt8) : List (List UInt8) → List (List UInt8)
  | [] => [x]
  | y :: l => if bytesLt y x = true then y :: insS x l else x :: y :: l
def sortS : List (List UInt8) → List (List UInt8)
  | [] => []
  | x :: l => insS x (sortS l)
/-- of equal texts side by side the last one -/
def compS : List (List UInt8) → List (List UInt8)
  | [] => []
  | [x] => [x]
  | x :: y :: l => if x = y then compS (y :: l) else x :: compS (y :: l)
/-- a row's part turned into other texts -/
def rowStrA (F : List (List UInt8) → List (List UInt8)) (loc : Bool) (b g off len : Nat) (L G : Hp) : Option (List (List UInt8) × Hp × Hp) :=
  match (hpOf loc L G)[b]? with
  | some (.row g' es) =>
    if g' = g ∧ off + len ≤ es.length ∧ len ≠ 0 ∧ len < 2 ^ 40 then
      (strsOf ((es.drop off).take len)).map fun zs => (zs, setHp loc b (.row g (es.take off ++ (F zs).map .str ++ es.drop (off + (F zs).length))) L G)
    else none
  | _ => none
def sortA (args : List AV) (L G : Hp) : Option (AV × Hp × Hp) :=
  match args with
  | [.sl [] _] => some (.tup [], L, G)
  | [.hs loc b g off len] => (rowStrA sortS loc b g off len L G).map fun (_, L', G') => (.tup [], L', G')
  | _ => none
def compactA (args : List AV) (L G : Hp) : Option (AV × Hp × Hp) :=
  match args with
  | [.sl [] t] => some (.sl [] t, L, G)
  | [.hs loc b g off len] => (rowStrA (fun zs => compS zs ++ List.replicate (zs.length - (compS zs).length) []) loc b g off len L G).map fun (zs, L', G') => (.hs loc b g off (compS zs).length, L', G')
  | _ => none
end Ev
