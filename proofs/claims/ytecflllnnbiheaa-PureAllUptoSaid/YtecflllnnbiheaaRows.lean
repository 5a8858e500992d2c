/-
  NARROWER THAN 'FOR EVERY INPUT', by the rows' own cells (each row's printed sentence says how): PureAll: loops.
  DERIVED. THE GIVEN ROWS OF THIS SEAT. 3 by the template 'for every input the law returns true; each argument reads behind the call as it read before'; 0 by the template 'total and deterministic' (their statements: YtecflllnnbiheaaTotals.lean).
  GIVEN WITH THE SEED: the statements are not yours to turn. If you find one false, say at which input.
  Laid BY PROGRAM, IN A SANDBOX (cutbox-rows.mjs): the forced cells as the released guide's own fill.sh prints them over the translation 7b143ede199c9c1b… (all of the seat's roots in one cut). By AI agents, Wed Nov 11 2026. No macro, syntax, notation, axiom, sorry.
-/
import Derived.Test.YtecflllnnbiheaaChecked
import GoSem.Claim
import GoSem.ClaimJoined
import GoSem.ClaimMapViews
import Derived.JoinedTies
import Derived.KernelRfl
namespace Go.Proofs.Ytecflllnnbiheaa
/- THE CELL 'sum', in the pinned program and in every row, IS THE sha256 OF THE DUMP (.gsa) THAT YtecflllnnbiheaaProg.lean LOADS. Nothing in Lean hashes anything: it is a label: what it is worth is what the hold of that sum in a sandbox is worth. -/
noncomputable def Try.pinned : Pinned := { name := "ytecflllnnbiheaa", sum := "7b143ede199c9c1b979973d6351e1255625684b8f50a924142ad24b465d18c87", checked := Try.checked }
namespace Rows
def none {H : Type} : Left H := { results := [], args := [] }

/-- 'wainwrightlaw12.CodeNumbers': WHATEVER THE INPUT: true; the input reads as it did. -/
def codeNumbersSpec : ChangeSpec := { name := "codeNumbers", fn := fun _ => fun
  | [d1, d2, d3, d4] => { results := [.lit (.bool true)], args := [d1, d2, d3, d4] }
  | _ => none }
def codeNumbersRow : OpenClaim := { program := "ytecflllnnbiheaa", sum := "7b143ede199c9c1b979973d6351e1255625684b8f50a924142ad24b465d18c87", func := "wainwright/wainwrightlaw12.CodeNumbers", spec := "codeNumbers", unfollowed := true, recurses := true, apart := false }
def CodeNumbersSaid : Prop := codeNumbersRow.holds Try.pinned (OpenSpec.ofChange codeNumbersSpec)

/-- ITS FALSE NEIGHBOUR: 'it returns false'. Refute it at one input. -/
def codeNumbersWrong : ChangeSpec := { name := "codeNumbers", fn := fun _ => fun
  | [d1, d2, d3, d4] => { results := [.lit (.bool false)], args := [d1, d2, d3, d4] }
  | _ => none }
def CodeNumbersWrongFalsely : Prop := codeNumbersRow.holds Try.pinned (OpenSpec.ofChange codeNumbersWrong)

/-- 'wainwrightlaw13.SoundNumbers': WHATEVER THE INPUT: true; the input reads as it did. -/
def soundNumbersSpec : ChangeSpec := { name := "soundNumbers", fn := fun _ => fun
  | [d1, d2, d3, d4] => { results := [.lit (.bool true)], args := [d1, d2, d3, d4] }
  | _ => none }
def soundNumbersRow : OpenClaim := { program := "ytecflllnnbiheaa", sum := "7b143ede199c9c1b979973d6351e1255625684b8f50a924142ad24b465d18c87", func := "wainwright/wainwrightlaw13.SoundNumbers", spec := "soundNumbers", recurses := true, apart := false }
def SoundNumbersSaid : Prop := soundNumbersRow.holds Try.pinned (OpenSpec.ofChange soundNumbersSpec)

/-- ITS FALSE NEIGHBOUR: 'it returns false'. Refute it at one input. -/
def soundNumbersWrong : ChangeSpec := { name := "soundNumbers", fn := fun _ => fun
  | [d1, d2, d3, d4] => { results := [.lit (.bool false)], args := [d1, d2, d3, d4] }
  | _ => none }
def SoundNumbersWrongFalsely : Prop := soundNumbersRow.holds Try.pinned (OpenSpec.ofChange soundNumbersWrong)

/-- 'wainwrightlaw16.PureAll': WHATEVER THE INPUT: true; the input reads as it did. -/
def pureAllSpec : ChangeSpec := { name := "pureAll", fn := fun _ => fun
  | [d1, d2] => { results := [.lit (.bool true)], args := [d1, d2] }
  | _ => none }
def pureAllRow : OpenClaim := { program := "ytecflllnnbiheaa", sum := "7b143ede199c9c1b979973d6351e1255625684b8f50a924142ad24b465d18c87", func := "wainwright/wainwrightlaw16.PureAll", spec := "pureAll", unfollowed := true, recurses := true, loops := true, apart := false }
def PureAllSaid : Prop := pureAllRow.holds Try.pinned (OpenSpec.ofChange pureAllSpec)

/-- ITS FALSE NEIGHBOUR: 'it returns false'. Refute it at one input. -/
def pureAllWrong : ChangeSpec := { name := "pureAll", fn := fun _ => fun
  | [d1, d2] => { results := [.lit (.bool false)], args := [d1, d2] }
  | _ => none }
def PureAllWrongFalsely : Prop := pureAllRow.holds Try.pinned (OpenSpec.ofChange pureAllWrong)

/- THE SECOND FORM. 'bulk': how many values and letters a reading holds, each counted each time it is reached (what is shared counts as often as it is met; a slice's spare places count too). A statement '..UptoSaid' is the law's where the arguments, and the package variables that the reading takes, are together of bulk at most 1048576: NARROWER than '..Said'. Prove '..Said' where nothing that the law and all that it calls make is longer than what came in: it says more and counts as full. Else prove '..UptoSaid'. A law counts once. -/
mutual
def uptoBulk {H : Type} : DataW H → Nat
  | .lit (.string bytes) => bytes.length + 1
  | .lit _ => 1
  | .nil => 1
  | .ptr d => uptoBulk d + 1
  | .slice elems spare => uptoBulkAll elems + uptoBulkAll spare + 1
  | .agg parts => uptoBulkAll parts + 1
  | .iface _ d => uptoBulk d + 1
  | .map entries => uptoBulkEntries entries + 1
  | .held _ => 1
def uptoBulkAll {H : Type} : List (DataW H) → Nat
  | [] => 0
  | d :: r => uptoBulk d + uptoBulkAll r
def uptoBulkEntries {H : Type} : List (Lit × DataW H) → Nat
  | [] => 0
  | x :: r => uptoBulkEntry x + uptoBulkEntries r
def uptoBulkEntry {H : Type} : Lit × DataW H → Nat
  | (.string bytes, d) => bytes.length + uptoBulk d + 1
  | (_, d) => uptoBulk d + 1
 end
def uptoSmall : (H : Type) → List (DataW H) → Bool := fun _ ds => decide (uptoBulkAll ds ≤ 1048576)
def OpenSpec.upto (s : _root_.Go.ChangeSpec) : _root_.Go.OpenSpec := { _root_.Go.OpenSpec.ofChange s with cond := some uptoSmall }

/-- 'wainwrightlaw12.CodeNumbers', WHERE WHAT IT READS IS OF BULK AT MOST 1048576: true; the input reads as it did. -/
def codeNumbersUptoRow : OpenClaim := { program := "ytecflllnnbiheaa", sum := "7b143ede199c9c1b979973d6351e1255625684b8f50a924142ad24b465d18c87", func := "wainwright/wainwrightlaw12.CodeNumbers", spec := "codeNumbers", unfollowed := true, recurses := true, apart := false, narrowed := true }
def CodeNumbersUptoSaid : Prop := codeNumbersUptoRow.holds Try.pinned (OpenSpec.upto codeNumbersSpec)

/-- 'wainwrightlaw13.SoundNumbers', WHERE WHAT IT READS IS OF BULK AT MOST 1048576: true; the input reads as it did. -/
def soundNumbersUptoRow : OpenClaim := { program := "ytecflllnnbiheaa", sum := "7b143ede199c9c1b979973d6351e1255625684b8f50a924142ad24b465d18c87", func := "wainwright/wainwrightlaw13.SoundNumbers", spec := "soundNumbers", recurses := true, apart := false, narrowed := true }
def SoundNumbersUptoSaid : Prop := soundNumbersUptoRow.holds Try.pinned (OpenSpec.upto soundNumbersSpec)

/-- 'wainwrightlaw16.PureAll', WHERE WHAT IT READS IS OF BULK AT MOST 1048576: true; the input reads as it did. -/
def pureAllUptoRow : OpenClaim := { program := "ytecflllnnbiheaa", sum := "7b143ede199c9c1b979973d6351e1255625684b8f50a924142ad24b465d18c87", func := "wainwright/wainwrightlaw16.PureAll", spec := "pureAll", unfollowed := true, recurses := true, loops := true, apart := false, narrowed := true }
def PureAllUptoSaid : Prop := pureAllUptoRow.holds Try.pinned (OpenSpec.upto pureAllSpec)

end Rows
end Go.Proofs.Ytecflllnnbiheaa
