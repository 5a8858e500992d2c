/- What the evaluator is told of the seat's functions: printed by ann.py. -/
import Derived.Test.YtecflllnnbiheaaEv2
import Derived.Test.YtecflllnnbiheaaEvO
import Derived.Attr
set_option maxHeartbeats 4000000
set_option linter.unusedVariables false
set_option linter.unusedSimpArgs false
namespace Ev
open Go
def live2 : Nat → Option (List Nat)
  | 0 => some []
  | _ => none
def exits2 : Nat → Option (List Nat)
  | _ => none
def live3 : Nat → Option (List Nat)
  | 0 => some [0, 1, 6, 7]
  | 1 => some [0, 1, 6, 7, 20]
  | 2 => some [8]
  | 3 => some [6, 7, 9, 10]
  | 4 => some [6, 7, 9, 31]
  | 5 => some [8]
  | 6 => some [6, 7, 9, 11, 12]
  | 7 => some [8]
  | _ => none
def exits3 : Nat → Option (List Nat)
  | _ => none
def live4 : Nat → Option (List Nat)
  | 0 => some [0, 1, 2, 3]
  | 1 => some [1, 2, 3, 9, 10]
  | 2 => some [1, 2, 3, 9, 25]
  | 3 => some [8]
  | 4 => some [1, 2, 3, 11]
  | 5 => some [1, 2, 3, 11, 38]
  | 6 => some [8]
  | 7 => some [1, 2, 3, 11, 12]
  | 8 => some [1, 2, 3, 11, 12, 13]
  | 9 => some [2, 3, 11, 12, 13, 14, 15]
  | 10 => some [3, 11, 12, 13, 14, 15, 59]
  | 11 => some [11, 12, 13, 14, 15, 16]
  | 12 => some [11, 12, 13, 14, 15, 67]
  | 13 => some [11, 12, 13, 14, 15]
  | 14 => some [11, 12, 13]
  | 15 => some [3, 11, 12, 13, 14, 15, 59, 85]
  | 16 => some [11, 12, 13]
  | 17 => some [3, 11, 12, 13, 14, 15, 59, 92]
  | 18 => some [11, 12, 13]
  | 19 => some [3, 11, 12, 13, 14, 15, 59, 99]
  | 20 => some [11, 12, 13]
  | 21 => some [11, 12, 13, 14, 15, 59, 109]
  | 22 => some [11, 12, 13]
  | 23 => some [11, 12, 13, 14, 15, 59, 119]
  | 24 => some [11, 12, 13]
  | 25 => some [11, 12, 13, 14, 15, 128]
  | 26 => some [11, 12, 13]
  | 27 => some [12, 13, 17]
  | 28 => some [17]
  | 29 => some [8]
  | _ => none
def exits4 : Nat → Option (List Nat)
  | 0 => some [11, 12, 13]
  | _ => none
def live5 : Nat → Option (List Nat)
  | 0 => some [1, 2]
  | 1 => some [1, 2, 9]
  | 2 => some [4]
  | 3 => some [2, 5, 6]
  | 4 => some [4]
  | _ => none
def exits5 : Nat → Option (List Nat)
  | _ => none
def live6 : Nat → Option (List Nat)
  | 0 => some [1]
  | 1 => some [1, 3]
  | 2 => some [1, 3, 4]
  | 3 => some [1, 3, 4, 14]
  | 4 => some [1, 3, 4]
  | 5 => some [1, 3, 4]
  | 6 => some [1, 3, 4, 5]
  | 7 => some [1, 3, 4, 5, 36]
  | 8 => some [1, 3, 4, 5]
  | 9 => some [1, 3, 4, 5, 62]
  | 10 => some [2]
  | 11 => some [2]
  | _ => none
def exits6 : Nat → Option (List Nat)
  | 0 => some [1, 3]
  | 1 => some [1, 3, 4]
  | 2 => some [1, 3, 4]
  | 3 => some [1, 3, 4, 5]
  | _ => none
def live7 : Nat → Option (List Nat)
  | 0 => some []
  | 1 => some [1]
  | 2 => some [3]
  | 3 => some [0]
  | _ => none
def exits7 : Nat → Option (List Nat)
  | _ => none
def live8 : Nat → Option (List Nat)
  | 0 => some [0, 2]
  | 1 => some [2, 3]
  | _ => none
def exits8 : Nat → Option (List Nat)
  | _ => none
def live9 : Nat → Option (List Nat)
  | 0 => some [0, 1]
  | 1 => some [0, 5]
  | 2 => some [0, 5, 17]
  | 3 => some [4]
  | 4 => some [0, 5, 6]
  | 5 => some [0, 5, 6, 7]
  | 6 => some [0, 5, 6, 7, 8]
  | 7 => some [0, 6, 7, 8, 31]
  | 8 => some [0, 6, 7, 8, 31, 32]
  | 9 => some [4]
  | 10 => some [0, 6, 7, 8, 42]
  | 11 => some [4]
  | 12 => some [4]
  | _ => none
def exits9 : Nat → Option (List Nat)
  | 0 => some [0, 6, 7, 8]
  | _ => none
def live10 : Nat → Option (List Nat)
  | 0 => some [0]
  | 1 => some [3]
  | 2 => some [3, 4]
  | 3 => some [3, 4, 5]
  | 4 => some [3, 4, 5, 23]
  | 5 => some [3, 4, 5]
  | 6 => some [3, 4, 5]
  | 7 => some [2]
  | _ => none
def exits10 : Nat → Option (List Nat)
  | 0 => some [4]
  | 1 => some [3, 4, 5]
  | _ => none
def live11 : Nat → Option (List Nat)
  | 0 => some [2, 3]
  | 1 => some [4]
  | _ => none
def exits11 : Nat → Option (List Nat)
  | _ => none
def live12 : Nat → Option (List Nat)
  | 0 => some [2, 3]
  | 1 => some [2, 3, 13]
  | 2 => some [4]
  | 3 => some [2, 3, 5]
  | 4 => some [2, 3, 5, 18]
  | 5 => some [2, 3, 5]
  | 6 => some [2, 3, 5, 33]
  | 7 => some [4]
  | 8 => some [2, 3, 5, 6]
  | 9 => some [2, 3, 5, 6, 41]
  | 10 => some [2, 3, 5, 6]
  | 11 => some [2, 3, 5, 6, 61]
  | 12 => some [4]
  | 13 => some [4]
  | _ => none
def exits12 : Nat → Option (List Nat)
  | 0 => some []
  | 1 => some [2, 3, 5]
  | 2 => some [2, 3, 5]
  | 3 => some [2, 3, 5, 6]
  | _ => none
def live13 : Nat → Option (List Nat)
  | 0 => some [1]
  | 1 => some [1, 3]
  | 2 => some [3, 7, 8, 9]
  | 3 => some [3, 7, 8, 9, 10]
  | 4 => some [3, 5, 7, 8, 9]
  | 5 => some [3, 7, 8, 9]
  | 6 => some [3, 7, 8, 9]
  | 7 => some [2]
  | _ => none
def exits13 : Nat → Option (List Nat)
  | 0 => some [3]
  | 1 => some [3, 7, 8, 9]
  | _ => none
def live14 : Nat → Option (List Nat)
  | 0 => some [1]
  | 1 => some [1, 3]
  | 2 => some [1, 3, 4]
  | 3 => some [1, 3, 4, 9]
  | 4 => some [1, 3, 4]
  | 5 => some [1, 3, 4]
  | 6 => some [2]
  | _ => none
def exits14 : Nat → Option (List Nat)
  | 0 => some [3]
  | 1 => some [1, 3, 4]
  | _ => none
def live15 : Nat → Option (List Nat)
  | 0 => some [1, 2]
  | 1 => some [1, 2, 3]
  | 2 => some [1, 2, 3, 4]
  | 3 => some [1, 2, 3, 4, 5]
  | 4 => some [1, 2, 3, 4, 5, 6]
  | 5 => some [1, 2, 3, 4]
  | 6 => some [2, 3, 7]
  | 7 => some [2, 3]
  | 8 => some [2]
  | _ => none
def exits15 : Nat → Option (List Nat)
  | _ => none
def live16 : Nat → Option (List Nat)
  | 0 => some [1, 2]
  | 1 => some [1, 2, 3]
  | 2 => some [2, 3]
  | 3 => some [2]
  | _ => none
def exits16 : Nat → Option (List Nat)
  | _ => none
def live17 : Nat → Option (List Nat)
  | 0 => some [1]
  | 1 => some [1, 3]
  | 2 => some [1, 3, 4]
  | 3 => some [1, 3, 4, 9]
  | 4 => some [1, 3, 4]
  | 5 => some [1, 3, 4]
  | 6 => some [2]
  | _ => none
def exits17 : Nat → Option (List Nat)
  | 0 => some [3]
  | 1 => some [1, 3, 4]
  | _ => none
def live18 : Nat → Option (List Nat)
  | 0 => some []
  | 1 => some [1]
  | 2 => some [0]
  | _ => none
def exits18 : Nat → Option (List Nat)
  | _ => none
def live19 : Nat → Option (List Nat)
  | 0 => some [1]
  | 1 => some [4]
  | 2 => some [2]
  | _ => none
def exits19 : Nat → Option (List Nat)
  | _ => none
def live20 : Nat → Option (List Nat)
  | 0 => some [1]
  | 1 => some [3]
  | 2 => some [2]
  | _ => none
def exits20 : Nat → Option (List Nat)
  | _ => none
def live21 : Nat → Option (List Nat)
  | 0 => some [1]
  | 1 => some [1, 3]
  | 2 => some [1, 3, 4]
  | 3 => some [1, 3, 4, 10]
  | 4 => some [1, 3, 4]
  | 5 => some [1, 3, 4, 5]
  | 6 => some [1, 3, 4, 5, 17]
  | 7 => some [2]
  | 8 => some [1, 3, 4]
  | 9 => some [3, 23]
  | 10 => some [2]
  | 11 => some [2]
  | _ => none
def exits21 : Nat → Option (List Nat)
  | 0 => some [1, 3]
  | 1 => some [1, 3, 4]
  | _ => none
def live22 : Nat → Option (List Nat)
  | 0 => some [0, 1]
  | 1 => some [1, 5]
  | 2 => some [1, 5, 10]
  | 3 => some [5]
  | 4 => some [4]
  | _ => none
def exits22 : Nat → Option (List Nat)
  | _ => none
def live23 : Nat → Option (List Nat)
  | 0 => some [1]
  | 1 => some [2]
  | _ => none
def exits23 : Nat → Option (List Nat)
  | _ => none
def live24 : Nat → Option (List Nat)
  | 0 => some [1]
  | 1 => some [2]
  | _ => none
def exits24 : Nat → Option (List Nat)
  | _ => none
def live25 : Nat → Option (List Nat)
  | 0 => some []
  | 1 => some [1]
  | 2 => some [1, 3]
  | 3 => some [0]
  | _ => none
def exits25 : Nat → Option (List Nat)
  | _ => none
def live26 : Nat → Option (List Nat)
  | 0 => some [0, 1]
  | 1 => some [0, 1, 10]
  | 2 => some [4]
  | 3 => some [0, 1, 5]
  | 4 => some [0, 1, 5, 14]
  | 5 => some [0, 1, 5]
  | 6 => some [0, 1, 5, 25]
  | 7 => some [4]
  | 8 => some [4]
  | _ => none
def exits26 : Nat → Option (List Nat)
  | 0 => some []
  | 1 => some [0, 1, 5]
  | _ => none
def live27 : Nat → Option (List Nat)
  | 0 => some [1]
  | 1 => some [3]
  | 2 => some [3]
  | 3 => some [2]
  | _ => none
def exits27 : Nat → Option (List Nat)
  | _ => none
def live28 : Nat → Option (List Nat)
  | 0 => some [1]
  | 1 => some [2]
  | _ => none
def exits28 : Nat → Option (List Nat)
  | _ => none
def live29 : Nat → Option (List Nat)
  | 0 => some [1]
  | 1 => some [1, 6]
  | 2 => some [1, 6, 7]
  | 3 => some [1, 6, 7]
  | 4 => some [1, 21]
  | 5 => some [2]
  | 6 => some [1, 22]
  | 7 => some [1, 3, 4]
  | 8 => some [1, 43]
  | 9 => some [2]
  | 10 => some [2]
  | _ => none
def exits29 : Nat → Option (List Nat)
  | 0 => some [1]
  | _ => none
def live30 : Nat → Option (List Nat)
  | 0 => some [1]
  | 1 => some [1, 7]
  | 2 => some [1, 7, 8]
  | 3 => some [1, 7, 8]
  | 4 => some [1, 22]
  | 5 => some [2]
  | 6 => some [1, 23]
  | 7 => some [1, 3]
  | 8 => some [1, 53]
  | 9 => some [2]
  | 10 => some [1, 5]
  | 11 => some [1, 5, 58]
  | 12 => some [1, 5]
  | 13 => some [1, 5, 67]
  | 14 => some [2]
  | 15 => some [2]
  | _ => none
def exits30 : Nat → Option (List Nat)
  | 0 => some [1]
  | 1 => some []
  | 2 => some [1, 5]
  | _ => none
def live31 : Nat → Option (List Nat)
  | 0 => some [0, 1, 4]
  | 1 => some [0, 1, 4, 6]
  | 2 => some [0, 1, 4, 6, 7]
  | 3 => some [0, 1, 4, 6, 7, 16]
  | 4 => some [0, 1, 4, 6, 7]
  | 5 => some [0, 1, 4, 6, 7]
  | 6 => some [0, 1, 4, 6, 7]
  | 7 => some [0, 1, 4, 6, 7, 32]
  | 8 => some [0, 1, 4, 6, 7]
  | 9 => some [0, 1, 4, 6, 7, 52]
  | 10 => some [0, 1, 4, 6, 7]
  | 11 => some [0, 1, 4, 6, 7]
  | 12 => some [0, 1, 4, 6, 7, 63]
  | 13 => some [0, 1, 4, 6, 7, 8, 9]
  | 14 => some [0, 1, 4, 6, 7, 8, 9, 81]
  | 15 => some [0, 1, 4, 6, 7, 8, 9]
  | 16 => some [0, 1, 4, 6, 7, 8, 9, 10]
  | 17 => some [0, 1, 4, 6, 7, 8, 9, 10, 89]
  | 18 => some [4, 5]
  | 19 => some [0, 1, 4, 6, 7, 8, 9, 10, 92]
  | 20 => some [4, 5]
  | 21 => some [0, 1, 4, 6, 10, 11, 12]
  | 22 => some [0, 1, 4, 6, 10, 11, 12, 108]
  | 23 => some [4, 5]
  | 24 => some [0, 1, 4, 6, 10]
  | 25 => some [0, 1, 4, 6, 7]
  | 26 => some [4, 5]
  | _ => none
def exits31 : Nat → Option (List Nat)
  | 0 => some [4, 6]
  | 1 => some [0, 1, 4, 6, 7]
  | 2 => some [0, 1, 4, 6, 7]
  | _ => none
def live32 : Nat → Option (List Nat)
  | 0 => some [0]
  | 1 => some [2]
  | _ => none
def exits32 : Nat → Option (List Nat)
  | _ => none
def live33 : Nat → Option (List Nat)
  | 0 => some [0, 1]
  | 1 => some [0, 1, 15]
  | 2 => some [4]
  | 3 => some [0, 1, 5]
  | 4 => some [0, 1, 5, 21]
  | 5 => some [5]
  | 6 => some [4]
  | _ => none
def exits33 : Nat → Option (List Nat)
  | _ => none
def live34 : Nat → Option (List Nat)
  | 0 => some [0, 1, 2]
  | 1 => some [0, 1, 2, 14]
  | 2 => some [6]
  | 3 => some [1, 2, 15, 16, 17]
  | 4 => some [1, 2, 15, 16, 17, 18]
  | 5 => some [1, 2, 7, 8, 15, 16, 17]
  | 6 => some [1, 2, 8, 9, 15, 16, 17]
  | 7 => some [1, 2, 15, 16, 17, 30]
  | 8 => some [6]
  | 9 => some [1, 2, 15, 16, 17]
  | 10 => some [6]
  | _ => none
def exits34 : Nat → Option (List Nat)
  | 0 => some []
  | 1 => some [1, 2, 15, 16, 17]
  | _ => none
def live35 : Nat → Option (List Nat)
  | 0 => some [0, 1]
  | 1 => some [4]
  | _ => none
def exits35 : Nat → Option (List Nat)
  | _ => none
def live36 : Nat → Option (List Nat)
  | 0 => some [0, 1, 2]
  | 1 => some [0, 1, 2, 14]
  | 2 => some [6]
  | 3 => some [1, 2, 15, 16, 17]
  | 4 => some [1, 2, 15, 16, 17, 18]
  | 5 => some [1, 2, 7, 8, 15, 16, 17]
  | 6 => some [1, 2, 8, 9, 15, 16, 17]
  | 7 => some [1, 2, 15, 16, 17, 30]
  | 8 => some [6]
  | 9 => some [1, 2, 15, 16, 17]
  | 10 => some [6]
  | _ => none
def exits36 : Nat → Option (List Nat)
  | 0 => some []
  | 1 => some [1, 2, 15, 16, 17]
  | _ => none
def live37 : Nat → Option (List Nat)
  | 0 => some [2, 3]
  | 1 => some [4]
  | _ => none
def exits37 : Nat → Option (List Nat)
  | _ => none
def live38 : Nat → Option (List Nat)
  | 0 => some [2, 3]
  | 1 => some [2, 3, 33]
  | 2 => some [4]
  | 3 => some [2, 3, 5]
  | 4 => some [2, 3, 5, 38]
  | 5 => some [2, 3, 5]
  | 6 => some [2, 3, 5, 51]
  | 7 => some [4]
  | 8 => some [4]
  | _ => none
def exits38 : Nat → Option (List Nat)
  | 0 => some []
  | 1 => some [2, 3, 5]
  | _ => none
def live39 : Nat → Option (List Nat)
  | 0 => some [0, 2, 4]
  | 1 => some [0, 2, 4, 6]
  | 2 => some [2, 4, 6, 9, 10, 11]
  | 3 => some [2, 4, 6, 9, 10, 11, 12]
  | 4 => some [2, 4, 6, 8, 9, 10, 11]
  | 5 => some [2, 4, 6, 9, 10, 11]
  | 6 => some [2, 4, 6, 9, 10, 11]
  | 7 => some [5]
  | _ => none
def exits39 : Nat → Option (List Nat)
  | 0 => some [4, 6]
  | 1 => some [2, 4, 6, 9, 10, 11]
  | _ => none
def live40 : Nat → Option (List Nat)
  | 0 => some [1, 2, 3]
  | 1 => some [1, 2, 3, 5]
  | 2 => some [1, 2, 3, 5, 14, 15]
  | 3 => some [1, 2, 3, 5, 14, 15, 16]
  | 4 => some [1, 2, 3, 5, 14, 15]
  | 5 => some [1, 2, 3, 5, 14, 15]
  | 6 => some [1, 2, 3, 5, 14, 15]
  | 7 => some [1, 2, 5, 32, 33, 34]
  | 8 => some [1, 2, 5, 32, 33, 34, 35]
  | 9 => some [1, 2, 5, 6, 7, 32, 33, 34]
  | 10 => some [1, 2, 5, 6, 8, 32, 33, 34]
  | 11 => some [1, 2, 5, 32, 33, 34]
  | 12 => some [1, 2, 5, 32, 33, 34]
  | 13 => some [4]
  | _ => none
def exits40 : Nat → Option (List Nat)
  | 0 => some [1, 2, 3, 5]
  | 1 => some [1, 2, 3, 5, 14, 15]
  | 2 => some [5]
  | 3 => some [1, 2, 5, 32, 33, 34]
  | _ => none
def live41 : Nat → Option (List Nat)
  | 0 => some [1, 2, 3]
  | 1 => some [1, 2, 3, 8]
  | 2 => some [1, 2, 3, 8, 9]
  | 3 => some [4]
  | 4 => some [1, 2, 3, 8, 15]
  | 5 => some [4]
  | 6 => some [1, 2, 3, 8, 22]
  | 7 => some [4]
  | 8 => some [1, 2, 3, 29]
  | 9 => some [1, 2, 3, 5, 6]
  | 10 => some [1, 2, 3, 41]
  | 11 => some [4]
  | 12 => some [4]
  | 13 => some [4]
  | _ => none
def exits41 : Nat → Option (List Nat)
  | 0 => some [1, 3]
  | _ => none
def live42 : Nat → Option (List Nat)
  | 0 => some [0, 2]
  | 1 => some [2, 4, 5]
  | 2 => some [2, 3]
  | _ => none
def exits42 : Nat → Option (List Nat)
  | _ => none
def live43 : Nat → Option (List Nat)
  | 0 => some [0, 1, 5]
  | 1 => some [0, 1, 5, 10]
  | 2 => some [0, 1, 5, 10, 11]
  | 3 => some []
  | 4 => some [0, 1, 5, 31]
  | 5 => some [0, 1, 5, 6]
  | 6 => some [0, 1, 5, 40]
  | 7 => some []
  | 8 => some [0, 1, 5, 8]
  | 9 => some [0, 1, 5, 8, 49]
  | 10 => some [0, 1, 5, 8]
  | 11 => some [0, 1, 5, 8]
  | 12 => some [0, 1, 5, 61]
  | 13 => some []
  | 14 => some [0, 1, 5, 61, 81]
  | 15 => some []
  | 16 => some [0, 1, 5, 61, 99]
  | 17 => some []
  | 18 => some [0, 1, 5, 117]
  | 19 => some []
  | _ => none
def exits43 : Nat → Option (List Nat)
  | 0 => some [0, 1, 5]
  | 1 => some [0, 1, 5]
  | 2 => some [0, 1, 5, 8]
  | 3 => some []
  | _ => none
def live44 : Nat → Option (List Nat)
  | 0 => some [1]
  | 1 => some [1, 17]
  | 2 => some [2, 3]
  | 3 => some [1, 4]
  | 4 => some [1, 4, 19, 20, 21]
  | 5 => some [1, 4, 19, 20, 21, 22]
  | 6 => some [1, 4, 5, 6, 19, 20, 21]
  | 7 => some [1, 4, 7, 8, 19, 20, 21]
  | 8 => some [1, 4, 7, 19, 20, 21, 36]
  | 9 => some [2, 3]
  | 10 => some [1, 4, 19, 20, 21]
  | 11 => some [1, 4, 19, 20, 21]
  | 12 => some [2, 3]
  | _ => none
def exits44 : Nat → Option (List Nat)
  | 0 => some [4]
  | 1 => some [1, 4, 19, 20, 21]
  | _ => none
def live45 : Nat → Option (List Nat)
  | 0 => some [1, 2]
  | 1 => some [1, 2, 5, 6]
  | 2 => some [1, 2, 5, 6, 7]
  | 3 => some [1, 2, 5, 6, 7, 16]
  | 4 => some [1, 2, 5, 6, 7]
  | 5 => some [1, 2, 5, 6, 7, 8]
  | 6 => some [1, 2, 5, 6, 7, 8, 38]
  | 7 => some [4]
  | 8 => some [1, 2, 5, 6, 7]
  | 9 => some [1, 2, 5, 6, 7]
  | 10 => some [6, 47]
  | 11 => some [4]
  | 12 => some [4]
  | _ => none
def exits45 : Nat → Option (List Nat)
  | 0 => some [5, 6]
  | 1 => some [1, 2, 5, 6, 7]
  | _ => none
def live46 : Nat → Option (List Nat)
  | 0 => some [1, 2]
  | 1 => some [1, 2, 5]
  | 2 => some [1, 2, 5, 13]
  | 3 => some [4]
  | 4 => some [1, 2, 5, 6]
  | 5 => some [1, 2, 5, 6, 22]
  | 6 => some [1, 2, 5, 6]
  | 7 => some [1, 2, 5, 6]
  | 8 => some [4]
  | _ => none
def exits46 : Nat → Option (List Nat)
  | 0 => some [5]
  | 1 => some [1, 2, 5, 6]
  | _ => none
def live47 : Nat → Option (List Nat)
  | 0 => some [1]
  | 1 => some [1, 3]
  | 2 => some [1, 3, 27]
  | 3 => some [1, 3]
  | 4 => some [3, 37, 38, 39]
  | 5 => some [3, 37, 38, 39, 40]
  | 6 => some [3, 5, 37, 38, 39]
  | 7 => some [3, 37, 38, 39]
  | 8 => some [3, 37, 38, 39]
  | 9 => some [2]
  | _ => none
def exits47 : Nat → Option (List Nat)
  | 0 => some [3]
  | 1 => some [3, 37, 38, 39]
  | _ => none
def live48 : Nat → Option (List Nat)
  | 0 => some [0, 2]
  | 1 => some []
  | _ => none
def exits48 : Nat → Option (List Nat)
  | _ => none
def live49 : Nat → Option (List Nat)
  | 0 => some [0]
  | 1 => some [0, 8]
  | 2 => some [2]
  | 3 => some [0, 3]
  | 4 => some [0, 3, 13]
  | 5 => some [0, 3]
  | 6 => some [0, 3, 25]
  | 7 => some [0, 3, 4]
  | 8 => some [0, 3, 4, 5]
  | 9 => some [0, 3, 4, 5, 32]
  | 10 => some [0, 3, 4, 5]
  | 11 => some [0, 3, 4, 5, 44]
  | 12 => some [0, 3, 4, 5]
  | 13 => some [0, 3, 4, 5]
  | 14 => some [0, 3]
  | 15 => some [2]
  | 16 => some [2]
  | _ => none
def exits49 : Nat → Option (List Nat)
  | 0 => some [0]
  | 1 => some [0, 3]
  | 2 => some [0, 3]
  | 3 => some [0, 3, 4, 5]
  | _ => none
def live50 : Nat → Option (List Nat)
  | 0 => some [0]
  | 1 => some [0, 3]
  | 2 => some [0, 3, 4]
  | 3 => some [0, 3, 4, 11]
  | 4 => some [0, 3, 4]
  | 5 => some [0, 3, 4, 5, 6]
  | 6 => some [0, 3, 4, 5, 6, 18]
  | 7 => some [0, 3, 4, 5, 6, 7]
  | 8 => some [0, 3, 4, 5, 6, 7, 31]
  | 9 => some [0, 3, 4, 5, 6]
  | 10 => some [0, 3, 4, 5, 6]
  | 11 => some [0, 3, 4, 5, 49]
  | 12 => some [0, 3, 4, 5]
  | 13 => some [0, 3, 4, 5]
  | 14 => some [0, 3, 4]
  | 15 => some [2]
  | _ => none
def exits50 : Nat → Option (List Nat)
  | 0 => some [3]
  | 1 => some [0, 3, 4]
  | 2 => some [0, 3, 4, 5]
  | 3 => some [0, 3, 4, 5, 6]
  | _ => none
def live51 : Nat → Option (List Nat)
  | 0 => some [1]
  | 1 => some [1, 3]
  | 2 => some [1, 3, 26]
  | 3 => some [1, 3]
  | 4 => some [1, 3, 4]
  | 5 => some [1, 3, 4, 39]
  | 6 => some [1, 3, 4]
  | 7 => some [1, 3, 4]
  | 8 => some [2]
  | _ => none
def exits51 : Nat → Option (List Nat)
  | 0 => some [3]
  | 1 => some [1, 3, 4]
  | _ => none
def live52 : Nat → Option (List Nat)
  | 0 => some [0, 1]
  | 1 => some [4]
  | _ => none
def exits52 : Nat → Option (List Nat)
  | _ => none
def live53 : Nat → Option (List Nat)
  | 0 => some [0, 1]
  | 1 => some [4]
  | _ => none
def exits53 : Nat → Option (List Nat)
  | _ => none
def live54 : Nat → Option (List Nat)
  | 0 => some [1]
  | 1 => some [2]
  | _ => none
def exits54 : Nat → Option (List Nat)
  | _ => none
def live55 : Nat → Option (List Nat)
  | 0 => some [0, 2]
  | 1 => some [0, 2, 4]
  | 2 => some [0, 2, 7]
  | 3 => some [2, 3]
  | 4 => some [0, 2, 11]
  | 5 => some [2, 3]
  | 6 => some [0, 2, 15]
  | 7 => some [2, 3]
  | 8 => some [0, 2, 19]
  | 9 => some [2, 3]
  | 10 => some [0, 2, 23]
  | 11 => some [2, 3]
  | 12 => some [0, 2, 27]
  | 13 => some [2, 3]
  | 14 => some [0, 2, 31]
  | 15 => some [2, 3]
  | 16 => some [0, 2, 35]
  | 17 => some [2, 3]
  | 18 => some [2, 39]
  | 19 => some [2, 3]
  | 20 => some [2, 3]
  | _ => none
def exits55 : Nat → Option (List Nat)
  | 0 => some [2]
  | _ => none
def live56 : Nat → Option (List Nat)
  | 0 => some [0, 3]
  | 1 => some [0, 3, 9]
  | 2 => some [0, 3, 9, 10]
  | 3 => some [0, 3, 5]
  | 4 => some [0, 3, 5, 16]
  | 5 => some [0, 3, 5]
  | 6 => some [0, 3, 5]
  | 7 => some [4]
  | 8 => some [0, 3, 27]
  | 9 => some [0, 3, 31]
  | 10 => some [4]
  | 11 => some [0, 3, 6]
  | 12 => some [0, 3, 6, 45]
  | 13 => some [3, 6, 7]
  | 14 => some [7]
  | 15 => some [4]
  | 16 => some [4]
  | _ => none
def exits56 : Nat → Option (List Nat)
  | 0 => some [0, 3]
  | 1 => some [0]
  | 2 => some [0, 3, 5]
  | _ => none
def live57 : Nat → Option (List Nat)
  | 0 => some [0, 1, 2, 3]
  | 1 => some [0, 1, 2, 3, 9]
  | 2 => some [0, 2, 3, 9, 10]
  | 3 => some [0, 2, 3, 9, 10, 15]
  | 4 => some [0, 2, 3, 9, 10]
  | 5 => some [0, 2, 3, 9, 10, 20]
  | 6 => some [0, 2, 3, 9, 10, 20, 21]
  | 7 => some [0, 2, 3, 9, 10]
  | 8 => some [0, 2, 3, 9, 10, 26]
  | 9 => some [0, 2, 3, 9, 10]
  | 10 => some [0, 2, 3, 9, 10, 32]
  | 11 => some [8]
  | 12 => some [8]
  | _ => none
def exits57 : Nat → Option (List Nat)
  | 0 => some []
  | 1 => some [0, 2, 3, 9, 10]
  | 2 => some [0, 2, 3, 9, 10]
  | _ => none
def live58 : Nat → Option (List Nat)
  | 0 => some [0, 1, 2, 3, 8]
  | 1 => some [0, 1, 2, 3, 8, 10]
  | 2 => some [0, 1, 2, 3, 8, 10, 25]
  | 3 => some [0, 1, 2, 3, 8, 10, 11]
  | 4 => some [1, 8, 10, 11, 13]
  | 5 => some [1, 8, 10, 13, 45]
  | 6 => some [8, 9]
  | 7 => some [8, 10, 14, 15]
  | 8 => some [8, 9]
  | 9 => some [0, 1, 8, 16, 17]
  | 10 => some [0, 1, 8, 16, 17, 18]
  | 11 => some [0, 1, 8, 16, 17, 18, 19]
  | 12 => some [0, 1, 8, 16, 17, 18, 19, 65]
  | 13 => some [1, 8, 18, 19]
  | 14 => some [8, 19, 20, 21]
  | 15 => some [8, 9]
  | _ => none
def exits58 : Nat → Option (List Nat)
  | _ => none
def live59 : Nat → Option (List Nat)
  | 0 => some [0, 2]
  | 1 => some [0, 2, 3]
  | 2 => some [0, 2, 3, 4]
  | 3 => some [0, 2, 3, 4, 8]
  | 4 => some [0, 2, 3, 4]
  | 5 => some [0, 2, 3, 4]
  | 6 => some [2, 3, 18]
  | 7 => some [2, 3, 18, 19]
  | 8 => some [2]
  | 9 => some [2, 3, 22]
  | 10 => some [2]
  | 11 => some [2]
  | _ => none
def exits59 : Nat → Option (List Nat)
  | 0 => some [2, 3]
  | 1 => some [0, 2, 3, 4]
  | 2 => some [2, 3]
  | _ => none
def live60 : Nat → Option (List Nat)
  | 0 => some [0, 1]
  | 1 => some [0, 1, 5]
  | 2 => some [0, 1, 5, 21]
  | 3 => some [4]
  | 4 => some [0, 1, 5, 27]
  | 5 => some [4]
  | 6 => some [0, 1, 5, 36]
  | 7 => some [4]
  | 8 => some [0, 1, 5, 43]
  | 9 => some [4]
  | 10 => some [0, 1, 5, 50]
  | 11 => some [4]
  | 12 => some [0, 1, 5, 57]
  | 13 => some [4]
  | 14 => some [0, 1, 5, 63]
  | 15 => some [4]
  | 16 => some [0, 1, 5, 76]
  | 17 => some [4]
  | 18 => some [0, 1, 5, 83]
  | 19 => some [4]
  | 20 => some [4]
  | _ => none
def exits60 : Nat → Option (List Nat)
  | 0 => some [0, 1, 5]
  | _ => none
def live61 : Nat → Option (List Nat)
  | 0 => some [0, 1]
  | 1 => some [0, 1, 14]
  | 2 => some [4]
  | 3 => some [0, 1]
  | 4 => some [4]
  | _ => none
def exits61 : Nat → Option (List Nat)
  | _ => none
def live62 : Nat → Option (List Nat)
  | 0 => some [0, 1]
  | 1 => some [0, 1, 10]
  | 2 => some [4]
  | 3 => some [0, 1, 12, 13]
  | 4 => some [0, 1, 12, 13, 14]
  | 5 => some [0, 1, 5, 12, 13]
  | 6 => some [0, 1, 12, 13, 24]
  | 7 => some [4]
  | 8 => some [0, 1, 12, 13]
  | 9 => some [4]
  | _ => none
def exits62 : Nat → Option (List Nat)
  | 0 => some []
  | 1 => some [0, 1, 12, 13]
  | _ => none
def live63 : Nat → Option (List Nat)
  | 0 => some []
  | 1 => some [1, 2, 3]
  | 2 => some [1, 2, 3, 4, 5]
  | 3 => some [0]
  | _ => none
def exits63 : Nat → Option (List Nat)
  | _ => none
def live64 : Nat → Option (List Nat)
  | 0 => some [0, 1, 5]
  | 1 => some [0, 1, 5, 6]
  | 2 => some [0, 1, 5, 6, 7]
  | 3 => some [0, 1, 5, 6, 7, 8]
  | 4 => some [0, 1, 5, 6, 7, 8, 22]
  | 5 => some [0, 1, 5, 6, 7, 8]
  | 6 => some [0, 1, 5, 6, 7, 8]
  | 7 => some [0, 1, 5, 6, 7, 8]
  | 8 => some [0, 1, 5, 6, 7, 9]
  | 9 => some [0, 1, 5, 6, 7, 9, 46]
  | 10 => some [0, 1, 5, 6, 7, 9]
  | 11 => some [0, 1, 5, 6, 7, 9]
  | 12 => some []
  | _ => none
def exits64 : Nat → Option (List Nat)
  | 0 => some [0, 1, 5, 6, 7]
  | 1 => some [0, 1, 5, 6, 7, 8]
  | 2 => some [0, 1, 7]
  | 3 => some [0, 1, 5, 6, 7, 9]
  | _ => none
def live65 : Nat → Option (List Nat)
  | 0 => some [0, 1, 2]
  | 1 => some [0, 1, 2, 8, 9]
  | 2 => some [1, 2, 8, 9, 14, 15, 16]
  | 3 => some [1, 2, 8, 9, 14, 15, 16, 17]
  | 4 => some [1, 2, 8, 9, 11, 14, 15, 16]
  | 5 => some [1, 2, 8, 9, 12, 13, 14, 15, 16]
  | 6 => some [1, 2, 8, 9, 12, 14, 15, 16, 33]
  | 7 => some [6, 7]
  | 8 => some [1, 2, 8, 9, 14, 15, 16]
  | 9 => some [1, 2, 8, 9, 14, 15, 16]
  | 10 => some [1, 2, 8, 9, 14, 15, 16]
  | 11 => some [6, 7]
  | _ => none
def exits65 : Nat → Option (List Nat)
  | 0 => some [8, 9]
  | 1 => some [1, 2, 8, 9, 14, 15, 16]
  | _ => none
def live66 : Nat → Option (List Nat)
  | 0 => some [1, 2, 3]
  | 1 => some [1, 2, 3, 51]
  | 2 => some [6]
  | 3 => some [1, 2, 3, 53]
  | 4 => some [1, 2, 3, 53, 54]
  | 5 => some [6]
  | 6 => some [1, 2, 3, 53, 56]
  | 7 => some [6]
  | 8 => some [1, 2, 3, 53, 58]
  | 9 => some [6]
  | 10 => some [1, 2, 3, 53, 60]
  | 11 => some [6]
  | 12 => some [1, 2, 3, 53, 64]
  | 13 => some [3, 70]
  | 14 => some [6]
  | 15 => some [1, 2, 3, 73]
  | 16 => some [1, 2, 3, 7]
  | 17 => some [1, 2, 3, 7, 79]
  | 18 => some [1, 2, 3, 7]
  | 19 => some [1, 2, 3, 7, 97]
  | 20 => some [6]
  | 21 => some [103]
  | 22 => some [6]
  | 23 => some [6]
  | _ => none
def exits66 : Nat → Option (List Nat)
  | 0 => some []
  | 1 => some [3]
  | 2 => some [1, 2, 3, 7]
  | _ => none
def live67 : Nat → Option (List Nat)
  | 0 => some [0, 1]
  | 1 => some [4]
  | _ => none
def exits67 : Nat → Option (List Nat)
  | _ => none
def live68 : Nat → Option (List Nat)
  | 0 => some [0, 1, 2, 3, 8]
  | 1 => some [0, 1, 2, 3, 8, 9]
  | 2 => some [0, 1, 2, 3, 8, 9, 10]
  | 3 => some [0, 1, 2, 3, 8, 9, 10, 23]
  | 4 => some []
  | 5 => some [0, 1, 2, 3, 8, 9, 10, 29]
  | 6 => some []
  | 7 => some [0, 1, 2, 3, 8, 9, 10, 35]
  | 8 => some [0, 1, 2, 3, 8, 9, 10]
  | 9 => some [0, 1, 2, 3, 8, 9, 10]
  | 10 => some [0, 1, 2, 3, 8, 9, 10, 11, 12]
  | 11 => some [0, 1, 2, 3, 8, 9, 10, 11, 12, 50]
  | 12 => some [0, 1, 2, 3, 8, 9, 10, 11]
  | 13 => some [0, 1, 2, 3, 8, 9, 10, 11]
  | 14 => some [0, 1, 2, 3, 8, 9, 10, 11, 12]
  | 15 => some [0, 1, 2, 3, 8, 9, 10, 11, 68]
  | 16 => some [0, 1, 2, 3, 8, 9, 10, 11, 72]
  | 17 => some [0, 1, 2, 3, 8, 9, 10, 11, 87]
  | 18 => some [0, 2, 3, 8, 9, 13]
  | 19 => some [0, 1, 2, 3, 8, 9]
  | 20 => some [0, 1, 2, 3, 10, 14, 15]
  | 21 => some [0, 1, 2, 3, 9, 10, 14]
  | 22 => some [0, 1, 2, 3, 9, 10, 14, 16, 17]
  | 23 => some [0, 1, 2, 3, 9, 14, 16, 17, 18]
  | 24 => some [0, 1, 2, 3, 9, 14, 16, 17, 18, 113]
  | 25 => some [0, 1, 2, 3, 8, 9, 14]
  | 26 => some [0, 2, 3, 8, 9, 14]
  | 27 => some [0, 1, 2, 3, 8, 9]
  | 28 => some [0, 1, 2, 3, 8, 9, 14]
  | 29 => some [0, 1, 3, 8, 9, 14]
  | 30 => some [0, 1, 2, 3, 8, 9]
  | _ => none
def exits68 : Nat → Option (List Nat)
  | 0 => some []
  | 1 => some [0, 1, 2, 3, 8, 9]
  | _ => none
def live69 : Nat → Option (List Nat)
  | 0 => some [0]
  | 1 => some [2]
  | 2 => some [2]
  | _ => none
def exits69 : Nat → Option (List Nat)
  | _ => none
def live70 : Nat → Option (List Nat)
  | 0 => some [0, 1]
  | 1 => some [0, 1, 7, 8]
  | 2 => some [0, 1, 7, 8, 9]
  | 3 => some [0, 1, 5, 7, 8]
  | 4 => some [0, 1, 5, 7, 8, 16]
  | 5 => some [4]
  | 6 => some [0, 1, 7, 8]
  | 7 => some [4]
  | _ => none
def exits70 : Nat → Option (List Nat)
  | 0 => some []
  | 1 => some [0, 1, 7, 8]
  | _ => none
def live71 : Nat → Option (List Nat)
  | 0 => some [0, 1]
  | 1 => some [0, 1, 7, 8]
  | 2 => some [0, 1, 7, 8, 9]
  | 3 => some [0, 1, 5, 7, 8]
  | 4 => some [0, 1, 5, 7, 8, 16]
  | 5 => some [4]
  | 6 => some [0, 1, 7, 8]
  | 7 => some [4]
  | _ => none
def exits71 : Nat → Option (List Nat)
  | 0 => some []
  | 1 => some [0, 1, 7, 8]
  | _ => none
def live72 : Nat → Option (List Nat)
  | 0 => some [0, 1]
  | 1 => some [0, 5]
  | 2 => some [0, 5, 6]
  | 3 => some [0, 5, 6, 12]
  | 4 => some [0, 5, 6]
  | 5 => some [0, 5, 6, 20]
  | 6 => some [4]
  | 7 => some [4]
  | _ => none
def exits72 : Nat → Option (List Nat)
  | 0 => some []
  | 1 => some [0, 5, 6]
  | _ => none
def live73 : Nat → Option (List Nat)
  | 0 => some [0]
  | 1 => some [0, 3]
  | 2 => some [0, 3, 27]
  | 3 => some [0, 3]
  | 4 => some [0, 3, 5]
  | 5 => some [0, 3, 49]
  | 6 => some [2]
  | 7 => some [2]
  | _ => none
def exits73 : Nat → Option (List Nat)
  | 0 => some [0, 3]
  | 1 => some [0, 3]
  | _ => none
def live74 : Nat → Option (List Nat)
  | 0 => some [0, 1, 2, 3]
  | 1 => some [0, 1, 2, 3, 9]
  | 2 => some [0, 1, 2, 3, 9, 10, 11]
  | 3 => some [0, 1, 2, 3, 9, 10, 11, 12]
  | 4 => some [0, 1, 2, 3, 9, 10, 11, 12, 16]
  | 5 => some [0, 1, 2, 3, 9, 10, 11, 12]
  | 6 => some [0, 1, 2, 3, 9, 10, 11, 12, 19]
  | 7 => some [0, 1, 2, 3, 9, 10, 11, 12]
  | 8 => some [0, 1, 2, 3, 9, 10, 11, 12, 27]
  | 9 => some [0, 1, 2, 3, 9, 10, 11, 12]
  | 10 => some [0, 1, 2, 3, 9, 10, 11, 12, 36]
  | 11 => some [0, 1, 2, 3, 9, 10, 12]
  | 12 => some [0, 1, 2, 3, 9, 10, 11, 12]
  | 13 => some [8]
  | _ => none
def exits74 : Nat → Option (List Nat)
  | 0 => some [0, 9, 11]
  | 1 => some [0, 1, 2, 3, 9, 10, 11, 12]
  | 2 => some [0, 1, 2, 3, 9, 10, 11, 12]
  | _ => none
def live75 : Nat → Option (List Nat)
  | 0 => some [0]
  | 1 => some [0, 10]
  | 2 => some [0]
  | 3 => some [2]
  | _ => none
def exits75 : Nat → Option (List Nat)
  | 0 => some [0]
  | 1 => some [0]
  | _ => none
def live76 : Nat → Option (List Nat)
  | 0 => some [0, 1]
  | 1 => some [0, 1, 6]
  | 2 => some [0, 1, 6, 7]
  | 3 => some [0, 1, 6, 7, 13]
  | 4 => some [0, 1, 6, 7]
  | 5 => some [0, 1, 6, 7, 8, 9]
  | 6 => some [0, 1, 6, 7, 8, 9, 26]
  | 7 => some [4, 5]
  | 8 => some [0, 1, 6, 7]
  | 9 => some [4, 5]
  | _ => none
def exits76 : Nat → Option (List Nat)
  | 0 => some [6]
  | 1 => some [0, 1, 6, 7]
  | _ => none
def live77 : Nat → Option (List Nat)
  | 0 => some [0]
  | 1 => some [0, 4, 5]
  | 2 => some [0, 4, 5, 6]
  | 3 => some [0, 4, 5, 6, 10]
  | 4 => some [0, 4, 5, 6]
  | 5 => some [0, 4, 5, 6, 15]
  | 6 => some [0, 4, 5, 6, 15, 16]
  | 7 => some [0, 4, 5, 6, 15, 16]
  | 8 => some [0, 4, 5, 6]
  | 9 => some [0, 4, 5, 6, 15, 21]
  | 10 => some [0, 4, 5, 6, 15, 21]
  | 11 => some [0, 4, 5, 6]
  | 12 => some [0, 4, 5, 6, 15, 27]
  | 13 => some [0, 4, 5, 6, 34]
  | 14 => some [0, 4, 5, 6]
  | 15 => some [0, 4, 5, 6, 36]
  | 16 => some [0, 4, 5, 6, 43]
  | 17 => some [2, 3]
  | 18 => some [2, 3]
  | _ => none
def exits77 : Nat → Option (List Nat)
  | 0 => some []
  | 1 => some [0, 4, 5, 6]
  | 2 => some [0, 4, 5, 6]
  | _ => none
def live78 : Nat → Option (List Nat)
  | 0 => some [0]
  | 1 => some [0, 3]
  | 2 => some [0, 3, 4]
  | 3 => some [0, 3, 4, 12]
  | 4 => some [0, 3, 4]
  | 5 => some [0, 3, 4, 16]
  | 6 => some [0, 3, 4]
  | 7 => some [0, 3, 4]
  | 8 => some [2]
  | _ => none
def exits78 : Nat → Option (List Nat)
  | 0 => some [3]
  | 1 => some [0, 3, 4]
  | _ => none
def live79 : Nat → Option (List Nat)
  | 0 => some [0]
  | 1 => some [2]
  | _ => none
def exits79 : Nat → Option (List Nat)
  | _ => none
def live80 : Nat → Option (List Nat)
  | 0 => some [0, 1]
  | 1 => some [5, 6]
  | 2 => some [5, 7]
  | 3 => some [4]
  | _ => none
def exits80 : Nat → Option (List Nat)
  | _ => none
def live81 : Nat → Option (List Nat)
  | 0 => some [0, 1, 2]
  | 1 => some [0, 1, 2, 7]
  | 2 => some [0, 2, 7, 12]
  | 3 => some [0, 2, 7, 12, 13]
  | 4 => some [0, 2, 7, 12, 13]
  | 5 => some [6]
  | 6 => some [0, 2, 7, 12, 31]
  | 7 => some [6]
  | 8 => some [0, 2, 7, 12, 42]
  | 9 => some [6]
  | 10 => some [0, 2, 7, 12, 53]
  | 11 => some [6]
  | 12 => some [0, 2, 7, 12, 64]
  | 13 => some [0, 2, 7, 12, 64]
  | 14 => some [6]
  | 15 => some [0, 2, 7, 12, 76]
  | 16 => some [6]
  | 17 => some [0, 2, 7, 12, 81]
  | 18 => some [0, 2, 7, 12, 81]
  | 19 => some [6]
  | 20 => some [0, 7, 12, 97]
  | 21 => some [6]
  | 22 => some [0, 7, 12, 109]
  | 23 => some [6]
  | 24 => some [0, 7, 114]
  | 25 => some [6]
  | 26 => some [6]
  | _ => none
def exits81 : Nat → Option (List Nat)
  | 0 => some [0]
  | _ => none
def live82 : Nat → Option (List Nat)
  | 0 => some [1, 2, 3]
  | 1 => some [1, 2, 3, 18]
  | 2 => some [6, 7]
  | 3 => some [1, 2, 3, 8]
  | 4 => some [1, 2, 3, 8, 56]
  | 5 => some [6, 7]
  | 6 => some [1, 2, 3, 8, 58]
  | 7 => some [1, 2, 3, 8, 58, 59]
  | 8 => some [6, 7]
  | 9 => some [1, 2, 3, 8, 58, 68]
  | 10 => some [1, 2, 3, 71, 72, 73]
  | 11 => some [1, 2, 3, 71, 72, 73, 74]
  | 12 => some [1, 2, 3, 10, 71, 72, 73]
  | 13 => some [1, 2, 3, 71, 72, 73, 84]
  | 14 => some [6, 7]
  | 15 => some [1, 2, 3, 71, 72, 73]
  | 16 => some [6, 7]
  | 17 => some [3, 8, 92]
  | 18 => some [6, 7]
  | 19 => some [6, 7]
  | _ => none
def exits82 : Nat → Option (List Nat)
  | 0 => some [8]
  | 1 => some [3]
  | 2 => some [1, 2, 3, 71, 72, 73]
  | _ => none
def live83 : Nat → Option (List Nat)
  | 0 => some [0, 1, 2]
  | 1 => some [1, 2, 7, 8]
  | 2 => some [6]
  | _ => none
def exits83 : Nat → Option (List Nat)
  | _ => none
def live84 : Nat → Option (List Nat)
  | 0 => some [0, 1, 2, 6]
  | 1 => some [0, 1, 2, 6, 12]
  | 2 => some [0, 1, 2, 6]
  | 3 => some [0, 1, 2, 6, 7]
  | 4 => some [0, 1, 2, 6, 7, 30]
  | 5 => some [0, 1, 2, 6, 7]
  | 6 => some [0, 1, 2, 6, 7]
  | _ => none
def exits84 : Nat → Option (List Nat)
  | 0 => some []
  | 1 => some [0, 1, 2, 6]
  | 2 => some [0, 1, 2, 6]
  | 3 => some [0, 1, 2, 6, 7]
  | _ => none
def live85 : Nat → Option (List Nat)
  | 0 => some [0, 1, 2, 6]
  | 1 => some [0, 1, 2, 6, 7]
  | 2 => some [0, 6, 7, 8]
  | 3 => some [0, 6, 7, 8, 9]
  | 4 => some [0, 6, 7, 8, 9, 19]
  | 5 => some [0, 6, 7, 8, 9]
  | 6 => some [0, 6, 7, 8, 9]
  | 7 => some [0, 6, 7, 10]
  | 8 => some [0, 6, 7, 10, 30]
  | 9 => some [0, 6, 7, 10]
  | 10 => some [0, 6, 7, 10]
  | 11 => some [0, 6, 7, 10]
  | _ => none
def exits85 : Nat → Option (List Nat)
  | 0 => some [0, 6, 7, 8]
  | 1 => some [0, 6, 7, 8, 9]
  | 2 => some []
  | 3 => some [0, 6, 7, 10]
  | _ => none
def live86 : Nat → Option (List Nat)
  | 0 => some [0, 1, 6]
  | 1 => some [0, 1, 6, 15]
  | 2 => some [0, 1, 6, 7]
  | 3 => some [0, 1, 6, 7, 8]
  | 4 => some [0, 1, 6, 7, 8, 9]
  | 5 => some [0, 1, 6, 7, 8, 9, 33]
  | 6 => some [0, 1, 6, 7, 8, 9]
  | 7 => some [0, 1, 6, 7, 8, 9, 10]
  | 8 => some [0, 1, 6, 7, 8, 9, 10, 43]
  | 9 => some [0, 1, 6, 7, 8, 9, 10]
  | 10 => some [0, 1, 6, 7, 8, 9]
  | _ => none
def exits86 : Nat → Option (List Nat)
  | 0 => some []
  | 1 => some [0, 1, 6, 7, 8, 9]
  | _ => none
def live87 : Nat → Option (List Nat)
  | 0 => some [0, 1, 2]
  | 1 => some [0, 1, 8]
  | 2 => some [0, 1, 8, 9]
  | 3 => some [0, 1, 8, 9, 10]
  | 4 => some [0, 1, 8, 9, 10, 11]
  | 5 => some [0, 8, 9, 10, 11, 12]
  | 6 => some [0, 8, 9, 10, 11, 12, 32]
  | 7 => some [0, 9, 10, 11, 12, 34]
  | 8 => some [0, 9, 10, 11, 12]
  | 9 => some [0, 9, 10, 11, 12]
  | 10 => some [0, 9, 10, 11, 12]
  | 11 => some [9, 11]
  | 12 => some [11, 49]
  | 13 => some [6, 7]
  | 14 => some [11, 49, 51]
  | 15 => some [6, 7]
  | 16 => some [11, 54]
  | 17 => some [6, 7]
  | _ => none
def exits87 : Nat → Option (List Nat)
  | 0 => some [6, 7]
  | _ => none
def live88 : Nat → Option (List Nat)
  | 0 => some [0, 2, 6]
  | 1 => some [0, 6, 7]
  | 2 => some [0, 6, 7, 13]
  | 3 => some [0, 6, 7]
  | 4 => some [0, 6, 7]
  | 5 => some [0, 6, 7]
  | _ => none
def exits88 : Nat → Option (List Nat)
  | 0 => some []
  | 1 => some [0, 6, 7]
  | _ => none
def live89 : Nat → Option (List Nat)
  | 0 => some [0, 1, 2]
  | 1 => some [0, 1, 2, 7]
  | 2 => some [0, 1, 2, 7, 8]
  | 3 => some [0, 1, 2, 7, 8, 14]
  | 4 => some [0, 1, 2, 7, 8]
  | 5 => some [0, 1, 2, 7, 8, 32]
  | 6 => some [0, 1, 2, 7, 8]
  | 7 => some [0, 1, 2, 7, 8, 37]
  | 8 => some [6]
  | 9 => some [0, 1, 2, 7, 8, 41]
  | 10 => some [6]
  | 11 => some [0, 1, 2, 7, 8]
  | 12 => some [0, 1, 2, 7, 8, 61]
  | 13 => some [0, 1, 2, 7, 8, 9]
  | 14 => some [0, 1, 2, 7, 8, 9, 65]
  | 15 => some [0, 1, 2, 7, 8, 9]
  | 16 => some [0, 1, 2, 7, 8, 9, 78]
  | 17 => some [0, 1, 2, 7, 8, 9]
  | 18 => some [0, 1, 2, 7, 8, 98]
  | 19 => some [0, 1, 2, 7, 8, 10]
  | 20 => some [0, 1, 2, 7, 8, 10, 103]
  | 21 => some [0, 1, 2, 7, 8, 10]
  | 22 => some [0, 1, 2, 7, 8, 10, 116]
  | 23 => some [0, 1, 2, 7, 8, 10]
  | 24 => some [6]
  | _ => none
def exits89 : Nat → Option (List Nat)
  | 0 => some []
  | 1 => some [0, 1, 2, 7, 8]
  | 2 => some [0, 1, 2, 7, 8]
  | 3 => some [0, 1, 2, 7, 8]
  | 4 => some [0, 1, 2, 7, 8]
  | 5 => some [0, 1, 2, 7, 8, 9]
  | 6 => some [0, 1, 2, 7, 8]
  | 7 => some [0, 1, 2, 7, 8, 10]
  | _ => none
def live90 : Nat → Option (List Nat)
  | 0 => some [0, 1]
  | 1 => some [4]
  | _ => none
def exits90 : Nat → Option (List Nat)
  | _ => none
def live91 : Nat → Option (List Nat)
  | 0 => some [0, 1, 2, 3]
  | 1 => some [0, 1, 2]
  | 2 => some [0, 1, 9, 10]
  | 3 => some [0, 1, 9, 10, 43]
  | 4 => some [0, 1, 9, 10]
  | 5 => some [0, 1, 9, 10, 59]
  | 6 => some [0, 1, 9, 10]
  | 7 => some [0, 1, 9, 10, 64]
  | 8 => some [0, 1, 9, 10]
  | 9 => some [0, 1, 9, 10]
  | 10 => some [0, 1, 9, 10]
  | 11 => some [8]
  | _ => none
def exits91 : Nat → Option (List Nat)
  | 0 => some [9]
  | 1 => some [0, 1, 9, 10]
  | 2 => some [0, 1, 9, 10]
  | 3 => some [0, 1, 9, 10]
  | 4 => some [0, 1, 9, 10]
  | 5 => some [0, 1, 9, 10]
  | _ => none
def live92 : Nat → Option (List Nat)
  | 0 => some [0, 1, 2, 3]
  | 1 => some [0, 1, 2]
  | 2 => some [0, 1, 10, 11]
  | 3 => some [0, 1, 10, 11, 43]
  | 4 => some [0, 1, 10, 11]
  | 5 => some [0, 1, 10, 11, 60]
  | 6 => some [0, 1, 10, 11]
  | 7 => some [0, 1, 10, 11, 65]
  | 8 => some [11]
  | 9 => some [8, 9]
  | 10 => some [0, 1, 10, 11]
  | 11 => some [0, 1, 10, 11]
  | 12 => some [0, 1, 10, 11]
  | 13 => some [0, 1, 10, 11, 112]
  | 14 => some [0, 1, 10, 11]
  | 15 => some [0, 1, 10, 11, 129]
  | 16 => some [0, 1, 10, 11]
  | 17 => some [0, 1, 10, 11, 134]
  | 18 => some [0, 1, 10, 11]
  | 19 => some [0, 1, 10, 11]
  | 20 => some [0, 1, 10, 11]
  | 21 => some [11]
  | 22 => some [8, 9]
  | _ => none
def exits92 : Nat → Option (List Nat)
  | 0 => some [0, 1, 10, 11]
  | 1 => some [0, 1, 10, 11]
  | 2 => some [0, 1, 10, 11]
  | 3 => some [0, 1, 10, 11]
  | 4 => some [0, 1, 11]
  | 5 => some [0, 1, 10, 11]
  | 6 => some [0, 1, 10, 11]
  | 7 => some [0, 1, 10, 11]
  | 8 => some [0, 1, 10, 11]
  | 9 => some [0, 1, 10, 11]
  | _ => none
def live93 : Nat → Option (List Nat)
  | 0 => some [0, 2]
  | 1 => some [0, 2, 4]
  | 2 => some [0]
  | 3 => some [0, 2]
  | 4 => some [0, 2, 8]
  | 5 => some [0, 2]
  | 6 => some [0, 2]
  | 7 => some [2]
  | _ => none
def exits93 : Nat → Option (List Nat)
  | _ => none
def live94 : Nat → Option (List Nat)
  | 0 => some [0, 2]
  | 1 => some [0, 2, 4]
  | 2 => some [0]
  | 3 => some [0, 2]
  | 4 => some [0, 2, 8]
  | 5 => some [0, 2]
  | 6 => some [0, 2]
  | 7 => some [0, 2, 14]
  | 8 => some [0, 2]
  | 9 => some [0, 2]
  | 10 => some [2]
  | _ => none
def exits94 : Nat → Option (List Nat)
  | _ => none
def live95 : Nat → Option (List Nat)
  | 0 => some [0]
  | 1 => some [0, 3]
  | 2 => some [0, 3, 4]
  | 3 => some [0, 3, 4, 5]
  | 4 => some [0, 3, 4, 5, 9]
  | 5 => some [0, 3, 4, 5]
  | 6 => some [0, 3, 4, 5, 22]
  | 7 => some [0, 3, 4, 5, 25]
  | 8 => some [0, 3, 5]
  | 9 => some [0, 3, 4, 5]
  | 10 => some [2]
  | _ => none
def exits95 : Nat → Option (List Nat)
  | 0 => some [3]
  | 1 => some [0, 3, 4, 5]
  | _ => none
def live96 : Nat → Option (List Nat)
  | 0 => some [0]
  | 1 => some [2]
  | _ => none
def exits96 : Nat → Option (List Nat)
  | _ => none
def live97 : Nat → Option (List Nat)
  | 0 => some [0]
  | 1 => some [2]
  | _ => none
def exits97 : Nat → Option (List Nat)
  | _ => none
def live98 : Nat → Option (List Nat)
  | 0 => some [0]
  | 1 => some [0]
  | _ => none
def exits98 : Nat → Option (List Nat)
  | _ => none
def live99 : Nat → Option (List Nat)
  | 0 => some [0, 1, 2]
  | 1 => some [1, 2, 7, 8]
  | 2 => some [6]
  | _ => none
def exits99 : Nat → Option (List Nat)
  | _ => none
def live100 : Nat → Option (List Nat)
  | 0 => some [0, 2, 3, 8]
  | 1 => some [0, 2, 3, 8, 9]
  | 2 => some [0, 2, 3, 8, 9, 16]
  | 3 => some [0, 2, 3, 8, 9, 36]
  | 4 => some [0, 2, 3, 8, 9]
  | 5 => some [0, 2, 3, 8, 9, 52]
  | 6 => some [0, 2, 3, 9]
  | 7 => some [0, 2, 3, 8]
  | _ => none
def exits100 : Nat → Option (List Nat)
  | 0 => some []
  | 1 => some [0, 2, 3, 8]
  | _ => none
def live101 : Nat → Option (List Nat)
  | 0 => some [0]
  | 1 => some [2]
  | _ => none
def exits101 : Nat → Option (List Nat)
  | _ => none
def live102 : Nat → Option (List Nat)
  | 0 => some [0]
  | 1 => some [0]
  | 2 => some [0]
  | 3 => some [0]
  | 4 => some [2]
  | _ => none
def exits102 : Nat → Option (List Nat)
  | _ => none
def live103 : Nat → Option (List Nat)
  | 0 => some [0, 1, 2]
  | 1 => some [6]
  | _ => none
def exits103 : Nat → Option (List Nat)
  | _ => none
def live104 : Nat → Option (List Nat)
  | 0 => some [0, 1, 2, 3, 4]
  | 1 => some [0, 1, 2, 3, 4]
  | 2 => some [0, 1, 2, 4]
  | 3 => some [2]
  | 4 => some [10]
  | _ => none
def exits104 : Nat → Option (List Nat)
  | _ => none
def live105 : Nat → Option (List Nat)
  | 0 => some [0]
  | 1 => some [2]
  | _ => none
def exits105 : Nat → Option (List Nat)
  | _ => none
def live106 : Nat → Option (List Nat)
  | 0 => some [0, 1, 2, 3]
  | 1 => some [1, 2, 3, 18]
  | 2 => some [1, 2]
  | 3 => some [8, 9]
  | 4 => some [8, 9]
  | _ => none
def exits106 : Nat → Option (List Nat)
  | _ => none
def keepT : Nat → List Nat
  | 6 => [1, 3, 4, 5]
  | 10 => [3, 4, 5]
  | 12 => [2, 3, 5, 6]
  | 13 => [3, 7, 8, 9]
  | 14 => [1, 3, 4]
  | 17 => [1, 3, 4]
  | 21 => [1, 3, 4]
  | 26 => [0, 1, 5]
  | 30 => [1, 5]
  | 31 => [0, 1, 4, 6, 7]
  | 34 => [1, 2, 15, 16, 17]
  | 36 => [1, 2, 15, 16, 17]
  | 38 => [2, 3, 5]
  | 39 => [2, 4, 6, 9, 10, 11]
  | 40 => [1, 2, 3, 5, 14, 15, 32, 33, 34]
  | 43 => [0, 1, 5, 8]
  | 44 => [1, 4, 19, 20, 21]
  | 45 => [1, 2, 5, 6, 7]
  | 46 => [1, 2, 5, 6]
  | 47 => [3, 37, 38, 39]
  | 49 => [0, 3, 4, 5]
  | 50 => [0, 3, 4, 5, 6]
  | 51 => [1, 3, 4]
  | 56 => [0, 3, 5]
  | 57 => [0, 2, 3, 9, 10]
  | 59 => [0, 2, 3, 4]
  | 62 => [0, 1, 12, 13]
  | 64 => [0, 1, 5, 6, 7, 8, 9]
  | 65 => [1, 2, 8, 9, 14, 15, 16]
  | 66 => [1, 2, 3, 7]
  | 68 => [0, 1, 2, 3, 8, 9]
  | 70 => [0, 1, 7, 8]
  | 71 => [0, 1, 7, 8]
  | 72 => [0, 5, 6]
  | 73 => [0, 3]
  | 74 => [0, 1, 2, 3, 9, 10, 11, 12]
  | 75 => [0]
  | 76 => [0, 1, 6, 7]
  | 77 => [0, 4, 5, 6]
  | 78 => [0, 3, 4]
  | 82 => [1, 2, 3, 71, 72, 73]
  | 84 => [0, 1, 2, 6, 7]
  | 85 => [0, 6, 7, 8, 9, 10]
  | 86 => [0, 1, 6, 7, 8, 9]
  | 88 => [0, 6, 7]
  | 89 => [0, 1, 2, 7, 8, 9, 10]
  | 91 => [0, 1, 9, 10]
  | 92 => [0, 1, 10, 11]
  | 95 => [0, 3, 4, 5]
  | 100 => [0, 2, 3, 8]
  | _ => []
def liveT : Nat → Nat → Option (List Nat)
  | 2 => live2
  | 3 => live3
  | 4 => live4
  | 5 => live5
  | 6 => live6
  | 7 => live7
  | 8 => live8
  | 9 => live9
  | 10 => live10
  | 11 => live11
  | 12 => live12
  | 13 => live13
  | 14 => live14
  | 15 => live15
  | 16 => live16
  | 17 => live17
  | 18 => live18
  | 19 => live19
  | 20 => live20
  | 21 => live21
  | 22 => live22
  | 23 => live23
  | 24 => live24
  | 25 => live25
  | 26 => live26
  | 27 => live27
  | 28 => live28
  | 29 => live29
  | 30 => live30
  | 31 => live31
  | 32 => live32
  | 33 => live33
  | 34 => live34
  | 35 => live35
  | 36 => live36
  | 37 => live37
  | 38 => live38
  | 39 => live39
  | 40 => live40
  | 41 => live41
  | 42 => live42
  | 43 => live43
  | 44 => live44
  | 45 => live45
  | 46 => live46
  | 47 => live47
  | 48 => live48
  | 49 => live49
  | 50 => live50
  | 51 => live51
  | 52 => live52
  | 53 => live53
  | 54 => live54
  | 55 => live55
  | 56 => live56
  | 57 => live57
  | 58 => live58
  | 59 => live59
  | 60 => live60
  | 61 => live61
  | 62 => live62
  | 63 => live63
  | 64 => live64
  | 65 => live65
  | 66 => live66
  | 67 => live67
  | 68 => live68
  | 69 => live69
  | 70 => live70
  | 71 => live71
  | 72 => live72
  | 73 => live73
  | 74 => live74
  | 75 => live75
  | 76 => live76
  | 77 => live77
  | 78 => live78
  | 79 => live79
  | 80 => live80
  | 81 => live81
  | 82 => live82
  | 83 => live83
  | 84 => live84
  | 85 => live85
  | 86 => live86
  | 87 => live87
  | 88 => live88
  | 89 => live89
  | 90 => live90
  | 91 => live91
  | 92 => live92
  | 93 => live93
  | 94 => live94
  | 95 => live95
  | 96 => live96
  | 97 => live97
  | 98 => live98
  | 99 => live99
  | 100 => live100
  | 101 => live101
  | 102 => live102
  | 103 => live103
  | 104 => live104
  | 105 => live105
  | 106 => live106
  | _ => fun _ => none
def exitsT : Nat → Nat → Option (List Nat)
  | 2 => exits2
  | 3 => exits3
  | 4 => exits4
  | 5 => exits5
  | 6 => exits6
  | 7 => exits7
  | 8 => exits8
  | 9 => exits9
  | 10 => exits10
  | 11 => exits11
  | 12 => exits12
  | 13 => exits13
  | 14 => exits14
  | 15 => exits15
  | 16 => exits16
  | 17 => exits17
  | 18 => exits18
  | 19 => exits19
  | 20 => exits20
  | 21 => exits21
  | 22 => exits22
  | 23 => exits23
  | 24 => exits24
  | 25 => exits25
  | 26 => exits26
  | 27 => exits27
  | 28 => exits28
  | 29 => exits29
  | 30 => exits30
  | 31 => exits31
  | 32 => exits32
  | 33 => exits33
  | 34 => exits34
  | 35 => exits35
  | 36 => exits36
  | 37 => exits37
  | 38 => exits38
  | 39 => exits39
  | 40 => exits40
  | 41 => exits41
  | 42 => exits42
  | 43 => exits43
  | 44 => exits44
  | 45 => exits45
  | 46 => exits46
  | 47 => exits47
  | 48 => exits48
  | 49 => exits49
  | 50 => exits50
  | 51 => exits51
  | 52 => exits52
  | 53 => exits53
  | 54 => exits54
  | 55 => exits55
  | 56 => exits56
  | 57 => exits57
  | 58 => exits58
  | 59 => exits59
  | 60 => exits60
  | 61 => exits61
  | 62 => exits62
  | 63 => exits63
  | 64 => exits64
  | 65 => exits65
  | 66 => exits66
  | 67 => exits67
  | 68 => exits68
  | 69 => exits69
  | 70 => exits70
  | 71 => exits71
  | 72 => exits72
  | 73 => exits73
  | 74 => exits74
  | 75 => exits75
  | 76 => exits76
  | 77 => exits77
  | 78 => exits78
  | 79 => exits79
  | 80 => exits80
  | 81 => exits81
  | 82 => exits82
  | 83 => exits83
  | 84 => exits84
  | 85 => exits85
  | 86 => exits86
  | 87 => exits87
  | 88 => exits88
  | 89 => exits89
  | 90 => exits90
  | 91 => exits91
  | 92 => exits92
  | 93 => exits93
  | 94 => exits94
  | 95 => exits95
  | 96 => exits96
  | 97 => exits97
  | 98 => exits98
  | 99 => exits99
  | 100 => exits100
  | 101 => exits101
  | 102 => exits102
  | 103 => exits103
  | 104 => exits104
  | 105 => exits105
  | 106 => exits106
  | _ => fun _ => none
def seesT : Nat → Bool
  | 61 => true
  | 79 => true
  | 33 => true
  | 60 => true
  | 80 => true
  | 81 => true
  | 56 => true
  | 59 => true
  | 39 => true
  | 40 => true
  | 41 => true
  | 43 => true
  | 64 => true
  | 63 => true
  | 67 => true
  | 47 => true
  | _ => false
def globL : Nat → List Nat
  | 10 => [9]
  | 56 => [47, 64]
  | 15 => [3, 4, 5, 6, 8]
  | 16 => [4, 6]
  | 43 => [29, 79, 97, 115, 138]
  | 64 => [73]
  | 63 => [11]
  | 67 => [7]
  | _ => []
def rowsL : Nat → List Nat
  | 56 => [47, 64]
  | 4 => [49, 75, 118, 127, 145]
  | 67 => [7]
  | 50 => [52]
  | _ => []
def frzT : Nat → List Nat
  | 4 => [29]
  | _ => []
def drL : Nat → List Nat
  | 3 => [5, 6, 7]
  | 4 => [5, 22, 29]
  | 5 => [4]
  | 9 => [9, 11, 12]
  | 10 => [4]
  | 12 => [6, 11]
  | 26 => [6]
  | 33 => [1, 5]
  | 38 => [6]
  | 40 => [11]
  | 43 => [3, 13, 15, 17, 19]
  | 45 => [5]
  | 49 => [6, 11]
  | 50 => [8, 11, 13]
  | 56 => [14]
  | 58 => [4, 13]
  | 60 => [2]
  | 61 => [1, 4]
  | 62 => [6]
  | 64 => [12]
  | 68 => [17]
  | 81 => [21]
  | 82 => [3, 8]
  | 84 => [4, 6]
  | 85 => [10]
  | 86 => [10]
  | 88 => [3]
  | 89 => [5, 11, 16, 17, 22, 23]
  | 91 => [1, 3, 5, 8]
  | 92 => [1, 3, 5, 8, 10, 13, 15, 18, 21]
  | 100 => [3, 5, 6]
  | 102 => [1, 2, 3]
  | 106 => [1]
  | _ => []
def orcT : Nat → Option (List AV → Hp → Hp → Option (AV × Hp × Hp))
  | 48 => some sortA
  | 49 => some compactA
  | _ => none
def ann : Ann := { orc := orcT, glob := fun f d => (globL f).contains d, rows := fun f d => (rowsL f).contains d, keep := keepT, live := liveT, exits := exitsT, sees := seesT, dr := fun f i => (drL f).contains i, frz := fun f i => (frzT f).contains i }
theorem ao0 : ann.orc 0 = none := id rfl
theorem ao1 : ann.orc 1 = none := id rfl
theorem ao2 : ann.orc 2 = none := id rfl
theorem ao3 : ann.orc 3 = none := id rfl
theorem ao4 : ann.orc 4 = none := id rfl
theorem ao5 : ann.orc 5 = none := id rfl
theorem ao6 : ann.orc 6 = none := id rfl
theorem ao7 : ann.orc 7 = none := id rfl
theorem ao8 : ann.orc 8 = none := id rfl
theorem ao9 : ann.orc 9 = none := id rfl
theorem ao10 : ann.orc 10 = none := id rfl
theorem ao11 : ann.orc 11 = none := id rfl
theorem ao12 : ann.orc 12 = none := id rfl
theorem ao13 : ann.orc 13 = none := id rfl
theorem ao14 : ann.orc 14 = none := id rfl
theorem ao15 : ann.orc 15 = none := id rfl
theorem ao16 : ann.orc 16 = none := id rfl
theorem ao17 : ann.orc 17 = none := id rfl
theorem ao18 : ann.orc 18 = none := id rfl
theorem ao19 : ann.orc 19 = none := id rfl
theorem ao20 : ann.orc 20 = none := id rfl
theorem ao21 : ann.orc 21 = none := id rfl
theorem ao22 : ann.orc 22 = none := id rfl
theorem ao23 : ann.orc 23 = none := id rfl
theorem ao24 : ann.orc 24 = none := id rfl
theorem ao25 : ann.orc 25 = none := id rfl
theorem ao26 : ann.orc 26 = none := id rfl
theorem ao27 : ann.orc 27 = none := id rfl
theorem ao28 : ann.orc 28 = none := id rfl
theorem ao29 : ann.orc 29 = none := id rfl
theorem ao30 : ann.orc 30 = none := id rfl
theorem ao31 : ann.orc 31 = none := id rfl
theorem ao32 : ann.orc 32 = none := id rfl
theorem ao33 : ann.orc 33 = none := id rfl
theorem ao34 : ann.orc 34 = none := id rfl
theorem ao35 : ann.orc 35 = none := id rfl
theorem ao36 : ann.orc 36 = none := id rfl
theorem ao37 : ann.orc 37 = none := id rfl
theorem ao38 : ann.orc 38 = none := id rfl
theorem ao39 : ann.orc 39 = none := id rfl
theorem ao40 : ann.orc 40 = none := id rfl
theorem ao41 : ann.orc 41 = none := id rfl
theorem ao42 : ann.orc 42 = none := id rfl
theorem ao43 : ann.orc 43 = none := id rfl
theorem ao44 : ann.orc 44 = none := id rfl
theorem ao45 : ann.orc 45 = none := id rfl
theorem ao46 : ann.orc 46 = none := id rfl
theorem ao47 : ann.orc 47 = none := id rfl
theorem ao48 : ann.orc 48 = some sortA := id rfl
theorem ao49 : ann.orc 49 = some compactA := id rfl
theorem ao50 : ann.orc 50 = none := id rfl
theorem ao51 : ann.orc 51 = none := id rfl
theorem ao52 : ann.orc 52 = none := id rfl
theorem ao53 : ann.orc 53 = none := id rfl
theorem ao54 : ann.orc 54 = none := id rfl
theorem ao55 : ann.orc 55 = none := id rfl
theorem ao56 : ann.orc 56 = none := id rfl
theorem ao57 : ann.orc 57 = none := id rfl
theorem ao58 : ann.orc 58 = none := id rfl
theorem ao59 : ann.orc 59 = none := id rfl
theorem ao60 : ann.orc 60 = none := id rfl
theorem ao61 : ann.orc 61 = none := id rfl
theorem ao62 : ann.orc 62 = none := id rfl
theorem ao63 : ann.orc 63 = none := id rfl
theorem ao64 : ann.orc 64 = none := id rfl
theorem ao65 : ann.orc 65 = none := id rfl
theorem ao66 : ann.orc 66 = none := id rfl
theorem ao67 : ann.orc 67 = none := id rfl
theorem ao68 : ann.orc 68 = none := id rfl
theorem ao69 : ann.orc 69 = none := id rfl
theorem ao70 : ann.orc 70 = none := id rfl
theorem ao71 : ann.orc 71 = none := id rfl
theorem ao72 : ann.orc 72 = none := id rfl
theorem ao73 : ann.orc 73 = none := id rfl
theorem ao74 : ann.orc 74 = none := id rfl
theorem ao75 : ann.orc 75 = none := id rfl
theorem ao76 : ann.orc 76 = none := id rfl
theorem ao77 : ann.orc 77 = none := id rfl
theorem ao78 : ann.orc 78 = none := id rfl
theorem ao79 : ann.orc 79 = none := id rfl
theorem ao80 : ann.orc 80 = none := id rfl
theorem ao81 : ann.orc 81 = none := id rfl
theorem ao82 : ann.orc 82 = none := id rfl
theorem ao83 : ann.orc 83 = none := id rfl
theorem ao84 : ann.orc 84 = none := id rfl
theorem ao85 : ann.orc 85 = none := id rfl
theorem ao86 : ann.orc 86 = none := id rfl
theorem ao87 : ann.orc 87 = none := id rfl
theorem ao88 : ann.orc 88 = none := id rfl
theorem ao89 : ann.orc 89 = none := id rfl
theorem ao90 : ann.orc 90 = none := id rfl
theorem ao91 : ann.orc 91 = none := id rfl
theorem ao92 : ann.orc 92 = none := id rfl
theorem ao93 : ann.orc 93 = none := id rfl
theorem ao94 : ann.orc 94 = none := id rfl
theorem ao95 : ann.orc 95 = none := id rfl
theorem ao96 : ann.orc 96 = none := id rfl
theorem ao97 : ann.orc 97 = none := id rfl
theorem ao98 : ann.orc 98 = none := id rfl
theorem ao99 : ann.orc 99 = none := id rfl
theorem ao100 : ann.orc 100 = none := id rfl
theorem ao101 : ann.orc 101 = none := id rfl
theorem ao102 : ann.orc 102 = none := id rfl
theorem ao103 : ann.orc 103 = none := id rfl
theorem ao104 : ann.orc 104 = none := id rfl
theorem ao105 : ann.orc 105 = none := id rfl
theorem ao106 : ann.orc 106 = none := id rfl
theorem ao107 : ann.orc 107 = none := id rfl
theorem ao108 : ann.orc 108 = none := id rfl
theorem ao109 : ann.orc 109 = none := id rfl
theorem ao110 : ann.orc 110 = none := id rfl
theorem ao111 : ann.orc 111 = none := id rfl
theorem ao112 : ann.orc 112 = none := id rfl
theorem ao113 : ann.orc 113 = none := id rfl
theorem ao114 : ann.orc 114 = none := id rfl
theorem ao115 : ann.orc 115 = none := id rfl
theorem ao116 : ann.orc 116 = none := id rfl
theorem ao117 : ann.orc 117 = none := id rfl
theorem ao118 : ann.orc 118 = none := id rfl
theorem ao119 : ann.orc 119 = none := id rfl
theorem ao120 : ann.orc 120 = none := id rfl
theorem ao121 : ann.orc 121 = none := id rfl
theorem ao122 : ann.orc 122 = none := id rfl
theorem al2 : ann.live 2 = live2 := id rfl
theorem ax2 : ann.exits 2 = exits2 := id rfl
theorem ak2 : ann.keep 2 = [] := id rfl
theorem as2 : ann.sees 2 = false := id rfl
theorem ag2 {d : Nat} : ann.glob 2 d = false := id rfl
theorem ar2 {d : Nat} : ann.rows 2 d = false := id rfl
theorem af2 {i : Nat} : ann.frz 2 i = false := id rfl
theorem al3 : ann.live 3 = live3 := id rfl
theorem ax3 : ann.exits 3 = exits3 := id rfl
theorem ak3 : ann.keep 3 = [] := id rfl
theorem as3 : ann.sees 3 = false := id rfl
theorem ag3 {d : Nat} : ann.glob 3 d = false := id rfl
theorem ar3 {d : Nat} : ann.rows 3 d = false := id rfl
theorem af3 {i : Nat} : ann.frz 3 i = false := id rfl
theorem ad3_5 : ann.dr 3 5 = true := id rfl
theorem ad3_6 : ann.dr 3 6 = true := id rfl
theorem ad3_7 : ann.dr 3 7 = true := id rfl
theorem al4 : ann.live 4 = live4 := id rfl
theorem ax4 : ann.exits 4 = exits4 := id rfl
theorem ak4 : ann.keep 4 = [] := id rfl
theorem as4 : ann.sees 4 = false := id rfl
theorem ag4 {d : Nat} : ann.glob 4 d = false := id rfl
theorem ar4_9 : ann.rows 4 9 = false := id rfl
theorem ar4_11 : ann.rows 4 11 = false := id rfl
theorem ar4_17 : ann.rows 4 17 = false := id rfl
theorem ar4_49 : ann.rows 4 49 = true := id rfl
theorem ar4_75 : ann.rows 4 75 = true := id rfl
theorem ar4_118 : ann.rows 4 118 = true := id rfl
theorem ar4_126 : ann.rows 4 126 = false := id rfl
theorem ar4_127 : ann.rows 4 127 = true := id rfl
theorem ar4_137 : ann.rows 4 137 = false := id rfl
theorem ar4_139 : ann.rows 4 139 = false := id rfl
theorem ar4_140 : ann.rows 4 140 = false := id rfl
theorem ar4_145 : ann.rows 4 145 = true := id rfl
theorem af4_0 : ann.frz 4 0 = false := id rfl
theorem af4_1 : ann.frz 4 1 = false := id rfl
theorem af4_2 : ann.frz 4 2 = false := id rfl
theorem af4_3 : ann.frz 4 3 = false := id rfl
theorem af4_4 : ann.frz 4 4 = false := id rfl
theorem af4_5 : ann.frz 4 5 = false := id rfl
theorem af4_6 : ann.frz 4 6 = false := id rfl
theorem af4_7 : ann.frz 4 7 = false := id rfl
theorem af4_8 : ann.frz 4 8 = false := id rfl
theorem af4_9 : ann.frz 4 9 = false := id rfl
theorem af4_10 : ann.frz 4 10 = false := id rfl
theorem af4_15 : ann.frz 4 15 = false := id rfl
theorem af4_16 : ann.frz 4 16 = false := id rfl
theorem af4_17 : ann.frz 4 17 = false := id rfl
theorem af4_18 : ann.frz 4 18 = false := id rfl
theorem af4_19 : ann.frz 4 19 = false := id rfl
theorem af4_20 : ann.frz 4 20 = false := id rfl
theorem af4_21 : ann.frz 4 21 = false := id rfl
theorem af4_22 : ann.frz 4 22 = false := id rfl
theorem af4_23 : ann.frz 4 23 = false := id rfl
theorem af4_24 : ann.frz 4 24 = false := id rfl
theorem af4_25 : ann.frz 4 25 = false := id rfl
theorem af4_26 : ann.frz 4 26 = false := id rfl
theorem af4_11 : ann.frz 4 11 = false := id rfl
theorem af4_12 : ann.frz 4 12 = false := id rfl
theorem af4_13 : ann.frz 4 13 = false := id rfl
theorem af4_14 : ann.frz 4 14 = false := id rfl
theorem af4_27 : ann.frz 4 27 = false := id rfl
theorem af4_28 : ann.frz 4 28 = false := id rfl
theorem af4_29 : ann.frz 4 29 = true := id rfl
theorem ad4_5 : ann.dr 4 5 = true := id rfl
theorem ad4_22 : ann.dr 4 22 = true := id rfl
theorem ad4_29 : ann.dr 4 29 = true := id rfl
theorem al5 : ann.live 5 = live5 := id rfl
theorem ax5 : ann.exits 5 = exits5 := id rfl
theorem ak5 : ann.keep 5 = [] := id rfl
theorem as5 : ann.sees 5 = false := id rfl
theorem ag5 {d : Nat} : ann.glob 5 d = false := id rfl
theorem ar5 {d : Nat} : ann.rows 5 d = false := id rfl
theorem af5 {i : Nat} : ann.frz 5 i = false := id rfl
theorem ad5_4 : ann.dr 5 4 = true := id rfl
theorem al6 : ann.live 6 = live6 := id rfl
theorem ax6 : ann.exits 6 = exits6 := id rfl
theorem ak6 : ann.keep 6 = [1, 3, 4, 5] := id rfl
theorem as6 : ann.sees 6 = false := id rfl
theorem ag6 {d : Nat} : ann.glob 6 d = false := id rfl
theorem ar6 {d : Nat} : ann.rows 6 d = false := id rfl
theorem af6 {i : Nat} : ann.frz 6 i = false := id rfl
theorem al7 : ann.live 7 = live7 := id rfl
theorem ax7 : ann.exits 7 = exits7 := id rfl
theorem ak7 : ann.keep 7 = [] := id rfl
theorem as7 : ann.sees 7 = false := id rfl
theorem ag7 {d : Nat} : ann.glob 7 d = false := id rfl
theorem ar7 {d : Nat} : ann.rows 7 d = false := id rfl
theorem af7 {i : Nat} : ann.frz 7 i = false := id rfl
theorem al8 : ann.live 8 = live8 := id rfl
theorem ax8 : ann.exits 8 = exits8 := id rfl
theorem ak8 : ann.keep 8 = [] := id rfl
theorem as8 : ann.sees 8 = false := id rfl
theorem ag8 {d : Nat} : ann.glob 8 d = false := id rfl
theorem ar8 {d : Nat} : ann.rows 8 d = false := id rfl
theorem af8 {i : Nat} : ann.frz 8 i = false := id rfl
theorem al9 : ann.live 9 = live9 := id rfl
theorem ax9 : ann.exits 9 = exits9 := id rfl
theorem ak9 : ann.keep 9 = [] := id rfl
theorem as9 : ann.sees 9 = false := id rfl
theorem ag9 {d : Nat} : ann.glob 9 d = false := id rfl
theorem ar9 {d : Nat} : ann.rows 9 d = false := id rfl
theorem af9 {i : Nat} : ann.frz 9 i = false := id rfl
theorem ad9_9 : ann.dr 9 9 = true := id rfl
theorem ad9_11 : ann.dr 9 11 = true := id rfl
theorem ad9_12 : ann.dr 9 12 = true := id rfl
theorem al10 : ann.live 10 = live10 := id rfl
theorem ax10 : ann.exits 10 = exits10 := id rfl
theorem ak10 : ann.keep 10 = [3, 4, 5] := id rfl
theorem as10 : ann.sees 10 = false := id rfl
theorem ag10_9 : ann.glob 10 9 = true := id rfl
theorem ar10 {d : Nat} : ann.rows 10 d = false := id rfl
theorem af10 {i : Nat} : ann.frz 10 i = false := id rfl
theorem ad10_4 : ann.dr 10 4 = true := id rfl
theorem al11 : ann.live 11 = live11 := id rfl
theorem ax11 : ann.exits 11 = exits11 := id rfl
theorem ak11 : ann.keep 11 = [] := id rfl
theorem as11 : ann.sees 11 = false := id rfl
theorem ag11 {d : Nat} : ann.glob 11 d = false := id rfl
theorem ar11 {d : Nat} : ann.rows 11 d = false := id rfl
theorem af11 {i : Nat} : ann.frz 11 i = false := id rfl
theorem al12 : ann.live 12 = live12 := id rfl
theorem ax12 : ann.exits 12 = exits12 := id rfl
theorem ak12 : ann.keep 12 = [2, 3, 5, 6] := id rfl
theorem as12 : ann.sees 12 = false := id rfl
theorem ag12 {d : Nat} : ann.glob 12 d = false := id rfl
theorem ar12 {d : Nat} : ann.rows 12 d = false := id rfl
theorem af12 {i : Nat} : ann.frz 12 i = false := id rfl
theorem ad12_6 : ann.dr 12 6 = true := id rfl
theorem ad12_11 : ann.dr 12 11 = true := id rfl
theorem al13 : ann.live 13 = live13 := id rfl
theorem ax13 : ann.exits 13 = exits13 := id rfl
theorem ak13 : ann.keep 13 = [3, 7, 8, 9] := id rfl
theorem as13 : ann.sees 13 = false := id rfl
theorem ag13 {d : Nat} : ann.glob 13 d = false := id rfl
theorem ar13 {d : Nat} : ann.rows 13 d = false := id rfl
theorem af13 {i : Nat} : ann.frz 13 i = false := id rfl
theorem al14 : ann.live 14 = live14 := id rfl
theorem ax14 : ann.exits 14 = exits14 := id rfl
theorem ak14 : ann.keep 14 = [1, 3, 4] := id rfl
theorem as14 : ann.sees 14 = false := id rfl
theorem ag14 {d : Nat} : ann.glob 14 d = false := id rfl
theorem ar14 {d : Nat} : ann.rows 14 d = false := id rfl
theorem af14 {i : Nat} : ann.frz 14 i = false := id rfl
theorem al15 : ann.live 15 = live15 := id rfl
theorem ax15 : ann.exits 15 = exits15 := id rfl
theorem ak15 : ann.keep 15 = [] := id rfl
theorem as15 : ann.sees 15 = false := id rfl
theorem ag15_1 : ann.glob 15 1 = false := id rfl
theorem ag15_2 : ann.glob 15 2 = false := id rfl
theorem ag15_3 : ann.glob 15 3 = true := id rfl
theorem ag15_4 : ann.glob 15 4 = true := id rfl
theorem ag15_5 : ann.glob 15 5 = true := id rfl
theorem ag15_6 : ann.glob 15 6 = true := id rfl
theorem ag15_8 : ann.glob 15 8 = true := id rfl
theorem ar15 {d : Nat} : ann.rows 15 d = false := id rfl
theorem af15 {i : Nat} : ann.frz 15 i = false := id rfl
theorem al16 : ann.live 16 = live16 := id rfl
theorem ax16 : ann.exits 16 = exits16 := id rfl
theorem ak16 : ann.keep 16 = [] := id rfl
theorem as16 : ann.sees 16 = false := id rfl
theorem ag16_1 : ann.glob 16 1 = false := id rfl
theorem ag16_2 : ann.glob 16 2 = false := id rfl
theorem ag16_4 : ann.glob 16 4 = true := id rfl
theorem ag16_6 : ann.glob 16 6 = true := id rfl
theorem ar16 {d : Nat} : ann.rows 16 d = false := id rfl
theorem af16 {i : Nat} : ann.frz 16 i = false := id rfl
theorem al17 : ann.live 17 = live17 := id rfl
theorem ax17 : ann.exits 17 = exits17 := id rfl
theorem ak17 : ann.keep 17 = [1, 3, 4] := id rfl
theorem as17 : ann.sees 17 = false := id rfl
theorem ag17 {d : Nat} : ann.glob 17 d = false := id rfl
theorem ar17 {d : Nat} : ann.rows 17 d = false := id rfl
theorem af17 {i : Nat} : ann.frz 17 i = false := id rfl
theorem al18 : ann.live 18 = live18 := id rfl
theorem ax18 : ann.exits 18 = exits18 := id rfl
theorem ak18 : ann.keep 18 = [] := id rfl
theorem as18 : ann.sees 18 = false := id rfl
theorem ag18 {d : Nat} : ann.glob 18 d = false := id rfl
theorem ar18 {d : Nat} : ann.rows 18 d = false := id rfl
theorem af18 {i : Nat} : ann.frz 18 i = false := id rfl
theorem al19 : ann.live 19 = live19 := id rfl
theorem ax19 : ann.exits 19 = exits19 := id rfl
theorem ak19 : ann.keep 19 = [] := id rfl
theorem as19 : ann.sees 19 = false := id rfl
theorem ag19 {d : Nat} : ann.glob 19 d = false := id rfl
theorem ar19 {d : Nat} : ann.rows 19 d = false := id rfl
theorem af19 {i : Nat} : ann.frz 19 i = false := id rfl
theorem al20 : ann.live 20 = live20 := id rfl
theorem ax20 : ann.exits 20 = exits20 := id rfl
theorem ak20 : ann.keep 20 = [] := id rfl
theorem as20 : ann.sees 20 = false := id rfl
theorem ag20 {d : Nat} : ann.glob 20 d = false := id rfl
theorem ar20 {d : Nat} : ann.rows 20 d = false := id rfl
theorem af20 {i : Nat} : ann.frz 20 i = false := id rfl
theorem al21 : ann.live 21 = live21 := id rfl
theorem ax21 : ann.exits 21 = exits21 := id rfl
theorem ak21 : ann.keep 21 = [1, 3, 4] := id rfl
theorem as21 : ann.sees 21 = false := id rfl
theorem ag21 {d : Nat} : ann.glob 21 d = false := id rfl
theorem ar21 {d : Nat} : ann.rows 21 d = false := id rfl
theorem af21 {i : Nat} : ann.frz 21 i = false := id rfl
theorem al22 : ann.live 22 = live22 := id rfl
theorem ax22 : ann.exits 22 = exits22 := id rfl
theorem ak22 : ann.keep 22 = [] := id rfl
theorem as22 : ann.sees 22 = false := id rfl
theorem ag22 {d : Nat} : ann.glob 22 d = false := id rfl
theorem ar22 {d : Nat} : ann.rows 22 d = false := id rfl
theorem af22 {i : Nat} : ann.frz 22 i = false := id rfl
theorem al23 : ann.live 23 = live23 := id rfl
theorem ax23 : ann.exits 23 = exits23 := id rfl
theorem ak23 : ann.keep 23 = [] := id rfl
theorem as23 : ann.sees 23 = false := id rfl
theorem ag23 {d : Nat} : ann.glob 23 d = false := id rfl
theorem ar23 {d : Nat} : ann.rows 23 d = false := id rfl
theorem af23 {i : Nat} : ann.frz 23 i = false := id rfl
theorem al24 : ann.live 24 = live24 := id rfl
theorem ax24 : ann.exits 24 = exits24 := id rfl
theorem ak24 : ann.keep 24 = [] := id rfl
theorem as24 : ann.sees 24 = false := id rfl
theorem ag24 {d : Nat} : ann.glob 24 d = false := id rfl
theorem ar24 {d : Nat} : ann.rows 24 d = false := id rfl
theorem af24 {i : Nat} : ann.frz 24 i = false := id rfl
theorem al25 : ann.live 25 = live25 := id rfl
theorem ax25 : ann.exits 25 = exits25 := id rfl
theorem ak25 : ann.keep 25 = [] := id rfl
theorem as25 : ann.sees 25 = false := id rfl
theorem ag25 {d : Nat} : ann.glob 25 d = false := id rfl
theorem ar25 {d : Nat} : ann.rows 25 d = false := id rfl
theorem af25 {i : Nat} : ann.frz 25 i = false := id rfl
theorem al26 : ann.live 26 = live26 := id rfl
theorem ax26 : ann.exits 26 = exits26 := id rfl
theorem ak26 : ann.keep 26 = [0, 1, 5] := id rfl
theorem as26 : ann.sees 26 = false := id rfl
theorem ag26 {d : Nat} : ann.glob 26 d = false := id rfl
theorem ar26 {d : Nat} : ann.rows 26 d = false := id rfl
theorem af26 {i : Nat} : ann.frz 26 i = false := id rfl
theorem ad26_6 : ann.dr 26 6 = true := id rfl
theorem al27 : ann.live 27 = live27 := id rfl
theorem ax27 : ann.exits 27 = exits27 := id rfl
theorem ak27 : ann.keep 27 = [] := id rfl
theorem as27 : ann.sees 27 = false := id rfl
theorem ag27 {d : Nat} : ann.glob 27 d = false := id rfl
theorem ar27 {d : Nat} : ann.rows 27 d = false := id rfl
theorem af27 {i : Nat} : ann.frz 27 i = false := id rfl
theorem al28 : ann.live 28 = live28 := id rfl
theorem ax28 : ann.exits 28 = exits28 := id rfl
theorem ak28 : ann.keep 28 = [] := id rfl
theorem as28 : ann.sees 28 = false := id rfl
theorem ag28 {d : Nat} : ann.glob 28 d = false := id rfl
theorem ar28 {d : Nat} : ann.rows 28 d = false := id rfl
theorem af28 {i : Nat} : ann.frz 28 i = false := id rfl
theorem al29 : ann.live 29 = live29 := id rfl
theorem ax29 : ann.exits 29 = exits29 := id rfl
theorem ak29 : ann.keep 29 = [] := id rfl
theorem as29 : ann.sees 29 = false := id rfl
theorem ag29 {d : Nat} : ann.glob 29 d = false := id rfl
theorem ar29 {d : Nat} : ann.rows 29 d = false := id rfl
theorem af29 {i : Nat} : ann.frz 29 i = false := id rfl
theorem al30 : ann.live 30 = live30 := id rfl
theorem ax30 : ann.exits 30 = exits30 := id rfl
theorem ak30 : ann.keep 30 = [1, 5] := id rfl
theorem as30 : ann.sees 30 = false := id rfl
theorem ag30 {d : Nat} : ann.glob 30 d = false := id rfl
theorem ar30 {d : Nat} : ann.rows 30 d = false := id rfl
theorem af30 {i : Nat} : ann.frz 30 i = false := id rfl
theorem al31 : ann.live 31 = live31 := id rfl
theorem ax31 : ann.exits 31 = exits31 := id rfl
theorem ak31 : ann.keep 31 = [0, 1, 4, 6, 7] := id rfl
theorem as31 : ann.sees 31 = false := id rfl
theorem ag31 {d : Nat} : ann.glob 31 d = false := id rfl
theorem ar31 {d : Nat} : ann.rows 31 d = false := id rfl
theorem af31 {i : Nat} : ann.frz 31 i = false := id rfl
theorem al32 : ann.live 32 = live32 := id rfl
theorem ax32 : ann.exits 32 = exits32 := id rfl
theorem ak32 : ann.keep 32 = [] := id rfl
theorem as32 : ann.sees 32 = false := id rfl
theorem ag32 {d : Nat} : ann.glob 32 d = false := id rfl
theorem ar32 {d : Nat} : ann.rows 32 d = false := id rfl
theorem af32 {i : Nat} : ann.frz 32 i = false := id rfl
theorem al33 : ann.live 33 = live33 := id rfl
theorem ax33 : ann.exits 33 = exits33 := id rfl
theorem ak33 : ann.keep 33 = [] := id rfl
theorem as33 : ann.sees 33 = true := id rfl
theorem ag33 {d : Nat} : ann.glob 33 d = false := id rfl
theorem ar33 {d : Nat} : ann.rows 33 d = false := id rfl
theorem af33 {i : Nat} : ann.frz 33 i = false := id rfl
theorem ad33_1 : ann.dr 33 1 = true := id rfl
theorem ad33_5 : ann.dr 33 5 = true := id rfl
theorem al34 : ann.live 34 = live34 := id rfl
theorem ax34 : ann.exits 34 = exits34 := id rfl
theorem ak34 : ann.keep 34 = [1, 2, 15, 16, 17] := id rfl
theorem as34 : ann.sees 34 = false := id rfl
theorem ag34 {d : Nat} : ann.glob 34 d = false := id rfl
theorem ar34 {d : Nat} : ann.rows 34 d = false := id rfl
theorem af34 {i : Nat} : ann.frz 34 i = false := id rfl
theorem al35 : ann.live 35 = live35 := id rfl
theorem ax35 : ann.exits 35 = exits35 := id rfl
theorem ak35 : ann.keep 35 = [] := id rfl
theorem as35 : ann.sees 35 = false := id rfl
theorem ag35 {d : Nat} : ann.glob 35 d = false := id rfl
theorem ar35 {d : Nat} : ann.rows 35 d = false := id rfl
theorem af35 {i : Nat} : ann.frz 35 i = false := id rfl
theorem al36 : ann.live 36 = live36 := id rfl
theorem ax36 : ann.exits 36 = exits36 := id rfl
theorem ak36 : ann.keep 36 = [1, 2, 15, 16, 17] := id rfl
theorem as36 : ann.sees 36 = false := id rfl
theorem ag36 {d : Nat} : ann.glob 36 d = false := id rfl
theorem ar36 {d : Nat} : ann.rows 36 d = false := id rfl
theorem af36 {i : Nat} : ann.frz 36 i = false := id rfl
theorem al37 : ann.live 37 = live37 := id rfl
theorem ax37 : ann.exits 37 = exits37 := id rfl
theorem ak37 : ann.keep 37 = [] := id rfl
theorem as37 : ann.sees 37 = false := id rfl
theorem ag37 {d : Nat} : ann.glob 37 d = false := id rfl
theorem ar37 {d : Nat} : ann.rows 37 d = false := id rfl
theorem af37 {i : Nat} : ann.frz 37 i = false := id rfl
theorem al38 : ann.live 38 = live38 := id rfl
theorem ax38 : ann.exits 38 = exits38 := id rfl
theorem ak38 : ann.keep 38 = [2, 3, 5] := id rfl
theorem as38 : ann.sees 38 = false := id rfl
theorem ag38 {d : Nat} : ann.glob 38 d = false := id rfl
theorem ar38 {d : Nat} : ann.rows 38 d = false := id rfl
theorem af38 {i : Nat} : ann.frz 38 i = false := id rfl
theorem ad38_6 : ann.dr 38 6 = true := id rfl
theorem al39 : ann.live 39 = live39 := id rfl
theorem ax39 : ann.exits 39 = exits39 := id rfl
theorem ak39 : ann.keep 39 = [2, 4, 6, 9, 10, 11] := id rfl
theorem as39 : ann.sees 39 = true := id rfl
theorem ag39 {d : Nat} : ann.glob 39 d = false := id rfl
theorem ar39 {d : Nat} : ann.rows 39 d = false := id rfl
theorem af39 {i : Nat} : ann.frz 39 i = false := id rfl
theorem al40 : ann.live 40 = live40 := id rfl
theorem ax40 : ann.exits 40 = exits40 := id rfl
theorem ak40 : ann.keep 40 = [1, 2, 3, 5, 14, 15, 32, 33, 34] := id rfl
theorem as40 : ann.sees 40 = true := id rfl
theorem ag40 {d : Nat} : ann.glob 40 d = false := id rfl
theorem ar40 {d : Nat} : ann.rows 40 d = false := id rfl
theorem af40 {i : Nat} : ann.frz 40 i = false := id rfl
theorem ad40_11 : ann.dr 40 11 = true := id rfl
theorem al41 : ann.live 41 = live41 := id rfl
theorem ax41 : ann.exits 41 = exits41 := id rfl
theorem ak41 : ann.keep 41 = [] := id rfl
theorem as41 : ann.sees 41 = true := id rfl
theorem ag41 {d : Nat} : ann.glob 41 d = false := id rfl
theorem ar41 {d : Nat} : ann.rows 41 d = false := id rfl
theorem af41 {i : Nat} : ann.frz 41 i = false := id rfl
theorem al42 : ann.live 42 = live42 := id rfl
theorem ax42 : ann.exits 42 = exits42 := id rfl
theorem ak42 : ann.keep 42 = [] := id rfl
theorem as42 : ann.sees 42 = false := id rfl
theorem ag42 {d : Nat} : ann.glob 42 d = false := id rfl
theorem ar42 {d : Nat} : ann.rows 42 d = false := id rfl
theorem af42 {i : Nat} : ann.frz 42 i = false := id rfl
theorem al43 : ann.live 43 = live43 := id rfl
theorem ax43 : ann.exits 43 = exits43 := id rfl
theorem ak43 : ann.keep 43 = [0, 1, 5, 8] := id rfl
theorem as43 : ann.sees 43 = true := id rfl
theorem ag43_5 : ann.glob 43 5 = false := id rfl
theorem ag43_6 : ann.glob 43 6 = false := id rfl
theorem ag43_28 : ann.glob 43 28 = false := id rfl
theorem ag43_29 : ann.glob 43 29 = true := id rfl
theorem ag43_78 : ann.glob 43 78 = false := id rfl
theorem ag43_79 : ann.glob 43 79 = true := id rfl
theorem ag43_96 : ann.glob 43 96 = false := id rfl
theorem ag43_97 : ann.glob 43 97 = true := id rfl
theorem ag43_114 : ann.glob 43 114 = false := id rfl
theorem ag43_115 : ann.glob 43 115 = true := id rfl
theorem ag43_137 : ann.glob 43 137 = false := id rfl
theorem ag43_138 : ann.glob 43 138 = true := id rfl
theorem ar43 {d : Nat} : ann.rows 43 d = false := id rfl
theorem af43 {i : Nat} : ann.frz 43 i = false := id rfl
theorem ad43_3 : ann.dr 43 3 = true := id rfl
theorem ad43_13 : ann.dr 43 13 = true := id rfl
theorem ad43_15 : ann.dr 43 15 = true := id rfl
theorem ad43_17 : ann.dr 43 17 = true := id rfl
theorem ad43_19 : ann.dr 43 19 = true := id rfl
theorem al44 : ann.live 44 = live44 := id rfl
theorem ax44 : ann.exits 44 = exits44 := id rfl
theorem ak44 : ann.keep 44 = [1, 4, 19, 20, 21] := id rfl
theorem as44 : ann.sees 44 = false := id rfl
theorem ag44 {d : Nat} : ann.glob 44 d = false := id rfl
theorem ar44 {d : Nat} : ann.rows 44 d = false := id rfl
theorem af44 {i : Nat} : ann.frz 44 i = false := id rfl
theorem al45 : ann.live 45 = live45 := id rfl
theorem ax45 : ann.exits 45 = exits45 := id rfl
theorem ak45 : ann.keep 45 = [1, 2, 5, 6, 7] := id rfl
theorem as45 : ann.sees 45 = false := id rfl
theorem ag45 {d : Nat} : ann.glob 45 d = false := id rfl
theorem ar45 {d : Nat} : ann.rows 45 d = false := id rfl
theorem af45 {i : Nat} : ann.frz 45 i = false := id rfl
theorem ad45_5 : ann.dr 45 5 = true := id rfl
theorem al46 : ann.live 46 = live46 := id rfl
theorem ax46 : ann.exits 46 = exits46 := id rfl
theorem ak46 : ann.keep 46 = [1, 2, 5, 6] := id rfl
theorem as46 : ann.sees 46 = false := id rfl
theorem ag46 {d : Nat} : ann.glob 46 d = false := id rfl
theorem ar46 {d : Nat} : ann.rows 46 d = false := id rfl
theorem af46 {i : Nat} : ann.frz 46 i = false := id rfl
theorem al47 : ann.live 47 = live47 := id rfl
theorem ax47 : ann.exits 47 = exits47 := id rfl
theorem ak47 : ann.keep 47 = [3, 37, 38, 39] := id rfl
theorem as47 : ann.sees 47 = true := id rfl
theorem ag47 {d : Nat} : ann.glob 47 d = false := id rfl
theorem ar47 {d : Nat} : ann.rows 47 d = false := id rfl
theorem af47 {i : Nat} : ann.frz 47 i = false := id rfl
theorem al48 : ann.live 48 = live48 := id rfl
theorem ax48 : ann.exits 48 = exits48 := id rfl
theorem ak48 : ann.keep 48 = [] := id rfl
theorem as48 : ann.sees 48 = false := id rfl
theorem ag48 {d : Nat} : ann.glob 48 d = false := id rfl
theorem ar48 {d : Nat} : ann.rows 48 d = false := id rfl
theorem af48 {i : Nat} : ann.frz 48 i = false := id rfl
theorem al49 : ann.live 49 = live49 := id rfl
theorem ax49 : ann.exits 49 = exits49 := id rfl
theorem ak49 : ann.keep 49 = [0, 3, 4, 5] := id rfl
theorem as49 : ann.sees 49 = false := id rfl
theorem ag49 {d : Nat} : ann.glob 49 d = false := id rfl
theorem ar49 {d : Nat} : ann.rows 49 d = false := id rfl
theorem af49 {i : Nat} : ann.frz 49 i = false := id rfl
theorem ad49_6 : ann.dr 49 6 = true := id rfl
theorem ad49_11 : ann.dr 49 11 = true := id rfl
theorem al50 : ann.live 50 = live50 := id rfl
theorem ax50 : ann.exits 50 = exits50 := id rfl
theorem ak50 : ann.keep 50 = [0, 3, 4, 5, 6] := id rfl
theorem as50 : ann.sees 50 = false := id rfl
theorem ag50 {d : Nat} : ann.glob 50 d = false := id rfl
theorem ar50_51 : ann.rows 50 51 = false := id rfl
theorem ar50_52 : ann.rows 50 52 = true := id rfl
theorem af50 {i : Nat} : ann.frz 50 i = false := id rfl
theorem ad50_8 : ann.dr 50 8 = true := id rfl
theorem ad50_11 : ann.dr 50 11 = true := id rfl
theorem ad50_13 : ann.dr 50 13 = true := id rfl
theorem al51 : ann.live 51 = live51 := id rfl
theorem ax51 : ann.exits 51 = exits51 := id rfl
theorem ak51 : ann.keep 51 = [1, 3, 4] := id rfl
theorem as51 : ann.sees 51 = false := id rfl
theorem ag51 {d : Nat} : ann.glob 51 d = false := id rfl
theorem ar51 {d : Nat} : ann.rows 51 d = false := id rfl
theorem af51 {i : Nat} : ann.frz 51 i = false := id rfl
theorem al52 : ann.live 52 = live52 := id rfl
theorem ax52 : ann.exits 52 = exits52 := id rfl
theorem ak52 : ann.keep 52 = [] := id rfl
theorem as52 : ann.sees 52 = false := id rfl
theorem ag52 {d : Nat} : ann.glob 52 d = false := id rfl
theorem ar52 {d : Nat} : ann.rows 52 d = false := id rfl
theorem af52 {i : Nat} : ann.frz 52 i = false := id rfl
theorem al53 : ann.live 53 = live53 := id rfl
theorem ax53 : ann.exits 53 = exits53 := id rfl
theorem ak53 : ann.keep 53 = [] := id rfl
theorem as53 : ann.sees 53 = false := id rfl
theorem ag53 {d : Nat} : ann.glob 53 d = false := id rfl
theorem ar53 {d : Nat} : ann.rows 53 d = false := id rfl
theorem af53 {i : Nat} : ann.frz 53 i = false := id rfl
theorem al54 : ann.live 54 = live54 := id rfl
theorem ax54 : ann.exits 54 = exits54 := id rfl
theorem ak54 : ann.keep 54 = [] := id rfl
theorem as54 : ann.sees 54 = false := id rfl
theorem ag54 {d : Nat} : ann.glob 54 d = false := id rfl
theorem ar54 {d : Nat} : ann.rows 54 d = false := id rfl
theorem af54 {i : Nat} : ann.frz 54 i = false := id rfl
theorem al55 : ann.live 55 = live55 := id rfl
theorem ax55 : ann.exits 55 = exits55 := id rfl
theorem ak55 : ann.keep 55 = [] := id rfl
theorem as55 : ann.sees 55 = false := id rfl
theorem ag55 {d : Nat} : ann.glob 55 d = false := id rfl
theorem ar55 {d : Nat} : ann.rows 55 d = false := id rfl
theorem af55 {i : Nat} : ann.frz 55 i = false := id rfl
theorem al56 : ann.live 56 = live56 := id rfl
theorem ax56 : ann.exits 56 = exits56 := id rfl
theorem ak56 : ann.keep 56 = [0, 3, 5] := id rfl
theorem as56 : ann.sees 56 = true := id rfl
theorem ag56_3 : ann.glob 56 3 = false := id rfl
theorem ag56_47 : ann.glob 56 47 = true := id rfl
theorem ag56_63 : ann.glob 56 63 = false := id rfl
theorem ag56_64 : ann.glob 56 64 = true := id rfl
theorem ar56_3 : ann.rows 56 3 = false := id rfl
theorem ar56_47 : ann.rows 56 47 = true := id rfl
theorem ar56_63 : ann.rows 56 63 = false := id rfl
theorem ar56_64 : ann.rows 56 64 = true := id rfl
theorem af56 {i : Nat} : ann.frz 56 i = false := id rfl
theorem ad56_14 : ann.dr 56 14 = true := id rfl
theorem al57 : ann.live 57 = live57 := id rfl
theorem ax57 : ann.exits 57 = exits57 := id rfl
theorem ak57 : ann.keep 57 = [0, 2, 3, 9, 10] := id rfl
theorem as57 : ann.sees 57 = false := id rfl
theorem ag57 {d : Nat} : ann.glob 57 d = false := id rfl
theorem ar57 {d : Nat} : ann.rows 57 d = false := id rfl
theorem af57 {i : Nat} : ann.frz 57 i = false := id rfl
theorem al58 : ann.live 58 = live58 := id rfl
theorem ax58 : ann.exits 58 = exits58 := id rfl
theorem ak58 : ann.keep 58 = [] := id rfl
theorem as58 : ann.sees 58 = false := id rfl
theorem ag58 {d : Nat} : ann.glob 58 d = false := id rfl
theorem ar58 {d : Nat} : ann.rows 58 d = false := id rfl
theorem af58 {i : Nat} : ann.frz 58 i = false := id rfl
theorem ad58_4 : ann.dr 58 4 = true := id rfl
theorem ad58_13 : ann.dr 58 13 = true := id rfl
theorem al59 : ann.live 59 = live59 := id rfl
theorem ax59 : ann.exits 59 = exits59 := id rfl
theorem ak59 : ann.keep 59 = [0, 2, 3, 4] := id rfl
theorem as59 : ann.sees 59 = true := id rfl
theorem ag59 {d : Nat} : ann.glob 59 d = false := id rfl
theorem ar59 {d : Nat} : ann.rows 59 d = false := id rfl
theorem af59 {i : Nat} : ann.frz 59 i = false := id rfl
theorem al60 : ann.live 60 = live60 := id rfl
theorem ax60 : ann.exits 60 = exits60 := id rfl
theorem ak60 : ann.keep 60 = [] := id rfl
theorem as60 : ann.sees 60 = true := id rfl
theorem ag60 {d : Nat} : ann.glob 60 d = false := id rfl
theorem ar60 {d : Nat} : ann.rows 60 d = false := id rfl
theorem af60 {i : Nat} : ann.frz 60 i = false := id rfl
theorem ad60_2 : ann.dr 60 2 = true := id rfl
theorem al61 : ann.live 61 = live61 := id rfl
theorem ax61 : ann.exits 61 = exits61 := id rfl
theorem ak61 : ann.keep 61 = [] := id rfl
theorem as61 : ann.sees 61 = true := id rfl
theorem ag61 {d : Nat} : ann.glob 61 d = false := id rfl
theorem ar61 {d : Nat} : ann.rows 61 d = false := id rfl
theorem af61 {i : Nat} : ann.frz 61 i = false := id rfl
theorem ad61_1 : ann.dr 61 1 = true := id rfl
theorem ad61_4 : ann.dr 61 4 = true := id rfl
theorem al62 : ann.live 62 = live62 := id rfl
theorem ax62 : ann.exits 62 = exits62 := id rfl
theorem ak62 : ann.keep 62 = [0, 1, 12, 13] := id rfl
theorem as62 : ann.sees 62 = false := id rfl
theorem ag62 {d : Nat} : ann.glob 62 d = false := id rfl
theorem ar62 {d : Nat} : ann.rows 62 d = false := id rfl
theorem af62 {i : Nat} : ann.frz 62 i = false := id rfl
theorem ad62_6 : ann.dr 62 6 = true := id rfl
theorem al63 : ann.live 63 = live63 := id rfl
theorem ax63 : ann.exits 63 = exits63 := id rfl
theorem ak63 : ann.keep 63 = [] := id rfl
theorem as63 : ann.sees 63 = true := id rfl
theorem ag63_1 : ann.glob 63 1 = false := id rfl
theorem ag63_2 : ann.glob 63 2 = false := id rfl
theorem ag63_3 : ann.glob 63 3 = false := id rfl
theorem ag63_4 : ann.glob 63 4 = false := id rfl
theorem ag63_5 : ann.glob 63 5 = false := id rfl
theorem ag63_11 : ann.glob 63 11 = true := id rfl
theorem ar63 {d : Nat} : ann.rows 63 d = false := id rfl
theorem af63 {i : Nat} : ann.frz 63 i = false := id rfl
theorem al64 : ann.live 64 = live64 := id rfl
theorem ax64 : ann.exits 64 = exits64 := id rfl
theorem ak64 : ann.keep 64 = [0, 1, 5, 6, 7, 8, 9] := id rfl
theorem as64 : ann.sees 64 = true := id rfl
theorem ag64_5 : ann.glob 64 5 = false := id rfl
theorem ag64_7 : ann.glob 64 7 = false := id rfl
theorem ag64_30 : ann.glob 64 30 = false := id rfl
theorem ag64_31 : ann.glob 64 31 = false := id rfl
theorem ag64_39 : ann.glob 64 39 = false := id rfl
theorem ag64_40 : ann.glob 64 40 = false := id rfl
theorem ag64_72 : ann.glob 64 72 = false := id rfl
theorem ag64_73 : ann.glob 64 73 = true := id rfl
theorem ar64 {d : Nat} : ann.rows 64 d = false := id rfl
theorem af64 {i : Nat} : ann.frz 64 i = false := id rfl
theorem ad64_12 : ann.dr 64 12 = true := id rfl
theorem al65 : ann.live 65 = live65 := id rfl
theorem ax65 : ann.exits 65 = exits65 := id rfl
theorem ak65 : ann.keep 65 = [1, 2, 8, 9, 14, 15, 16] := id rfl
theorem as65 : ann.sees 65 = false := id rfl
theorem ag65 {d : Nat} : ann.glob 65 d = false := id rfl
theorem ar65 {d : Nat} : ann.rows 65 d = false := id rfl
theorem af65 {i : Nat} : ann.frz 65 i = false := id rfl
theorem al66 : ann.live 66 = live66 := id rfl
theorem ax66 : ann.exits 66 = exits66 := id rfl
theorem ak66 : ann.keep 66 = [1, 2, 3, 7] := id rfl
theorem as66 : ann.sees 66 = false := id rfl
theorem ag66 {d : Nat} : ann.glob 66 d = false := id rfl
theorem ar66 {d : Nat} : ann.rows 66 d = false := id rfl
theorem af66 {i : Nat} : ann.frz 66 i = false := id rfl
theorem al67 : ann.live 67 = live67 := id rfl
theorem ax67 : ann.exits 67 = exits67 := id rfl
theorem ak67 : ann.keep 67 = [] := id rfl
theorem as67 : ann.sees 67 = true := id rfl
theorem ag67_7 : ann.glob 67 7 = true := id rfl
theorem ar67_7 : ann.rows 67 7 = true := id rfl
theorem af67 {i : Nat} : ann.frz 67 i = false := id rfl
theorem al68 : ann.live 68 = live68 := id rfl
theorem ax68 : ann.exits 68 = exits68 := id rfl
theorem ak68 : ann.keep 68 = [0, 1, 2, 3, 8, 9] := id rfl
theorem as68 : ann.sees 68 = false := id rfl
theorem ag68 {d : Nat} : ann.glob 68 d = false := id rfl
theorem ar68 {d : Nat} : ann.rows 68 d = false := id rfl
theorem af68 {i : Nat} : ann.frz 68 i = false := id rfl
theorem ad68_17 : ann.dr 68 17 = true := id rfl
theorem al69 : ann.live 69 = live69 := id rfl
theorem ax69 : ann.exits 69 = exits69 := id rfl
theorem ak69 : ann.keep 69 = [] := id rfl
theorem as69 : ann.sees 69 = false := id rfl
theorem ag69 {d : Nat} : ann.glob 69 d = false := id rfl
theorem ar69 {d : Nat} : ann.rows 69 d = false := id rfl
theorem af69 {i : Nat} : ann.frz 69 i = false := id rfl
theorem al70 : ann.live 70 = live70 := id rfl
theorem ax70 : ann.exits 70 = exits70 := id rfl
theorem ak70 : ann.keep 70 = [0, 1, 7, 8] := id rfl
theorem as70 : ann.sees 70 = false := id rfl
theorem ag70 {d : Nat} : ann.glob 70 d = false := id rfl
theorem ar70 {d : Nat} : ann.rows 70 d = false := id rfl
theorem af70 {i : Nat} : ann.frz 70 i = false := id rfl
theorem al71 : ann.live 71 = live71 := id rfl
theorem ax71 : ann.exits 71 = exits71 := id rfl
theorem ak71 : ann.keep 71 = [0, 1, 7, 8] := id rfl
theorem as71 : ann.sees 71 = false := id rfl
theorem ag71 {d : Nat} : ann.glob 71 d = false := id rfl
theorem ar71 {d : Nat} : ann.rows 71 d = false := id rfl
theorem af71 {i : Nat} : ann.frz 71 i = false := id rfl
theorem al72 : ann.live 72 = live72 := id rfl
theorem ax72 : ann.exits 72 = exits72 := id rfl
theorem ak72 : ann.keep 72 = [0, 5, 6] := id rfl
theorem as72 : ann.sees 72 = false := id rfl
theorem ag72 {d : Nat} : ann.glob 72 d = false := id rfl
theorem ar72 {d : Nat} : ann.rows 72 d = false := id rfl
theorem af72 {i : Nat} : ann.frz 72 i = false := id rfl
theorem al73 : ann.live 73 = live73 := id rfl
theorem ax73 : ann.exits 73 = exits73 := id rfl
theorem ak73 : ann.keep 73 = [0, 3] := id rfl
theorem as73 : ann.sees 73 = false := id rfl
theorem ag73 {d : Nat} : ann.glob 73 d = false := id rfl
theorem ar73 {d : Nat} : ann.rows 73 d = false := id rfl
theorem af73 {i : Nat} : ann.frz 73 i = false := id rfl
theorem al74 : ann.live 74 = live74 := id rfl
theorem ax74 : ann.exits 74 = exits74 := id rfl
theorem ak74 : ann.keep 74 = [0, 1, 2, 3, 9, 10, 11, 12] := id rfl
theorem as74 : ann.sees 74 = false := id rfl
theorem ag74 {d : Nat} : ann.glob 74 d = false := id rfl
theorem ar74 {d : Nat} : ann.rows 74 d = false := id rfl
theorem af74 {i : Nat} : ann.frz 74 i = false := id rfl
theorem al75 : ann.live 75 = live75 := id rfl
theorem ax75 : ann.exits 75 = exits75 := id rfl
theorem ak75 : ann.keep 75 = [0] := id rfl
theorem as75 : ann.sees 75 = false := id rfl
theorem ag75 {d : Nat} : ann.glob 75 d = false := id rfl
theorem ar75 {d : Nat} : ann.rows 75 d = false := id rfl
theorem af75 {i : Nat} : ann.frz 75 i = false := id rfl
theorem al76 : ann.live 76 = live76 := id rfl
theorem ax76 : ann.exits 76 = exits76 := id rfl
theorem ak76 : ann.keep 76 = [0, 1, 6, 7] := id rfl
theorem as76 : ann.sees 76 = false := id rfl
theorem ag76 {d : Nat} : ann.glob 76 d = false := id rfl
theorem ar76 {d : Nat} : ann.rows 76 d = false := id rfl
theorem af76 {i : Nat} : ann.frz 76 i = false := id rfl
theorem al77 : ann.live 77 = live77 := id rfl
theorem ax77 : ann.exits 77 = exits77 := id rfl
theorem ak77 : ann.keep 77 = [0, 4, 5, 6] := id rfl
theorem as77 : ann.sees 77 = false := id rfl
theorem ag77 {d : Nat} : ann.glob 77 d = false := id rfl
theorem ar77 {d : Nat} : ann.rows 77 d = false := id rfl
theorem af77 {i : Nat} : ann.frz 77 i = false := id rfl
theorem al78 : ann.live 78 = live78 := id rfl
theorem ax78 : ann.exits 78 = exits78 := id rfl
theorem ak78 : ann.keep 78 = [0, 3, 4] := id rfl
theorem as78 : ann.sees 78 = false := id rfl
theorem ag78 {d : Nat} : ann.glob 78 d = false := id rfl
theorem ar78 {d : Nat} : ann.rows 78 d = false := id rfl
theorem af78 {i : Nat} : ann.frz 78 i = false := id rfl
theorem al79 : ann.live 79 = live79 := id rfl
theorem ax79 : ann.exits 79 = exits79 := id rfl
theorem ak79 : ann.keep 79 = [] := id rfl
theorem as79 : ann.sees 79 = true := id rfl
theorem ag79 {d : Nat} : ann.glob 79 d = false := id rfl
theorem ar79 {d : Nat} : ann.rows 79 d = false := id rfl
theorem af79 {i : Nat} : ann.frz 79 i = false := id rfl
theorem al80 : ann.live 80 = live80 := id rfl
theorem ax80 : ann.exits 80 = exits80 := id rfl
theorem ak80 : ann.keep 80 = [] := id rfl
theorem as80 : ann.sees 80 = true := id rfl
theorem ag80 {d : Nat} : ann.glob 80 d = false := id rfl
theorem ar80 {d : Nat} : ann.rows 80 d = false := id rfl
theorem af80 {i : Nat} : ann.frz 80 i = false := id rfl
theorem al81 : ann.live 81 = live81 := id rfl
theorem ax81 : ann.exits 81 = exits81 := id rfl
theorem ak81 : ann.keep 81 = [] := id rfl
theorem as81 : ann.sees 81 = true := id rfl
theorem ag81 {d : Nat} : ann.glob 81 d = false := id rfl
theorem ar81 {d : Nat} : ann.rows 81 d = false := id rfl
theorem af81 {i : Nat} : ann.frz 81 i = false := id rfl
theorem ad81_21 : ann.dr 81 21 = true := id rfl
theorem al82 : ann.live 82 = live82 := id rfl
theorem ax82 : ann.exits 82 = exits82 := id rfl
theorem ak82 : ann.keep 82 = [1, 2, 3, 71, 72, 73] := id rfl
theorem as82 : ann.sees 82 = false := id rfl
theorem ag82 {d : Nat} : ann.glob 82 d = false := id rfl
theorem ar82 {d : Nat} : ann.rows 82 d = false := id rfl
theorem af82 {i : Nat} : ann.frz 82 i = false := id rfl
theorem ad82_3 : ann.dr 82 3 = true := id rfl
theorem ad82_8 : ann.dr 82 8 = true := id rfl
theorem al83 : ann.live 83 = live83 := id rfl
theorem ax83 : ann.exits 83 = exits83 := id rfl
theorem ak83 : ann.keep 83 = [] := id rfl
theorem as83 : ann.sees 83 = false := id rfl
theorem ag83 {d : Nat} : ann.glob 83 d = false := id rfl
theorem ar83 {d : Nat} : ann.rows 83 d = false := id rfl
theorem af83 {i : Nat} : ann.frz 83 i = false := id rfl
theorem al84 : ann.live 84 = live84 := id rfl
theorem ax84 : ann.exits 84 = exits84 := id rfl
theorem ak84 : ann.keep 84 = [0, 1, 2, 6, 7] := id rfl
theorem as84 : ann.sees 84 = false := id rfl
theorem ag84 {d : Nat} : ann.glob 84 d = false := id rfl
theorem ar84 {d : Nat} : ann.rows 84 d = false := id rfl
theorem af84 {i : Nat} : ann.frz 84 i = false := id rfl
theorem ad84_4 : ann.dr 84 4 = true := id rfl
theorem ad84_6 : ann.dr 84 6 = true := id rfl
theorem al85 : ann.live 85 = live85 := id rfl
theorem ax85 : ann.exits 85 = exits85 := id rfl
theorem ak85 : ann.keep 85 = [0, 6, 7, 8, 9, 10] := id rfl
theorem as85 : ann.sees 85 = false := id rfl
theorem ag85 {d : Nat} : ann.glob 85 d = false := id rfl
theorem ar85 {d : Nat} : ann.rows 85 d = false := id rfl
theorem af85 {i : Nat} : ann.frz 85 i = false := id rfl
theorem ad85_10 : ann.dr 85 10 = true := id rfl
theorem al86 : ann.live 86 = live86 := id rfl
theorem ax86 : ann.exits 86 = exits86 := id rfl
theorem ak86 : ann.keep 86 = [0, 1, 6, 7, 8, 9] := id rfl
theorem as86 : ann.sees 86 = false := id rfl
theorem ag86 {d : Nat} : ann.glob 86 d = false := id rfl
theorem ar86 {d : Nat} : ann.rows 86 d = false := id rfl
theorem af86 {i : Nat} : ann.frz 86 i = false := id rfl
theorem ad86_10 : ann.dr 86 10 = true := id rfl
theorem al87 : ann.live 87 = live87 := id rfl
theorem ax87 : ann.exits 87 = exits87 := id rfl
theorem ak87 : ann.keep 87 = [] := id rfl
theorem as87 : ann.sees 87 = false := id rfl
theorem ag87 {d : Nat} : ann.glob 87 d = false := id rfl
theorem ar87 {d : Nat} : ann.rows 87 d = false := id rfl
theorem af87 {i : Nat} : ann.frz 87 i = false := id rfl
theorem al88 : ann.live 88 = live88 := id rfl
theorem ax88 : ann.exits 88 = exits88 := id rfl
theorem ak88 : ann.keep 88 = [0, 6, 7] := id rfl
theorem as88 : ann.sees 88 = false := id rfl
theorem ag88 {d : Nat} : ann.glob 88 d = false := id rfl
theorem ar88 {d : Nat} : ann.rows 88 d = false := id rfl
theorem af88 {i : Nat} : ann.frz 88 i = false := id rfl
theorem ad88_3 : ann.dr 88 3 = true := id rfl
theorem al89 : ann.live 89 = live89 := id rfl
theorem ax89 : ann.exits 89 = exits89 := id rfl
theorem ak89 : ann.keep 89 = [0, 1, 2, 7, 8, 9, 10] := id rfl
theorem as89 : ann.sees 89 = false := id rfl
theorem ag89 {d : Nat} : ann.glob 89 d = false := id rfl
theorem ar89 {d : Nat} : ann.rows 89 d = false := id rfl
theorem af89 {i : Nat} : ann.frz 89 i = false := id rfl
theorem ad89_5 : ann.dr 89 5 = true := id rfl
theorem ad89_11 : ann.dr 89 11 = true := id rfl
theorem ad89_16 : ann.dr 89 16 = true := id rfl
theorem ad89_17 : ann.dr 89 17 = true := id rfl
theorem ad89_22 : ann.dr 89 22 = true := id rfl
theorem ad89_23 : ann.dr 89 23 = true := id rfl
theorem al90 : ann.live 90 = live90 := id rfl
theorem ax90 : ann.exits 90 = exits90 := id rfl
theorem ak90 : ann.keep 90 = [] := id rfl
theorem as90 : ann.sees 90 = false := id rfl
theorem ag90 {d : Nat} : ann.glob 90 d = false := id rfl
theorem ar90 {d : Nat} : ann.rows 90 d = false := id rfl
theorem af90 {i : Nat} : ann.frz 90 i = false := id rfl
theorem al91 : ann.live 91 = live91 := id rfl
theorem ax91 : ann.exits 91 = exits91 := id rfl
theorem ak91 : ann.keep 91 = [0, 1, 9, 10] := id rfl
theorem as91 : ann.sees 91 = false := id rfl
theorem ag91 {d : Nat} : ann.glob 91 d = false := id rfl
theorem ar91 {d : Nat} : ann.rows 91 d = false := id rfl
theorem af91 {i : Nat} : ann.frz 91 i = false := id rfl
theorem ad91_1 : ann.dr 91 1 = true := id rfl
theorem ad91_3 : ann.dr 91 3 = true := id rfl
theorem ad91_5 : ann.dr 91 5 = true := id rfl
theorem ad91_8 : ann.dr 91 8 = true := id rfl
theorem al92 : ann.live 92 = live92 := id rfl
theorem ax92 : ann.exits 92 = exits92 := id rfl
theorem ak92 : ann.keep 92 = [0, 1, 10, 11] := id rfl
theorem as92 : ann.sees 92 = false := id rfl
theorem ag92 {d : Nat} : ann.glob 92 d = false := id rfl
theorem ar92 {d : Nat} : ann.rows 92 d = false := id rfl
theorem af92 {i : Nat} : ann.frz 92 i = false := id rfl
theorem ad92_1 : ann.dr 92 1 = true := id rfl
theorem ad92_3 : ann.dr 92 3 = true := id rfl
theorem ad92_5 : ann.dr 92 5 = true := id rfl
theorem ad92_8 : ann.dr 92 8 = true := id rfl
theorem ad92_10 : ann.dr 92 10 = true := id rfl
theorem ad92_13 : ann.dr 92 13 = true := id rfl
theorem ad92_15 : ann.dr 92 15 = true := id rfl
theorem ad92_18 : ann.dr 92 18 = true := id rfl
theorem ad92_21 : ann.dr 92 21 = true := id rfl
theorem al93 : ann.live 93 = live93 := id rfl
theorem ax93 : ann.exits 93 = exits93 := id rfl
theorem ak93 : ann.keep 93 = [] := id rfl
theorem as93 : ann.sees 93 = false := id rfl
theorem ag93 {d : Nat} : ann.glob 93 d = false := id rfl
theorem ar93 {d : Nat} : ann.rows 93 d = false := id rfl
theorem af93 {i : Nat} : ann.frz 93 i = false := id rfl
theorem al94 : ann.live 94 = live94 := id rfl
theorem ax94 : ann.exits 94 = exits94 := id rfl
theorem ak94 : ann.keep 94 = [] := id rfl
theorem as94 : ann.sees 94 = false := id rfl
theorem ag94 {d : Nat} : ann.glob 94 d = false := id rfl
theorem ar94 {d : Nat} : ann.rows 94 d = false := id rfl
theorem af94 {i : Nat} : ann.frz 94 i = false := id rfl
theorem al95 : ann.live 95 = live95 := id rfl
theorem ax95 : ann.exits 95 = exits95 := id rfl
theorem ak95 : ann.keep 95 = [0, 3, 4, 5] := id rfl
theorem as95 : ann.sees 95 = false := id rfl
theorem ag95 {d : Nat} : ann.glob 95 d = false := id rfl
theorem ar95 {d : Nat} : ann.rows 95 d = false := id rfl
theorem af95 {i : Nat} : ann.frz 95 i = false := id rfl
theorem al96 : ann.live 96 = live96 := id rfl
theorem ax96 : ann.exits 96 = exits96 := id rfl
theorem ak96 : ann.keep 96 = [] := id rfl
theorem as96 : ann.sees 96 = false := id rfl
theorem ag96 {d : Nat} : ann.glob 96 d = false := id rfl
theorem ar96 {d : Nat} : ann.rows 96 d = false := id rfl
theorem af96 {i : Nat} : ann.frz 96 i = false := id rfl
theorem al97 : ann.live 97 = live97 := id rfl
theorem ax97 : ann.exits 97 = exits97 := id rfl
theorem ak97 : ann.keep 97 = [] := id rfl
theorem as97 : ann.sees 97 = false := id rfl
theorem ag97 {d : Nat} : ann.glob 97 d = false := id rfl
theorem ar97 {d : Nat} : ann.rows 97 d = false := id rfl
theorem af97 {i : Nat} : ann.frz 97 i = false := id rfl
theorem al98 : ann.live 98 = live98 := id rfl
theorem ax98 : ann.exits 98 = exits98 := id rfl
theorem ak98 : ann.keep 98 = [] := id rfl
theorem as98 : ann.sees 98 = false := id rfl
theorem ag98 {d : Nat} : ann.glob 98 d = false := id rfl
theorem ar98 {d : Nat} : ann.rows 98 d = false := id rfl
theorem af98 {i : Nat} : ann.frz 98 i = false := id rfl
theorem al99 : ann.live 99 = live99 := id rfl
theorem ax99 : ann.exits 99 = exits99 := id rfl
theorem ak99 : ann.keep 99 = [] := id rfl
theorem as99 : ann.sees 99 = false := id rfl
theorem ag99 {d : Nat} : ann.glob 99 d = false := id rfl
theorem ar99 {d : Nat} : ann.rows 99 d = false := id rfl
theorem af99 {i : Nat} : ann.frz 99 i = false := id rfl
theorem al100 : ann.live 100 = live100 := id rfl
theorem ax100 : ann.exits 100 = exits100 := id rfl
theorem ak100 : ann.keep 100 = [0, 2, 3, 8] := id rfl
theorem as100 : ann.sees 100 = false := id rfl
theorem ag100 {d : Nat} : ann.glob 100 d = false := id rfl
theorem ar100 {d : Nat} : ann.rows 100 d = false := id rfl
theorem af100 {i : Nat} : ann.frz 100 i = false := id rfl
theorem ad100_3 : ann.dr 100 3 = true := id rfl
theorem ad100_5 : ann.dr 100 5 = true := id rfl
theorem ad100_6 : ann.dr 100 6 = true := id rfl
theorem al101 : ann.live 101 = live101 := id rfl
theorem ax101 : ann.exits 101 = exits101 := id rfl
theorem ak101 : ann.keep 101 = [] := id rfl
theorem as101 : ann.sees 101 = false := id rfl
theorem ag101 {d : Nat} : ann.glob 101 d = false := id rfl
theorem ar101 {d : Nat} : ann.rows 101 d = false := id rfl
theorem af101 {i : Nat} : ann.frz 101 i = false := id rfl
theorem al102 : ann.live 102 = live102 := id rfl
theorem ax102 : ann.exits 102 = exits102 := id rfl
theorem ak102 : ann.keep 102 = [] := id rfl
theorem as102 : ann.sees 102 = false := id rfl
theorem ag102 {d : Nat} : ann.glob 102 d = false := id rfl
theorem ar102 {d : Nat} : ann.rows 102 d = false := id rfl
theorem af102 {i : Nat} : ann.frz 102 i = false := id rfl
theorem ad102_1 : ann.dr 102 1 = true := id rfl
theorem ad102_2 : ann.dr 102 2 = true := id rfl
theorem ad102_3 : ann.dr 102 3 = true := id rfl
theorem al103 : ann.live 103 = live103 := id rfl
theorem ax103 : ann.exits 103 = exits103 := id rfl
theorem ak103 : ann.keep 103 = [] := id rfl
theorem as103 : ann.sees 103 = false := id rfl
theorem ag103 {d : Nat} : ann.glob 103 d = false := id rfl
theorem ar103 {d : Nat} : ann.rows 103 d = false := id rfl
theorem af103 {i : Nat} : ann.frz 103 i = false := id rfl
theorem al104 : ann.live 104 = live104 := id rfl
theorem ax104 : ann.exits 104 = exits104 := id rfl
theorem ak104 : ann.keep 104 = [] := id rfl
theorem as104 : ann.sees 104 = false := id rfl
theorem ag104 {d : Nat} : ann.glob 104 d = false := id rfl
theorem ar104 {d : Nat} : ann.rows 104 d = false := id rfl
theorem af104 {i : Nat} : ann.frz 104 i = false := id rfl
theorem al105 : ann.live 105 = live105 := id rfl
theorem ax105 : ann.exits 105 = exits105 := id rfl
theorem ak105 : ann.keep 105 = [] := id rfl
theorem as105 : ann.sees 105 = false := id rfl
theorem ag105 {d : Nat} : ann.glob 105 d = false := id rfl
theorem ar105 {d : Nat} : ann.rows 105 d = false := id rfl
theorem af105 {i : Nat} : ann.frz 105 i = false := id rfl
theorem al106 : ann.live 106 = live106 := id rfl
theorem ax106 : ann.exits 106 = exits106 := id rfl
theorem ak106 : ann.keep 106 = [] := id rfl
theorem as106 : ann.sees 106 = false := id rfl
theorem ag106 {d : Nat} : ann.glob 106 d = false := id rfl
theorem ar106 {d : Nat} : ann.rows 106 d = false := id rfl
theorem af106 {i : Nat} : ann.frz 106 i = false := id rfl
theorem ad106_1 : ann.dr 106 1 = true := id rfl
attribute [go_sem] ao0 ao1 ao2 ao3 ao4 ao5 ao6 ao7 ao8 ao9 ao10 ao11 ao12 ao13 ao14 ao15 ao16 ao17 ao18 ao19 ao20 ao21 ao22 ao23 ao24 ao25 ao26 ao27 ao28 ao29 ao30 ao31 ao32 ao33 ao34 ao35 ao36 ao37 ao38 ao39 ao40 ao41 ao42 ao43 ao44 ao45 ao46 ao47 ao48 ao49 ao50 ao51 ao52 ao53 ao54 ao55 ao56 ao57 ao58 ao59 ao60 ao61 ao62 ao63 ao64 ao65 ao66 ao67 ao68 ao69 ao70 ao71 ao72 ao73 ao74 ao75 ao76 ao77 ao78 ao79 ao80 ao81 ao82 ao83 ao84 ao85 ao86 ao87 ao88 ao89 ao90 ao91 ao92 ao93 ao94 ao95 ao96 ao97 ao98 ao99 ao100 ao101 ao102 ao103 ao104 ao105 ao106 ao107 ao108 ao109 ao110 ao111 ao112 ao113 ao114 ao115 ao116 ao117 ao118 ao119 ao120 ao121 ao122 ag2 ar2 af2 live2 exits2 al2 ax2 ak2 as2 ag3 ar3 af3 ad3_5 ad3_6 ad3_7 live3 exits3 al3 ax3 ak3 as3 ag4 ar4_9 ar4_11 ar4_17 ar4_49 ar4_75 ar4_118 ar4_126 ar4_127 ar4_137 ar4_139 ar4_140 ar4_145 af4_0 af4_1 af4_2 af4_3 af4_4 af4_5 af4_6 af4_7 af4_8 af4_9 af4_10 af4_15 af4_16 af4_17 af4_18 af4_19 af4_20 af4_21 af4_22 af4_23 af4_24 af4_25 af4_26 af4_11 af4_12 af4_13 af4_14 af4_27 af4_28 af4_29 ad4_5 ad4_22 ad4_29 live4 exits4 al4 ax4 ak4 as4 ag5 ar5 af5 ad5_4 live5 exits5 al5 ax5 ak5 as5 ag6 ar6 af6 live6 exits6 al6 ax6 ak6 as6 ag7 ar7 af7 live7 exits7 al7 ax7 ak7 as7 ag8 ar8 af8 live8 exits8 al8 ax8 ak8 as8 ag9 ar9 af9 ad9_9 ad9_11 ad9_12 live9 exits9 al9 ax9 ak9 as9 ag10_9 ar10 af10 ad10_4 live10 exits10 al10 ax10 ak10 as10 ag11 ar11 af11 live11 exits11 al11 ax11 ak11 as11 ag12 ar12 af12 ad12_6 ad12_11 live12 exits12 al12 ax12 ak12 as12 ag13 ar13 af13 live13 exits13 al13 ax13 ak13 as13 ag14 ar14 af14 live14 exits14 al14 ax14 ak14 as14 ag15_1 ag15_2 ag15_3 ag15_4 ag15_5 ag15_6 ag15_8 ar15 af15 live15 exits15 al15 ax15 ak15 as15 ag16_1 ag16_2 ag16_4 ag16_6 ar16 af16 live16 exits16 al16 ax16 ak16 as16 ag17 ar17 af17 live17 exits17 al17 ax17 ak17 as17 ag18 ar18 af18 live18 exits18 al18 ax18 ak18 as18 ag19 ar19 af19 live19 exits19 al19 ax19 ak19 as19 ag20 ar20 af20 live20 exits20 al20 ax20 ak20 as20 ag21 ar21 af21 live21 exits21 al21 ax21 ak21 as21 ag22 ar22 af22 live22 exits22 al22 ax22 ak22 as22 ag23 ar23 af23 live23 exits23 al23 ax23 ak23 as23 ag24 ar24 af24 live24 exits24 al24 ax24 ak24 as24 ag25 ar25 af25 live25 exits25 al25 ax25 ak25 as25 ag26 ar26 af26 ad26_6 live26 exits26 al26 ax26 ak26 as26 ag27 ar27 af27 live27 exits27 al27 ax27 ak27 as27 ag28 ar28 af28 live28 exits28 al28 ax28 ak28 as28 ag29 ar29 af29 live29 exits29 al29 ax29 ak29 as29 ag30 ar30 af30 live30 exits30 al30 ax30 ak30 as30 ag31 ar31 af31 live31 exits31 al31 ax31 ak31 as31 ag32 ar32 af32 live32 exits32 al32 ax32 ak32 as32 ag33 ar33 af33 ad33_1 ad33_5 live33 exits33 al33 ax33 ak33 as33 ag34 ar34 af34 live34 exits34 al34 ax34 ak34 as34 ag35 ar35 af35 live35 exits35 al35 ax35 ak35 as35 ag36 ar36 af36 live36 exits36 al36 ax36 ak36 as36 ag37 ar37 af37 live37 exits37 al37 ax37 ak37 as37 ag38 ar38 af38 ad38_6 live38 exits38 al38 ax38 ak38 as38 ag39 ar39 af39 live39 exits39 al39 ax39 ak39 as39 ag40 ar40 af40 ad40_11 live40 exits40 al40 ax40 ak40 as40 ag41 ar41 af41 live41 exits41 al41 ax41 ak41 as41 ag42 ar42 af42 live42 exits42 al42 ax42 ak42 as42 ag43_5 ag43_6 ag43_28 ag43_29 ag43_78 ag43_79 ag43_96 ag43_97 ag43_114 ag43_115 ag43_137 ag43_138 ar43 af43 ad43_3 ad43_13 ad43_15 ad43_17 ad43_19 live43 exits43 al43 ax43 ak43 as43 ag44 ar44 af44 live44 exits44 al44 ax44 ak44 as44 ag45 ar45 af45 ad45_5 live45 exits45 al45 ax45 ak45 as45 ag46 ar46 af46 live46 exits46 al46 ax46 ak46 as46 ag47 ar47 af47 live47 exits47 al47 ax47 ak47 as47 ag48 ar48 af48 live48 exits48 al48 ax48 ak48 as48 ag49 ar49 af49 ad49_6 ad49_11 live49 exits49 al49 ax49 ak49 as49 ag50 ar50_51 ar50_52 af50 ad50_8 ad50_11 ad50_13 live50 exits50 al50 ax50 ak50 as50 ag51 ar51 af51 live51 exits51 al51 ax51 ak51 as51 ag52 ar52 af52 live52 exits52 al52 ax52 ak52 as52 ag53 ar53 af53 live53 exits53 al53 ax53 ak53 as53 ag54 ar54 af54 live54 exits54 al54 ax54 ak54 as54 ag55 ar55 af55 live55 exits55 al55 ax55 ak55 as55 ag56_3 ag56_47 ag56_63 ag56_64 ar56_3 ar56_47 ar56_63 ar56_64 af56 ad56_14 live56 exits56 al56 ax56 ak56 as56 ag57 ar57 af57 live57 exits57 al57 ax57 ak57 as57 ag58 ar58 af58 ad58_4 ad58_13 live58 exits58 al58 ax58 ak58 as58 ag59 ar59 af59 live59 exits59 al59 ax59 ak59 as59 ag60 ar60 af60 ad60_2 live60 exits60 al60 ax60 ak60 as60 ag61 ar61 af61 ad61_1 ad61_4 live61 exits61 al61 ax61 ak61 as61 ag62 ar62 af62 ad62_6 live62 exits62 al62 ax62 ak62 as62 ag63_1 ag63_2 ag63_3 ag63_4 ag63_5 ag63_11 ar63 af63 live63 exits63 al63 ax63 ak63 as63 ag64_5 ag64_7 ag64_30 ag64_31 ag64_39 ag64_40 ag64_72 ag64_73 ar64 af64 ad64_12 live64 exits64 al64 ax64 ak64 as64 ag65 ar65 af65 live65 exits65 al65 ax65 ak65 as65 ag66 ar66 af66 live66 exits66 al66 ax66 ak66 as66 ag67_7 ar67_7 af67 live67 exits67 al67 ax67 ak67 as67 ag68 ar68 af68 ad68_17 live68 exits68 al68 ax68 ak68 as68 ag69 ar69 af69 live69 exits69 al69 ax69 ak69 as69 ag70 ar70 af70 live70 exits70 al70 ax70 ak70 as70 ag71 ar71 af71 live71 exits71 al71 ax71 ak71 as71 ag72 ar72 af72 live72 exits72 al72 ax72 ak72 as72 ag73 ar73 af73 live73 exits73 al73 ax73 ak73 as73 ag74 ar74 af74 live74 exits74 al74 ax74 ak74 as74 ag75 ar75 af75 live75 exits75 al75 ax75 ak75 as75 ag76 ar76 af76 live76 exits76 al76 ax76 ak76 as76 ag77 ar77 af77 live77 exits77 al77 ax77 ak77 as77 ag78 ar78 af78 live78 exits78 al78 ax78 ak78 as78 ag79 ar79 af79 live79 exits79 al79 ax79 ak79 as79 ag80 ar80 af80 live80 exits80 al80 ax80 ak80 as80 ag81 ar81 af81 ad81_21 live81 exits81 al81 ax81 ak81 as81 ag82 ar82 af82 ad82_3 ad82_8 live82 exits82 al82 ax82 ak82 as82 ag83 ar83 af83 live83 exits83 al83 ax83 ak83 as83 ag84 ar84 af84 ad84_4 ad84_6 live84 exits84 al84 ax84 ak84 as84 ag85 ar85 af85 ad85_10 live85 exits85 al85 ax85 ak85 as85 ag86 ar86 af86 ad86_10 live86 exits86 al86 ax86 ak86 as86 ag87 ar87 af87 live87 exits87 al87 ax87 ak87 as87 ag88 ar88 af88 ad88_3 live88 exits88 al88 ax88 ak88 as88 ag89 ar89 af89 ad89_5 ad89_11 ad89_16 ad89_17 ad89_22 ad89_23 live89 exits89 al89 ax89 ak89 as89 ag90 ar90 af90 live90 exits90 al90 ax90 ak90 as90 ag91 ar91 af91 ad91_1 ad91_3 ad91_5 ad91_8 live91 exits91 al91 ax91 ak91 as91 ag92 ar92 af92 ad92_1 ad92_3 ad92_5 ad92_8 ad92_10 ad92_13 ad92_15 ad92_18 ad92_21 live92 exits92 al92 ax92 ak92 as92 ag93 ar93 af93 live93 exits93 al93 ax93 ak93 as93 ag94 ar94 af94 live94 exits94 al94 ax94 ak94 as94 ag95 ar95 af95 live95 exits95 al95 ax95 ak95 as95 ag96 ar96 af96 live96 exits96 al96 ax96 ak96 as96 ag97 ar97 af97 live97 exits97 al97 ax97 ak97 as97 ag98 ar98 af98 live98 exits98 al98 ax98 ak98 as98 ag99 ar99 af99 live99 exits99 al99 ax99 ak99 as99 ag100 ar100 af100 ad100_3 ad100_5 ad100_6 live100 exits100 al100 ax100 ak100 as100 ag101 ar101 af101 live101 exits101 al101 ax101 ak101 as101 ag102 ar102 af102 ad102_1 ad102_2 ad102_3 live102 exits102 al102 ax102 ak102 as102 ag103 ar103 af103 live103 exits103 al103 ax103 ak103 as103 ag104 ar104 af104 live104 exits104 al104 ax104 ak104 as104 ag105 ar105 af105 live105 exits105 al105 ax105 ak105 as105 ag106 ar106 af106 ad106_1 live106 exits106 al106 ax106 ak106 as106
end Ev
