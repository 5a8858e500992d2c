/- slices.Sort, slices.Compact at this program: what the evaluator is told of them is so. -/
import Derived.Test.YtecflllnnbiheaaEvQ
import Derived.Test.YtecflllnnbiheaaShelf
import Derived.Test.YtecflllnnbiheaaT00
import Derived.Test.YtecflllnnbiheaaEv18
import Derived.Sort.EveryDepth
set_option maxHeartbeats 4000000
set_option linter.unusedVariables false
set_option linter.unusedSimpArgs false
set_option maxRecDepth 100000
namespace Ev
open Go Go.Proofs Go.Sort
def ann0 : Ann := { ann with orc := fun _ => none }
theorem prog_ok0 : progOk Try.prog ann0 = true := by kernel_rfl
theorem sort_c (blk off cap : Nat) (zs : List (List UInt8)) (w : World) (hH : Holds encStr w blk off zs.toArray) (hblk : blk < w.heap.size) (hsz : zs.length < 4611686018427387904) :
    Calls Try.prog 48 #[.slice (some ⟨blk, off, none⟩) zs.length cap] w fun e w' =>
      e = .returned (.tuple #[]) ∧ ∃ n os, w' = grow (putRow encStr (Go.Sort.ahead w n) blk off (zs.mergeSort fun x y => decide (x ≤ y)).toArray) os :=
  calls_of_every_depth fun D => AnyS.slices_Sort_string_alone Try.laysSort D blk off cap zs w hH hblk hsz
theorem compact_c (blk off cap : Nat) (zs : List (List UInt8)) (w : World) (hH : Holds encStr w blk off zs.toArray) (hsz : zs.length ≤ 9223372036854775807) (hcap : zs.length ≤ cap) :
    Calls Try.prog 49 #[.slice (some ⟨blk, off, none⟩) zs.length cap] w fun e w' => e = .returned (.slice (some ⟨blk, off, none⟩) (Lib.compact zs).length cap) ∧ ∃ q, w' = putRow encStr (Go.Sort.ahead w q) blk off (Lib.compact zs ++ List.replicate (zs.length - (Lib.compact zs).length) []).toArray :=
  calls_of_every_depth fun D => AnyS.slices_Compact_string_in Try.laysCompact D blk off cap zs w hH hsz hcap
theorem compact_0 (a : Option Addr) (cap : Nat) (w : World) : Calls Try.prog 49 #[.slice a 0 cap] w fun e w' => e = .returned (.slice a 0 cap) ∧ w' = w :=
  calls_of_every_depth fun D => AnyS.slices_Compact_string_empty_in Try.laysCompact D a cap w
theorem sort_0 : ∃ G', ev Try.prog ann0 48 [.sl [] .no] [] = some (.val (.tup []), G') := ⟨[], ev_of_fuel (n := 5) (d := 8) (by kernel_rfl)⟩
theorem sort_nil (t : Tok) (L G : Hp) (g : Gh) (w : World) (V : Array Value) (s : Sim g w L G) (hr : RepsA g w [.sl [] t] V) : CallUpon Try.prog 48 V w (CallPost (.val (.tup [])) L G g w) := by
  obtain ⟨G', h⟩ := sort_0
  have hc : callA (cfg Try.prog ann0) 48 [.sl [] t] L G = some (.val (.tup []), L, G) := call_pure rfl rfl rfl rfl h
  exact callA_sound (noNum_of prog_ok0) (ev_ok mixed (noNum_of prog_ok0) (fitsP_of prog_ok0) (orcOk_none fun _ => rfl)) (orcOk_none fun _ => rfl) hc s hr
theorem orc_ok : OrcOk Try.prog ann where
  call := fun f F hF args L G v L' G' h g w V s hr => by
    have hF' : orcT f = some F := hF
    unfold orcT at hF'
    split at hF'
    · cases hF'
      exact sort_sound (noNum_of prog_ok) ⟨_, Try.func48, rfl⟩ sort_c sort_nil h s hr
    · cases hF'
      exact compact_sound (noNum_of prog_ok) ⟨_, Try.func49, rfl⟩ compact_c compact_0 h s hr
    · cases hF'
  dead := fun f F hF args L G v L' G' h k hk => by
    have hF' : orcT f = some F := hF
    unfold orcT at hF'
    split at hF'
    · cases hF'; exact sortA_dead h hk
    · cases hF'; exact compactA_dead h hk
    · cases hF'
end Ev
