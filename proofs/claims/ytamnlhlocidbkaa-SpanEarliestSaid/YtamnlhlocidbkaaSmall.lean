/-
  The ends of a list that small has made.
-/
import Derived.Test.YtamnlhlocidbkaaLaw0
import Derived.Test.YtamnlhlocidbkaaPlainG
namespace Go.Proofs.Ytamnlhlocidbkaa
open Sp (Sn Mem Val norm uni inter subt)
theorem sm_Sml (l : List Sn) (k : Nat) : Sml (sm l k) := fun s hs => by
  obtain ⟨j, _, rfl⟩ := List.mem_map.1 hs
  have b1 := tmod_bd (el l j).1 40 (by omega)
  have b2 := tmod_bd (el l j).1 3 (by omega)
  have b3 := tmod_bd (el l j).2 40 (by omega)
  unfold smV
  simp only
  omega
end Go.Proofs.Ytamnlhlocidbkaa
