/- The program's interrupt controller, new. No condition. -/
import Derived.Test.YtalhdcjnaknglaaPlicF
namespace Go.Proofs.Ytalhdcjnaknglaa.Plc
open Go.RowKit

theorem born_row (w : World) (t : TypeId) (n : Nat) (f : Nat → Value) : (w.alloc (.cells ((List.range n).map f).toArray t)).rowIs w.heap.size t n f := by
  have h := World.rowIs_alloc w ((List.range n).map f).toArray t f fun i hi => by
    have hi : i < n := by simpa using hi
    simp [List.getElem?_range hi]
  simpa using h

theorem new_plic (w : World) : Calls Try.prog 19 #[] w (Ends (.pointer (some ⟨w.heap.size, 0, none⟩)) fun w' => PlicAt w' w.heap.size Pli.zero ∧ Mod Nil w w' ∧ w'.heap.size = w.heap.size + 1) := by
  go_enter Try.func19, Try.ntmps19
  go_wp2
  go_ret
  refine ⟨rfl, ⟨Pli.Ok.zero, ?_⟩, (Mod.refl Nil w).alloc _, by simp⟩
  exact born_row w 103 38 (plc Pli.zero)

end Go.Proofs.Ytalhdcjnaknglaa.Plc
