/- The program's memory over one abstract state: New: what it answers and leaves. No condition. -/
import Derived.Test.YtalhdcjnaknglaaRamE
import Derived.OwnWalk
namespace Go.Proofs.Ytalhdcjnaknglaa
open Go.RowKit

theorem raminfo_u8 : (Try.prog.info? 5).map (fun i => (i.zero, i.size, i.bytes)) = some (some (.int .u8 0), 1, 1) := by kernel_rfl
theorem raminfo_int : (Try.prog.info? 3).map (fun i => (i.zero, i.size, i.bytes)) = some (some (.int .i64 0), 1, 8) := by kernel_rfl

/-- A memory's zero value. -/
def ramZero : Array Value := (Value.slice none 0 0 :: List.replicate 64 (.int .u64 0)).toArray
theorem ram_cells : Try.zeroCells89 = ramZero := by kernel_rfl
theorem ramZero_size : ramZero.size = 65 := by decide

theorem ram_born (w : World) (t : TypeId) (rb n : Nat) : (w.alloc (.cells (ramZero.setIfInBounds 0 (.slice (some ⟨rb, 0, none⟩) n n)) t)).rowIs w.heap.size t 65 (rfc rb n fun _ => 0) := by
  refine ⟨_, heap_alloc_new w _, by rw [Array.size_setIfInBounds]; exact ramZero_size, fun i hi => ?_⟩
  rw [Array.getElem?_setIfInBounds]
  by_cases e : 0 = i
  · subst e
    rfl
  · rw [if_neg e]
    unfold rfc
    rw [if_neg (Ne.symm e)]
    obtain ⟨j, rfl⟩ : ∃ j, i = j + 1 := ⟨i - 1, by omega⟩
    show ((Value.slice none 0 0 :: List.replicate 64 (.int .u64 0)).toArray)[j + 1]? = _
    rw [List.getElem?_toArray, List.getElem?_cons_succ, List.getElem?_replicate, if_pos (by omega)]
    rfl

set_option maxRecDepth 100000 in
theorem new_yes (n : Nat) (w : World) (h1 : 4096 ≤ n) (h2 : n ≤ 65536) (h3 : n % 4096 = 0) :
    Calls Try.prog 17 #[.int .i64 (n : Int)] w (Ends (.tuple #[.pointer (some ⟨w.heap.size + 1, 0, none⟩), .int .i64 0]) fun w' => RamAt w' (w.heap.size + 1) w.heap.size (Mem.zero n) ∧ Mod Nil w w' ∧ w'.heap.size = w.heap.size + 2) := by
  have hmk := run_make_row' (P := Try.prog) 86 5 (.int .u8 0) 1 Try.underlying86 raminfo_u8 rfl .i64 .i64 n (by omega) (by omega)
  go_enter Try.func17, Try.ntmps17
  go_wp2
  · exfalso
    rename_i h
    rcases h with (h | h) | h
    · omega
    · omega
    · simp at h; omega
  go_ret2
  rw [ram_cells]
  have hb := ram_born (w.alloc (.cells (madeCells #[.int .u8 0] n) 5)) 89 w.heap.size n
  rw [World.size_alloc] at hb
  exact ⟨rfl, ⟨h1, h2, h3, fun _ => by show (0 : Nat) < 256; decide, by omega, (World.rowIs_made w (.int .u8 0) n _).alloc _, fun _ => 0, hb, fun j => ⟨by show (0 : Nat) < _; decide, fun k _ => by simp [Mem.zero]⟩⟩, ((Mod.refl Nil w).alloc _).alloc _, by simp⟩

theorem new_no (n : Int) (w : World) (h : ¬ SizeOk n) :
    Calls Try.prog 17 #[.int .i64 n] w (Ends (.tuple #[.pointer none, .int .i64 3]) fun w' => w = w') := by
  unfold SizeOk at h
  by_cases h1 : n < 4096
  · go_enter Try.func17, Try.ntmps17
    go_wp2
    go_ret2
    exact ⟨rfl, rfl⟩
  · by_cases h2 : 65536 < n
    · go_enter Try.func17, Try.ntmps17
      go_wp2
      go_ret2
      exact ⟨rfl, rfl⟩
    · have hz : ((n.tmod 4096 == 0) : Bool) = false := by rw [Int.tmod_eq_emod_of_nonneg (by omega)]; simp; omega
      have hz2 : ((n % 4096 == 0) : Bool) = false := by simp; omega
      go_enter Try.func17, Try.ntmps17
      go_wp2
      go_ret2
      exact ⟨rfl, rfl⟩

end Go.Proofs.Ytalhdcjnaknglaa
