/- The clock: New, Soft, Timer, and a store that rings the bell. Condition: a clock lies there. -/
import Derived.Test.YtalhdcjnaknglaaRamGN
import Derived.Laws.LoneSync
import Derived.Deep.RegionHeld3
import Derived.Deep.DrawnRows
namespace Go.Proofs.Ytalhdcjnaknglaa
open Go.RowKit
attribute [local go_sem ↓] Go.wp_at_zero Go.wp_at_succ

/-- The clock's cells: the time, when it interrupts, the bell. -/
def clc (now alarm bell : Nat) (i : Nat) : Value := if i = 0 then .int .u64 (now : Int) else if i = 1 then .int .u64 (alarm : Int) else .int .u64 (bell : Int)
/-- A clock at block c. -/
def ClintAt (w : World) (c now alarm bell : Nat) : Prop := w.rowIs c 96 3 (clc now alarm bell) ∧ now < 18446744073709551616 ∧ alarm < 18446744073709551616 ∧ bell < 18446744073709551616
theorem ClintAt.keep {w w' : World} {c now alarm bell : Nat} {F : Nat → Prop} (h : ClintAt w c now alarm bell) (hm : Mod F w w') (h1 : ¬ F c) : ClintAt w' c now alarm bell := ⟨hm.row h.1 h1, h.2⟩
theorem ClintAt.lt {w : World} {c now alarm bell : Nat} (h : ClintAt w c now alarm bell) : c < w.heap.size := h.1.lt

theorem clint_new (w : World) : Calls Try.prog 18 #[] w (Ends (.pointer (some ⟨w.heap.size, 0, none⟩)) fun w' => ClintAt w' w.heap.size 0 18446744073709551615 0 ∧ Mod Nil w w' ∧ w'.heap.size = w.heap.size + 1) := by
  go_enter Try.func18, Try.ntmps18
  go_wp2
  go_ret
  refine ⟨rfl, ⟨World.rowIs_alloc w #[.int .u64 0, .int .u64 18446744073709551615, .int .u64 0] _ (clc 0 18446744073709551615 0) fun i hi => ?_, by decide, by decide, by decide⟩, (Mod.refl Nil w).alloc _, by simp⟩
  have hi : i < 3 := hi
  rcases i with _ | _ | _ | i
  · rfl
  · rfl
  · rfl
  · omega

theorem aload64 (b o : Nat) (x : Int) (w : World) (hc : w.cell? ⟨b, o, none⟩ = some (.int .u64 x)) :
    Calls Try.prog 45 #[.pointer (some ⟨b, o, none⟩)] w (Ends (.int .u64 x) fun w' => w = w') := by
  have hl := run_call_load (P := Try.prog) Try.func47 (by kernel_rfl) (by kernel_rfl) (by kernel_rfl) .u64 (by kernel_rfl) hc
  go_enter Try.func45, Try.ntmps45
  go_wp2
  go_ret
  exact ⟨rfl, rfl⟩
theorem clint_time {w : World} {c now alarm bell : Nat} (h : ClintAt w c now alarm bell) : Calls Try.prog 36 #[.pointer (some ⟨c, 0, none⟩)] w (Ends (.int .u64 (now : Int)) fun w' => w = w') := by
  have HL := Lib.hid (aload64 c 0 _ w (h.1.cell (i := 0) (by omega)))
  clear h
  go_enter Try.func36, Try.ntmps36
  go_wp2_with (go_at_call 45; refine HL.out.mono ?_; rintro e w' ⟨rfl, rfl⟩)
  go_ret
  exact ⟨rfl, rfl⟩
theorem clint_soft {w : World} {c now alarm bell : Nat} (h : ClintAt w c now alarm bell) : Calls Try.prog 23 #[.pointer (some ⟨c, 0, none⟩)] w (Ends (.bool (bell == 1)) fun w' => w = w') := by
  have c2 := h.1.cell (i := 2) (by omega)
  simp only [clc] at c2
  clear h
  go_enter Try.func23, Try.ntmps23
  go_wp2
  go_ret
  exact ⟨retb_of (by rw [Bool.eq_iff_iff]; simp only [beq_iff_eq]; omega), rfl⟩
theorem clint_timer {w : World} {c now alarm bell : Nat} (h : ClintAt w c now alarm bell) : Calls Try.prog 24 #[.pointer (some ⟨c, 0, none⟩)] w (Ends (.bool (decide (alarm ≤ now))) fun w' => ∃ n, w' = w.drewN n) := by
  have c1 := h.1.cell (i := 1) (by omega)
  simp only [clc] at c1
  have HL := Lib.hid fun n => quiet_same (w := w) (n := n) (clint_time (h.keep ((Mod.refl Nil w).drewN n) (fun x => x)))
  clear h
  go_enter Try.func24, Try.ntmps24
  go_wp2
  go_quiet ((go_at_call 36; exact HL.out _))
  go_wp2
  go_ret
  exact ⟨retb_of (by simp), nq, rfl⟩

theorem part_bell (w : World) : Calls Try.prog 68 #[.int .i64 0, .int .i64 4] w (Ends (.tuple #[.int .i64 0, .int .i64 0, .bool true]) fun w' => w = w') := by
  go_enter Try.func68, Try.ntmps68
  go_wp2
  go_ret3
  exact ⟨rfl, rfl⟩

theorem clint_bell {w : World} {c now alarm bell : Nat} (h : ClintAt w c now alarm bell) (v : Nat) (hv : v < 18446744073709551616) :
    Calls Try.prog 67 #[.pointer (some ⟨c, 0, none⟩), .int .i64 0, .int .i64 4, .int .u64 (v : Int)] w (Ends (.bool true) fun w' => ClintAt w' c now alarm (v % 2) ∧ Mod (fun g => g = c) w w') := by
  have hmf : ∀ (fn : Fn) (first cap : Array Value) (w : World), (Instr.makeFunc fn first cap).run Try.prog w = .ok (.func fn first cap) w := fun _ _ _ _ => rfl
  have c2 := h.1.cell (i := 2) (by omega)
  have f2 := h.1.frozen 2
  have hlt := h.lt
  have H := Lib.hid h
  clear h
  go_enter Try.func67, Try.ntmps67
  go_wp2_with (go_at_call 68; refine (part_bell _).mono ?_; rintro e w' ⟨rfl, rfl⟩)
  go_region
  have hv1 : bits BinOp.and IntKind.u64 (v : Int) 1 = ((v % 2 : Nat) : Int) := by
    rw [show (1 : Int) = ((1 : Nat) : Int) from rfl, u64_and_nat _ _ hv (by decide), Nat.and_one_is_mod]
  have hm : Mod Nil w ((((w.alloc (.cells #[.int .u64 (v : Int)] 26)).alloc (.cells #[.int .i64 0] 3)).alloc (.cells #[.int .u64 4294967295] 26)).drew) := ((((Mod.refl Nil w).alloc _).alloc _).alloc _).drew
  have hH := H.out.keep hm (fun x => x)
  have c2 := hH.1.cell (i := 2) (by omega)
  have f2 := hH.1.frozen 2
  have cv : ((((w.alloc (.cells #[.int .u64 (v : Int)] 26)).alloc (.cells #[.int .i64 0] 3)).alloc (.cells #[.int .u64 4294967295] 26)).drew).cell? ⟨w.heap.size, 0, none⟩ = some (.int .u64 (v : Int)) :=
    (((((Mod.refl Nil (w.alloc (.cells #[.int .u64 (v : Int)] 26))).alloc _).alloc _).drew).cell (p := ⟨w.heap.size, 0, none⟩) (by simp) (fun x => x)).trans (by simp)
  have HM := Lib.hid hm
  have HH := Lib.hid hH
  clear hm hH
  generalize (((w.alloc (.cells #[.int .u64 (v : Int)] 26)).alloc (.cells #[.int .i64 0] 3)).alloc (.cells #[.int .u64 4294967295] 26)).drew = wz at *
  go_wp2
  go_ret
  refine ⟨rfl, ⟨(HH.out.1.set 2 _).congr fun i hi => ?_, HH.out.2.1, HH.out.2.2.1, by omega⟩, (HM.out.of_nil (fun g => g = c)).trans' (Mod.setCell (F := fun g => g = c) (p := ⟨c, 2, none⟩) (Mod.refl _ wz) (.inl rfl) _)⟩
  unfold clc
  by_cases e : i = 2
  · rw [if_pos e, if_neg (by omega), if_neg (by omega)]
    exact congrArg (Value.int .u64) (by omega)
  · rw [if_neg e]
    by_cases e0 : i = 0
    · rw [if_pos e0, if_pos e0]
    · rw [if_neg e0, if_neg e0, if_pos (by omega), if_pos (by omega)]

end Go.Proofs.Ytalhdcjnaknglaa
