/- The bus: the calls that BusKnown makes of devices. Conditions: such devices lie there. -/
import Derived.Test.YtalhdcjnaknglaaBusB
namespace Go.Proofs.Ytalhdcjnaknglaa
open Go.RowKit
attribute [local go_sem ↓] Go.wp_at_zero Go.wp_at_succ

theorem bus_new_no (k : Int) (w : World) (h : ¬ SizeOk k) :
    Calls Try.prog 6 #[.int .i64 k] w (Ends (.tuple #[.pointer none, .int .i64 3]) fun w' => w = w') := by
  have H := Lib.hid (new_no k w h)
  clear h
  go_enter Try.func6, Try.ntmps6
  go_wp2_with (fail)
  refine H.out.mono ?_
  rintro e w' ⟨rfl, rfl⟩
  go_wp2
  go_ret2
  exact ⟨rfl, rfl⟩

theorem part_alarm (w : World) : Calls Try.prog 68 #[.int .i64 16384, .int .i64 8] w (Ends (.tuple #[.int .i64 16384, .int .i64 0, .bool true]) fun w' => w = w') := by
  go_enter Try.func68, Try.ntmps68
  go_wp2
  go_ret3
  exact ⟨rfl, rfl⟩

theorem clint_alarm {w : World} {c now bell : Nat} (h : ClintAt w c now 18446744073709551615 bell) :
    Calls Try.prog 67 #[.pointer (some ⟨c, 0, none⟩), .int .i64 16384, .int .i64 8, .int .u64 0] w (Ends (.bool true) fun w' => ClintAt w' c now 0 bell ∧ Mod (fun g => g = c) w w') := by
  have hmf : ∀ (fn : Fn) (first cap : Array Value) (w : World), (Instr.makeFunc fn first cap).run Try.prog w = .ok (.func fn first cap) w := fun _ _ _ _ => rfl
  have c1 : _ = some (Value.int .u64 18446744073709551615) := h.1.cell (i := 1) (by omega)
  have f1 := h.1.frozen 1
  have hlt := h.lt
  have H := Lib.hid h
  clear h
  go_enter Try.func67, Try.ntmps67
  go_wp2_with (go_at_call 68; refine (part_alarm _).mono ?_; rintro e w' ⟨rfl, rfl⟩)
  go_region
  have hm : Mod Nil w ((((w.alloc (.cells #[.int .u64 0] 26)).alloc (.cells #[.int .i64 0] 3)).alloc (.cells #[.int .u64 18446744073709551615] 26)).drew) := ((((Mod.refl Nil w).alloc _).alloc _).alloc _).drew
  have hH := H.out.keep hm (fun x => x)
  have c1 : _ = some (Value.int .u64 18446744073709551615) := hH.1.cell (i := 1) (by omega)
  have f1 := hH.1.frozen 1
  have cv : ((((w.alloc (.cells #[.int .u64 0] 26)).alloc (.cells #[.int .i64 0] 3)).alloc (.cells #[.int .u64 18446744073709551615] 26)).drew).cell? ⟨w.heap.size, 0, none⟩ = some (.int .u64 0) :=
    (((((Mod.refl Nil (w.alloc (.cells #[.int .u64 0] 26))).alloc _).alloc _).drew).cell (p := ⟨w.heap.size, 0, none⟩) (by simp) (fun x => x)).trans (by simp)
  have cs : ((((w.alloc (.cells #[.int .u64 0] 26)).alloc (.cells #[.int .i64 0] 3)).alloc (.cells #[.int .u64 18446744073709551615] 26)).drew).cell? ⟨w.heap.size + 1, 0, none⟩ = some (.int .i64 0) :=
    ((((Mod.refl Nil ((w.alloc (.cells #[.int .u64 0] 26)).alloc (.cells #[.int .i64 0] 3))).alloc _).drew).cell (p := ⟨w.heap.size + 1, 0, none⟩) (by simp) (fun x => x)).trans (by simp)
  have cm : ((((w.alloc (.cells #[.int .u64 0] 26)).alloc (.cells #[.int .i64 0] 3)).alloc (.cells #[.int .u64 18446744073709551615] 26)).drew).cell? ⟨w.heap.size + 1 + 1, 0, none⟩ = some (.int .u64 18446744073709551615) := by
    have gen : ∀ (v : World) (x : Value) (T : TypeId), ((v.alloc (.cells #[x] T)).drew).cell? ⟨v.heap.size, 0, none⟩ = some x := fun v x T => by simp
    have hs : ((w.alloc (.cells #[.int .u64 0] 26)).alloc (.cells #[.int .i64 0] 3)).heap.size = w.heap.size + 1 + 1 := by simp
    rw [← hs]
    exact gen _ _ _
  have HM := Lib.hid hm
  have HH := Lib.hid hH
  clear hm hH
  generalize ((((w.alloc (.cells #[.int .u64 0] 26)).alloc (.cells #[.int .i64 0] 3)).alloc (.cells #[.int .u64 18446744073709551615] 26)).drew) = wz at *
  go_wp2
  go_region
  go_wp2
  have hz : bits BinOp.or IntKind.u64 (bits BinOp.andNot IntKind.u64 18446744073709551615 18446744073709551615) (bits BinOp.and IntKind.u64 0 18446744073709551615) = 0 := by decide +kernel
  rw [hz]
  go_ret
  refine ⟨rfl, ⟨((HH.out.1.set 1 _).congr fun i hi => ?_), HH.out.2.1, by omega, HH.out.2.2.2⟩, ((HM.out.of_nil (fun g => g = c)).trans' (Mod.setCell (F := fun g => g = c) (p := ⟨c, 1, none⟩) (Mod.refl _ wz) (.inl rfl) _)).drew⟩
  unfold clc
  by_cases e : i = 1
  · rw [if_pos e, if_neg (by omega), if_pos e]; rfl
  · rw [if_neg e]
    by_cases e0 : i = 0
    · rw [if_pos e0, if_pos e0]
    · rw [if_neg e0, if_neg e0, if_neg e, if_neg e]

/-- A UART to which nothing came: its status. -/
theorem there_5 (w : World) : Calls Try.prog 84 #[.int .i64 5, .int .i64 1] w (Ends (.bool true) fun w' => w = w') := by
  go_enter Try.func84, Try.ntmps84
  go_wp2
  go_ret
  exact ⟨rfl, rfl⟩
theorem one_no (w : World) : Calls Try.prog 86 #[.bool false] w (Ends (.int .u64 0) fun w' => w = w') := by
  go_enter Try.func86, Try.ntmps86
  go_wp2
  go_ret
  exact ⟨rfl, rfl⟩
theorem waits_0 {w : World} {u p : Nat} (h : Fresh w u p) : Calls Try.prog 87 #[.pointer (some ⟨u, 0, none⟩)] w (Ends (.int .i64 0) fun w' => w = w') := by
  have c17 : _ = some (Value.int .i64 0) := h.1.cell (i := 17) (by omega)
  clear h
  go_enter Try.func87, Try.ntmps87
  go_wp2
  go_ret
  exact ⟨rfl, rfl⟩
theorem uart_status {w : World} {u p : Nat} (h : Fresh w u p) :
    Calls Try.prog 81 #[.pointer (some ⟨u, 0, none⟩), .int .i64 5, .int .i64 1] w (Ends (.tuple #[.int .u64 96, .bool true]) fun w' => w = w') := by
  have HW := Lib.hid (waits_0 h)
  clear h
  go_enter Try.func81, Try.ntmps81
  go_wp2_with (first | (go_at_call 84; refine (there_5 _).mono ?_; rintro e w' ⟨rfl, rfl⟩) | (go_at_call 87; refine HW.out.mono ?_; rintro e w' ⟨rfl, rfl⟩) | (go_at_call 86; refine (one_no _).mono ?_; rintro e w' ⟨rfl, rfl⟩))
  go_ret2
  exact ⟨rfl, rfl⟩

theorem power_off {w : World} {u p : Nat} (h : Fresh w u p) :
    Calls Try.prog 89 #[.pointer (some ⟨p, 0, none⟩), .int .i64 0, .int .i64 4, .int .u64 21845] w (Ends (.bool true) fun w' => w'.rowIs p 74 1 (fun _ => .bool true) ∧ Mod (fun g => g = p) w w') := by
  have c0 : _ = some (Value.bool false) := h.2.cell (i := 0) (by omega)
  have f0 := h.2.frozen 0
  have H := Lib.hid h
  clear h
  go_enter Try.func89, Try.ntmps89
  go_wp2
  go_ret
  exact ⟨rfl, (H.out.2.set 0 _).congr fun i hi => by obtain rfl : i = 0 := by omega
                                                     rfl, Mod.setCell (F := fun g => g = p) (p := ⟨p, 0, none⟩) (Mod.refl _ w) (.inl rfl) _⟩

theorem power_told {w : World} {p : Nat} {b : Bool} (h : w.rowIs p 74 1 (fun _ => .bool b)) :
    Calls Try.prog 11 #[.pointer (some ⟨p, 0, none⟩)] w (Ends (.bool b) fun w' => w = w') := by
  have c0 : _ = some (Value.bool b) := h.cell (i := 0) (by omega)
  clear h
  go_enter Try.func11, Try.ntmps11
  go_wp2
  go_ret
  exact ⟨rfl, rfl⟩

end Go.Proofs.Ytalhdcjnaknglaa
