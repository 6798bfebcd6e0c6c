/- The bus: New; regions; how far a place is behind a region's beginning. Condition of the last two: a bus lies there. -/
import Derived.Test.YtalhdcjnaknglaaBusA
import Derived.Test.YtalhdcjnaknglaaPlicNew
namespace Go.Proofs.Ytalhdcjnaknglaa
open Go.RowKit
attribute [local go_sem ↓] Go.wp_at_zero Go.wp_at_succ

/-- A new UART's cells. -/
def uart0 (i : Nat) : Value := if i < 16 then .int .u8 0 else if i = 18 then .bool false else if i = 19 then .slice none 0 0 else .int .i64 0
/-- A UART to which nothing came; a switch that is on. -/
def Fresh (w : World) (u p : Nat) : Prop := w.rowIs u 108 20 uart0 ∧ w.rowIs p 74 1 (fun _ => .bool false)
theorem Fresh.keep {w w' : World} {u p : Nat} {F : Nat → Prop} (h : Fresh w u p) (hm : Mod F w w') (h1 : ¬ F u) (h2 : ¬ F p) : Fresh w' u p := ⟨hm.row h.1 h1, hm.row h.2 h2⟩

theorem serial_new (w : World) : Calls Try.prog 20 #[] w (Ends (.pointer (some ⟨w.heap.size, 0, none⟩)) fun w' => w'.rowIs w.heap.size 108 20 uart0 ∧ Mod Nil w w' ∧ w'.heap.size = w.heap.size + 1) := by
  go_enter Try.func20, Try.ntmps20
  go_wp2
  go_ret
  refine ⟨rfl, (World.rowIs_alloc w _ _ uart0 ?_), (Mod.refl Nil w).alloc _, by simp⟩
  intro i hi
  have hi : i < 20 := hi
  rcases i with _ | _ | _ | _ | _ | _ | _ | _ | _ | _ | _ | _ | _ | _ | _ | _ | _ | _ | _ | _ | i
  all_goals first | rfl | omega
theorem power_new (w : World) : Calls Try.prog 21 #[] w (Ends (.pointer (some ⟨w.heap.size, 0, none⟩)) fun w' => w'.rowIs w.heap.size 74 1 (fun _ => .bool false) ∧ Mod Nil w w' ∧ w'.heap.size = w.heap.size + 1) := by
  go_enter Try.func21, Try.ntmps21
  go_wp2
  go_ret
  refine ⟨rfl, World.rowIs_alloc w _ _ _ ?_, (Mod.refl Nil w).alloc _, by simp⟩
  intro i hi
  obtain rfl : i = 0 := by have hi : i < 1 := hi; omega
  rfl

/-- The bus's cells: five pointers. -/
def busc (n i : Nat) : Value := .pointer (some ⟨n + 1 + i, 0, none⟩)

/-- A bus of this call whose blocks lie from n on: memory n, n + 1; the clock n + 2; the controller n + 3; the UART n + 4; the switch n + 5; itself n + 6. -/
structure Bus (W w : World) (n : Nat) (M : Mem) (now alarm bell : Nat) (S : Plc.Pli) : Prop where
  ram : Has W w (n + 1) n M
  clint : ClintAt w (n + 2) now alarm bell
  plic : Plc.PlicAt w (n + 3) S
  row : w.rowIs (n + 6) 40 5 (busc n)

section
variable {W w w' : World} {n : Nat} {M M' : Mem} {now alarm bell bell' : Nat} {S : Plc.Pli} {F : Nat → Prop}
theorem Bus.lt (h : Bus W w n M now alarm bell S) : n + 6 < w.heap.size := h.row.lt
theorem Bus.old (h : Bus W w n M now alarm bell S) : W.heap.size ≤ n := h.ram.old.2
theorem Bus.below (h : Bus W w n M now alarm bell S) : Below W.heap.size W w := h.ram.below
theorem Bus.nil (h : Bus W w n M now alarm bell S) (hm : Mod Nil w w') : Bus W w' n M now alarm bell S :=
  ⟨h.ram.nil hm, h.clint.keep hm (fun x => x), h.plic.keep hm (fun x => x), hm.row h.row (fun x => x)⟩
theorem Bus.inRam (h : Bus W w n M now alarm bell S) (h1 : Has W w' (n + 1) n M') (hm : Mod (fun g => g = n + 1 ∨ g = n) w w') : Bus W w' n M' now alarm bell S :=
  ⟨h1, h.clint.keep hm (by omega), h.plic.keep hm (by omega), hm.row h.row (by omega)⟩
theorem Bus.inClint (h : Bus W w n M now alarm bell S) {now' alarm' : Nat} (h1 : ClintAt w' (n + 2) now' alarm' bell') (hm : Mod (fun g => g = n + 2) w w') : Bus W w' n M now' alarm' bell' S :=
  ⟨h.ram.keep hm (fun k e => by have := h.old; omega) (by omega) (by omega), h1, h.plic.keep hm (by omega), hm.row h.row (by omega)⟩
theorem Bus.cell (h : Bus W w n M now alarm bell S) (i : Nat) (hi : i < 5) : w.cell? ⟨n + 6, i, none⟩ = some (busc n i) := h.row.cell hi
end

theorem bus_new {W w : World} (hb : Below W.heap.size W w) (k : Nat) (h1 : 4096 ≤ k) (h2 : k ≤ 65536) (h3 : k % 4096 = 0) :
    Calls Try.prog 6 #[.int .i64 (k : Int)] w (Ends (.tuple #[.pointer (some ⟨w.heap.size + 6, 0, none⟩), .int .i64 0]) fun w' => Bus W w' w.heap.size (Mem.zero k) 0 18446744073709551615 0 Plc.Pli.zero ∧ Mod Nil w w' ∧ Fresh w' (w.heap.size + 4) (w.heap.size + 5)) := by
  obtain ⟨n, hn⟩ : ∃ n, n = w.heap.size := ⟨_, rfl⟩
  rw [← hn]
  have HN := Lib.hid hn
  have HB := Lib.hid hb
  clear hn hb
  go_enter Try.func6, Try.ntmps6
  go_wp2_with (fail)
  refine (new_yes k w h1 h2 h3).mono ?_
  rintro e w1 ⟨rfl, a1, m1, s1⟩
  rw [← HN.out] at a1 s1
  rw [← HN.out]
  have A1 := Lib.hid a1
  have M1 := Lib.hid m1
  have S1 := Lib.hid s1
  clear a1 m1 s1
  go_wp2_with (fail)
  refine (clint_new w1).mono ?_
  rintro e w2 ⟨rfl, a2, m2, s2⟩
  rw [S1.out] at a2 s2
  rw [S1.out]
  have A2 := Lib.hid a2
  have M2 := Lib.hid m2
  have S2 := Lib.hid s2
  clear a2 m2 s2
  go_wp2_with (fail)
  refine (Plc.new_plic w2).mono ?_
  rintro e w3 ⟨rfl, a3, m3, s3⟩
  rw [S2.out] at a3 s3
  rw [S2.out]
  have A3 := Lib.hid a3
  have M3 := Lib.hid m3
  have S3 := Lib.hid s3
  clear a3 m3 s3
  go_wp2_with (fail)
  refine (serial_new w3).mono ?_
  rintro e w4 ⟨rfl, a4, m4, s4⟩
  rw [S3.out] at s4 a4
  rw [S3.out]
  have M4 := Lib.hid m4
  have S4 := Lib.hid s4
  have A4 := Lib.hid a4
  clear m4 s4 a4
  go_wp2_with (fail)
  refine (power_new w4).mono ?_
  rintro e w5 ⟨rfl, a5, m5, s5⟩
  rw [S4.out] at s5 a5
  rw [S4.out]
  have M5 := Lib.hid m5
  have S5 := Lib.hid s5
  have A5 := Lib.hid a5
  clear m5 s5 a5
  go_wp2_with (fail)
  go_ret2
  have hs : w5.heap.size = n + 6 := S5.out
  have hw := HN.out
  have hW := HB.out.size
  have hm5 : Mod Nil w5 (w5.alloc (.cells #[.pointer (some ⟨n + 1, 0, none⟩), .pointer (some ⟨n + 2, 0, none⟩), .pointer (some ⟨n + 3, 0, none⟩), .pointer (some ⟨n + 4, 0, none⟩), .pointer (some ⟨n + 5, 0, none⟩)] 40)) := (Mod.refl Nil w5).alloc _
  have hm4 := M5.out.trans' hm5
  have hm3 := M4.out.trans' hm4
  have hm2 := M3.out.trans' hm3
  have hm1 := M2.out.trans' hm2
  have hm0 := M1.out.trans' hm1
  have hrow := World.rowIs_alloc w5 #[.pointer (some ⟨n + 1, 0, none⟩), .pointer (some ⟨n + 2, 0, none⟩), .pointer (some ⟨n + 3, 0, none⟩), .pointer (some ⟨n + 4, 0, none⟩), .pointer (some ⟨n + 5, 0, none⟩)] 40 (busc n) fun i hi => by
    have hi : i < 5 := hi
    rcases i with _ | _ | _ | _ | _ | i
    · rfl
    · rfl
    · rfl
    · rfl
    · rfl
    · omega
  rw [hs] at hrow
  rw [hs]
  exact ⟨rfl, ⟨⟨A1.out.keep hm1 (fun x => x) (fun x => x), HB.out.trans (hm0.toBelow hW fun _ x => x.elim), by omega⟩, A2.out.keep hm2 (fun x => x), A3.out.keep hm3 (fun x => x), hrow⟩, hm0, hm4.row A4.out (fun x => x), hm5.row A5.out (fun x => x)⟩

/-- The cells of the five regions. -/
def regc (n k : Nat) : List Value :=
  [.iface 34 (.pointer (some ⟨n + 1, 0, none⟩)), .int .u64 2147483648, .int .u64 (k : Int), .iface 35 (.pointer (some ⟨n + 2, 0, none⟩)), .int .u64 33554432, .int .u64 65536,
   .iface 36 (.pointer (some ⟨n + 3, 0, none⟩)), .int .u64 201326592, .int .u64 4194304, .iface 37 (.pointer (some ⟨n + 4, 0, none⟩)), .int .u64 268435456, .int .u64 256,
   .iface 38 (.pointer (some ⟨n + 5, 0, none⟩)), .int .u64 1048576, .int .u64 4096]

set_option maxHeartbeats 4000000 in
theorem regions_at {W w : World} {n : Nat} {M : Mem} {now alarm bell : Nat} {S : Plc.Pli} (h : Bus W w n M now alarm bell S) :
    Calls Try.prog 26 #[.pointer (some ⟨n + 6, 0, none⟩)] w (Ends (.slice (some ⟨w.heap.size, 0, none⟩) 5 5) fun w' => ∃ q, w' = (w.alloc (.cells (regc n M.n).toArray 69)).drewN q) := by
  have c0 : _ = some (Value.pointer (some ⟨n + 1, 0, none⟩)) := h.cell 0 (by omega)
  have c1 : _ = some (Value.pointer (some ⟨n + 2, 0, none⟩)) := h.cell 1 (by omega)
  have c2 : _ = some (Value.pointer (some ⟨n + 3, 0, none⟩)) := h.cell 2 (by omega)
  have c3 : _ = some (Value.pointer (some ⟨n + 4, 0, none⟩)) := h.cell 3 (by omega)
  have c4 : _ = some (Value.pointer (some ⟨n + 5, 0, none⟩)) := h.cell 4 (by omega)
  have hM := h.ram.ram.2.1
  have HL := Lib.hid (len_at (h.nil (Mod.refl Nil w).drew).ram.ram)
  have hwr : IntKind.u64.wrap (M.n : Int) = (M.n : Int) := by rw [IntKind.wrap_u64]; exact Int.emod_eq_of_lt (Int.natCast_nonneg _) (by omega)
  clear h
  go_enter Try.func26, Try.ntmps26
  go_wp2_with (fail)
  go_region_held3 (fun w' => w'.cell? ⟨n + 6, 0, none⟩ = some (.pointer (some ⟨n + 1, 0, none⟩)) ∧ w'.cell? ⟨n + 6, 1, none⟩ = some (.pointer (some ⟨n + 2, 0, none⟩)) ∧ w'.cell? ⟨n + 6, 2, none⟩ = some (.pointer (some ⟨n + 3, 0, none⟩)) ∧ w'.cell? ⟨n + 6, 3, none⟩ = some (.pointer (some ⟨n + 4, 0, none⟩)) ∧ w'.cell? ⟨n + 6, 4, none⟩ = some (.pointer (some ⟨n + 5, 0, none⟩))) (first | exact ⟨c0, c1, c2, c3, c4⟩ | go_keep) (first | (go_at_call 39; refine HL.out.mono ?_; rintro e w' ⟨rfl, rfl⟩))
  go_wp2
  go_ret
  exact ⟨rfl, 1, rfl⟩

end Go.Proofs.Ytalhdcjnaknglaa
