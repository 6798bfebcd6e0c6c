/- The bus's example: 'known' returns true. No condition. -/
import Derived.Test.YtalhdcjnaknglaaBusF
namespace Go.Proofs.Ytalhdcjnaknglaa
open Go.RowKit
attribute [local go_sem ↓] Go.wp_at_zero Go.wp_at_succ

def bM1 : Mem := ((Mem.zero 4096).store 4092 4 7).2
theorem b_1 : ((Mem.zero 4096).store 4092 4 7).1 = true := by decide +kernel
theorem b_2 : bM1.load 4092 4 = (7, true) := by decide +kernel
theorem b_n : bM1.n = 4096 := by decide +kernel
theorem b_in0 : inReg (Mem.zero 4096).n 2147487740 4 0 = true := by decide +kernel
theorem b_in1 : inReg bM1.n 2147487740 4 0 = true := by decide +kernel
theorem b_f1 : fnd bM1.n 33554432 4 = 1 := by decide +kernel
theorem b_f2 : fnd bM1.n 2147487740 8 = 5 := by decide +kernel

set_option maxHeartbeats 4000000 in
theorem bus_known {W w : World} (hb : Below W.heap.size W w) : Calls Try.prog 12 #[] w (Ends (.bool true) fun w' => Mod Nil w w') := by
  obtain ⟨n, hn⟩ : ∃ n, n = w.heap.size := ⟨_, rfl⟩
  have HN := Lib.hid hn
  have HB := Lib.hid hb
  clear hn hb
  go_enter Try.func12, Try.ntmps12
  go_wp2_with (fail)
  refine (bus_new HB.out 4096 (by omega) (by omega) (by omega)).mono ?_
  rintro e w1 ⟨rfl, h1, m1, _⟩
  rw [← HN.out] at h1
  rw [← HN.out]
  have H1 := Lib.hid h1
  have M1 := Lib.hid m1
  clear h1 m1
  go_wp2_with (fail)
  refine (mem_store H1.out 2147487740 7 4 (by omega) (by omega) (by omega) b_in0).mono ?_
  rintro e w2 ⟨rfl, h2, m2⟩
  have hv : ((Mem.zero 4096).store (((2147487740 - 2147483648 : Nat)) : Int) 4 7).1 = true := b_1
  rw [hv]
  have H2 : Hid (Bus W w2 n bM1 0 18446744073709551615 0 Plc.Pli.zero) := Lib.hid h2
  have M2 := Lib.hid m2
  clear h2 m2 hv
  go_wp2_with (fail)
  refine (bell_store H2.out 1 (by omega) b_f1).mono ?_
  rintro e w3 ⟨rfl, h3, m3⟩
  have H3 : Hid (Bus W w3 n bM1 0 18446744073709551615 1 Plc.Pli.zero) := Lib.hid h3
  have M3 := Lib.hid m3
  clear h3 m3
  go_wp2_with (fail)
  refine (mem_load H3.out 2147487740 4 (by omega) (by omega) b_in1).mono ?_
  rintro e w4 ⟨rfl, h4, m4⟩
  have hv : bM1.load (((2147487740 - 2147483648 : Nat)) : Int) 4 = (7, true) := b_2
  rw [hv]
  have H4 := Lib.hid h4
  have M4 := Lib.hid m4
  clear h4 m4 hv
  go_wp2_with (fail)
  refine (bus_load_none H4.out 2147487740 8 (by omega) (by omega) b_f2).mono ?_
  rintro e w5 ⟨rfl, m5⟩
  have H5 := Lib.hid (H4.out.nil m5)
  have M5 := Lib.hid m5
  clear m5
  go_wp2_with (fail)
  refine (bus_lines H5.out).mono ?_
  rintro e w6 ⟨rfl, m6⟩
  have M6 := Lib.hid m6
  clear m6
  have hl : linesN (1 == 1) (decide (18446744073709551615 ≤ 0)) (Plc.Pli.zero.pending 1) (Plc.Pli.zero.pending 0) = 8 := by decide +kernel
  rw [hl]
  clear hl
  go_wp2
  go_ret
  have hn := HN.out
  refine ⟨rfl, ?_⟩
  have f : ∀ {a b}, Mod Nil a b → Mod (fun g => n ≤ g) a b := fun h => h.of_nil _
  exact (((((f M1.out).trans (M2.out) (by omega)).trans M3.out (by omega)).trans' (f M4.out)).trans' (f M5.out) |>.trans' (f M6.out)).mono fun i hi h => by
    have : n ≤ i := h
    omega

end Go.Proofs.Ytalhdcjnaknglaa
