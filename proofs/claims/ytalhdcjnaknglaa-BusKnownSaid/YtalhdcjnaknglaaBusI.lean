/- BusKnown returns true. No condition. -/
import Derived.Test.YtalhdcjnaknglaaBusG
import Derived.Test.YtalhdcjnaknglaaBusH
namespace Go.Proofs.Ytalhdcjnaknglaa
open Go.RowKit
attribute [local go_sem ↓] Go.wp_at_zero Go.wp_at_succ

section
variable {W w : World} {n : Nat} {M : Mem} {now alarm bell : Nat} {S : Plc.Pli}
theorem alarm_store (h : Bus W w n M now 18446744073709551615 bell S) (hf : fnd M.n 33570816 8 = 1) :
    Calls Try.prog 8 #[.pointer (some ⟨n + 6, 0, none⟩), .int .u64 33570816, .int .i64 8, .int .u64 0] w (Ends (.bool true) fun w' => Bus W w' n M now 0 bell S ∧ Mod (fun g => g = n + 2) w w') :=
  (bus_store_clint h 33570816 0 8 (by omega) (by omega) hf (R := fun y w' => y = true ∧ Bus W w' n M now 0 bell S ∧ Mod (fun g => g = n + 2) w w')
    (fun w' hm => (clint_alarm (h.nil hm).clint).mono fun e w'' he => by
      obtain ⟨rfl, h1, m1⟩ := he
      exact ⟨_, rfl, rfl, (h.nil hm).inClint h1 m1, (hm.of_nil _).trans' m1⟩)).mono fun e w' he => by
      obtain ⟨y, rfl, rfl, h1, m1⟩ := he
      exact ⟨rfl, h1, m1⟩
theorem uart_asked (h : Bus W w n M now alarm bell S) (hfr : Fresh w (n + 4) (n + 5)) (hf : fnd M.n 268435461 1 = 3) :
    Calls Try.prog 7 #[.pointer (some ⟨n + 6, 0, none⟩), .int .u64 268435461, .int .i64 1] w (Ends (.tuple #[.int .u64 96, .bool true]) fun w' => Mod Nil w w') :=
  (bus_load_uart h 268435461 1 (by omega) (by omega) hf (R := fun x y w' => x = .int .u64 96 ∧ y = .bool true ∧ Mod Nil w w')
    (fun w' hm => (uart_status (hfr.keep hm (fun x => x) (fun x => x))).mono fun e w'' he => by
      obtain ⟨rfl, rfl⟩ := he
      exact ⟨_, _, rfl, rfl, rfl, hm⟩)).mono fun e w' he => by
      obtain ⟨x, y, rfl, rfl, rfl, m1⟩ := he
      exact ⟨rfl, m1⟩
theorem switch_off (h : Bus W w n M now alarm bell S) (hfr : Fresh w (n + 4) (n + 5)) (hf : fnd M.n 1048576 4 = 4) :
    Calls Try.prog 8 #[.pointer (some ⟨n + 6, 0, none⟩), .int .u64 1048576, .int .i64 4, .int .u64 21845] w (Ends (.bool true) fun w' => w'.rowIs (n + 5) 74 1 (fun _ => .bool true) ∧ Mod (fun g => g = n + 5) w w') :=
  (bus_store_power h 1048576 21845 4 (by omega) (by omega) hf (R := fun y w' => y = true ∧ w'.rowIs (n + 5) 74 1 (fun _ => .bool true) ∧ Mod (fun g => g = n + 5) w w')
    (fun w' hm => (power_off (hfr.keep hm (fun x => x) (fun x => x))).mono fun e w'' he => by
      obtain ⟨rfl, h1, m1⟩ := he
      exact ⟨_, rfl, rfl, h1, (hm.of_nil _).trans' m1⟩)).mono fun e w' he => by
      obtain ⟨y, rfl, rfl, h1, m1⟩ := he
      exact ⟨rfl, h1, m1⟩
end

def bEnds : List Nat := [0, 1048575, 1052672, 33554428, 33619968, 201326588, 205520896, 268435455, 268435712, 2147483647, 2147487744, 18446744073709551615, 18446744073709551608]
def bSizes : List Int := [1, 2, 4, 8]
theorem b_none : ∀ i, i < 13 → ∀ k, k < 4 → fnd 4096 (bEnds.getD i 0) (bSizes.getD k 0) = 5 := by decide +kernel
theorem b_size : ∀ k, k < 4 → bSizes.getD k 0 = 1 ∨ bSizes.getD k 0 = 2 ∨ bSizes.getD k 0 = 4 ∨ bSizes.getD k 0 = 8 := by decide +kernel
theorem b_end : ∀ i, i < 13 → bEnds.getD i 0 < 18446744073709551616 := by decide +kernel
theorem k_f1 : fnd (Mem.zero 4096).n 33554432 4 = 1 := by decide +kernel
theorem k_f2 : fnd (Mem.zero 4096).n 33570816 8 = 1 := by decide +kernel
theorem k_f3 : fnd (Mem.zero 4096).n 268435461 1 = 3 := by decide +kernel
theorem k_f4 : fnd (Mem.zero 4096).n 1048576 4 = 4 := by decide +kernel
theorem k_i1 : inReg (Mem.zero 4096).n 2147483648 4096 0 = true := by decide +kernel
theorem k_i2 : inReg (Mem.zero 4096).n 2147483648 4097 0 = false := by decide +kernel
theorem k_i3 : inReg (Mem.zero 4096).n 2147483648 (-1) 0 = false := by decide +kernel
theorem k_i4 : inReg (Mem.zero 4096).n 2147487744 0 0 = true := by decide +kernel

/-- What stands while BusKnown goes round. -/
structure Round (W w : World) (n g : Nat) : Prop where
  bus : Bus W w n (Mem.zero 4096) 0 18446744073709551615 0 Plc.Pli.zero
  fresh : Fresh w (n + 4) (n + 5)
  ends : w.rowIs g 26 13 (fun i => .int .u64 ((bEnds.getD i 0 : Nat) : Int))
  sizes : w.rowIs (g + 1) 3 4 (fun i => .int .i64 (bSizes.getD i 0))
theorem Round.nil {W w w' : World} {n g : Nat} (h : Round W w n g) (hm : Mod Nil w w') : Round W w' n g :=
  ⟨h.bus.nil hm, h.fresh.keep hm (fun x => x) (fun x => x), hm.row h.ends (fun x => x), hm.row h.sizes (fun x => x)⟩

set_option maxHeartbeats 8000000 in
set_option maxRecDepth 100000 in
theorem BusKnown_true (W : World) : Calls Try.prog 3 #[] W (fun e w' => e = .returned (.bool true) ∧ Below W.heap.size W w') := by
  obtain ⟨n, hn⟩ : ∃ n, n = W.heap.size := ⟨_, rfl⟩
  have HN := Lib.hid hn
  clear hn
  go_enter Try.func3, Try.ntmps3
  go_wp2_with (fail)
  refine (bus_new (Below.refl _ W) 4096 (by omega) (by omega) (by omega)).mono ?_
  rintro e w1 ⟨rfl, h1, m1, f1⟩
  rw [← HN.out] at h1 f1
  rw [← HN.out]
  have H1 := Lib.hid h1
  have F1 := Lib.hid f1
  clear h1 m1 f1
  go_wp2_with (fail)
  refine (bus_new_no 5 w1 (by unfold SizeOk; omega)).mono ?_
  rintro e w2 ⟨rfl, rfl⟩
  go_wp2_with (fail)
  have hm : Mod Nil w1 ((w1.alloc (.cells (bEnds.map fun (i : Nat) => Value.int .u64 (i : Int)).toArray 26)).alloc (.cells (bSizes.map (Value.int .i64)).toArray 3)) := ((Mod.refl Nil w1).alloc _).alloc _
  have hr : Round W ((w1.alloc (.cells (bEnds.map fun (i : Nat) => Value.int .u64 (i : Int)).toArray 26)).alloc (.cells (bSizes.map (Value.int .i64)).toArray 3)) n w1.heap.size := by
    refine ⟨H1.out.nil hm, F1.out.keep hm (fun x => x) (fun x => x), ?_, ?_⟩
    · refine World.rowIs.alloc (World.rowIs_alloc _ _ _ _ fun i hi => ?_) _
      have hi : i < bEnds.length := by simpa using hi
      simp [List.getElem?_eq_getElem hi]
    · have := World.rowIs_alloc (w1.alloc (.cells (bEnds.map fun (i : Nat) => Value.int .u64 (i : Int)).toArray 26)) (bSizes.map (Value.int .i64)).toArray 3 (fun i => .int .i64 (bSizes.getD i 0)) fun i hi => by
        have hi : i < bSizes.length := by simpa using hi
        simp [List.getElem?_eq_getElem hi]
      rwa [World.size_alloc] at this
  have HR := Lib.hid hr
  clear hm hr
  obtain ⟨g, hg⟩ : ∃ g, g = w1.heap.size := ⟨_, rfl⟩
  rw [← hg] at HR
  rw [← hg]
  clear hg H1 F1
  go_loopw [7] (fun i wr => ∃ k : Nat, k ≤ 13 ∧ i = .int .i64 (k : Int) ∧ Round W wr n g) (fun i _ => 13 - (intOf i).toNat)
  case atStart => exact ⟨0, Nat.zero_le _, rfl, HR.out⟩
  case round =>
    clear HR
    obtain ⟨i, hi, rfl, hr⟩ := hrel
    have HR := Lib.hid hr
    clear hr
    by_cases hin : i < 13
    · have i0 : (0 : Int) ≤ (i : Int) := by omega
      have i1 : (i : Int) < 13 := by omega
      have HBE := Lib.hid (b_end i hin)
      have HBN := Lib.hid (b_none i hin)
      go_wp2_with (fail)
      go_loopw [8] (fun j wr => ∃ k : Nat, k ≤ 4 ∧ j = .int .i64 (k : Int) ∧ Round W wr n g) (fun j _ => 4 - (intOf j).toNat)
      case atStart => exact ⟨0, Nat.zero_le _, rfl, HR.out⟩
      case round =>
        clear HR
        obtain ⟨k, hk, rfl, hr⟩ := hrel
        by_cases hkn : k < 4
        · have k0 : (0 : Int) ≤ (k : Int) := by omega
          have k1 : (k : Int) < 4 := by omega
          have ce := hr.ends.cell hin
          have cs := hr.sizes.cell hkn
          have hg1 := hr.ends.lt
          have hg2 := hr.sizes.lt
          have HBS := Lib.hid (b_size k hkn)
          have HF := Lib.hid (HBN.out k hkn)
          generalize bEnds.getD i 0 = pa at *
          generalize bSizes.getD k 0 = sz at *
          have HR := Lib.hid hr
          have HC := Lib.hid (bus_load_none (hr.nil (Mod.refl Nil _).drew).bus pa sz HBE.out HBS.out HF.out)
          clear hr
          go_wp2_with (fail)
          go_region_held3 (fun w' => w'.cell? ⟨g, i, none⟩ = some (.int .u64 (pa : Int)) ∧ w'.cell? ⟨g + 1, k, none⟩ = some (.int .i64 sz)) (first | exact ⟨ce, cs⟩ | exact ⟨(m2.cell (p := ⟨g, i, none⟩) hg1 (fun x => x)).trans ce, (m2.cell (p := ⟨g + 1, k, none⟩) hg2 (fun x => x)).trans cs⟩ | go_keep) (first | (go_at_call 7; refine HC.out.mono ?_; rintro e w2 ⟨rfl, m2⟩))
          have ce2 := (m2.cell (p := ⟨g, i, none⟩) hg1 (fun x => x)).trans ce
          have cs2 := (m2.cell (p := ⟨g + 1, k, none⟩) hg2 (fun x => x)).trans cs
          have HR2 := Lib.hid (HR.out.nil ((Mod.refl Nil _).drew.trans' m2))
          have hg3 := HR2.out.ends.lt
          have hg4 := HR2.out.sizes.lt
          have HC2 := Lib.hid (bus_store_none (HR2.out.nil (Mod.refl Nil _).drew).bus pa 1 sz HBE.out HBS.out HF.out)
          clear ce cs HC HR m2
          go_wp2_with (fail)
          go_region_held3 (fun w' => w'.cell? ⟨g, i, none⟩ = some (.int .u64 (pa : Int)) ∧ w'.cell? ⟨g + 1, k, none⟩ = some (.int .i64 sz)) (first | exact ⟨ce2, cs2⟩ | exact ⟨(m3.cell (p := ⟨g, i, none⟩) hg3 (fun x => x)).trans ce2, (m3.cell (p := ⟨g + 1, k, none⟩) hg4 (fun x => x)).trans cs2⟩ | go_keep) (first | (go_at_call 8; refine HC2.out.mono ?_; rintro e w3 ⟨rfl, m3⟩))
          have HR3 := Lib.hid (HR2.out.nil ((Mod.refl Nil _).drew.trans' m3))
          clear ce2 cs2 HC2 HR2 m3
          go_wp2
          go_roundw
          case rel => exact ⟨k + 1, by omega, by go_num, HR3.out⟩
          case measure => simp [intOf]; omega
        · obtain rfl : k = 4 := by omega
          have HR := Lib.hid hr
          clear hr
          go_wp2
          go_roundw
          case rel => exact ⟨i + 1, by omega, by go_num, HR.out⟩
          case measure => simp [intOf]; omega
    · obtain rfl : i = 13 := by omega
      go_wp2_with (fail)
      refine (bell_store HR.out.bus 1 (by omega) k_f1).mono ?_
      rintro e w2 ⟨rfl, h2, m2⟩
      have H2 : Hid (Bus W w2 n (Mem.zero 4096) 0 18446744073709551615 1 Plc.Pli.zero) := Lib.hid h2
      have F2 := Lib.hid (HR.out.fresh.keep m2 (by omega) (by omega))
      clear h2 m2 HR
      go_wp2_with (fail)
      refine (bus_lines H2.out).mono ?_
      rintro e w3 ⟨rfl, m3⟩
      have hl : linesN (1 == 1) (decide (18446744073709551615 ≤ 0)) (Plc.Pli.zero.pending 1) (Plc.Pli.zero.pending 0) = 8 := by decide +kernel
      rw [hl]
      have H3 := Lib.hid (H2.out.nil m3)
      have F3 := Lib.hid (F2.out.keep m3 (fun x => x) (fun x => x))
      clear hl m3 H2 F2
      go_wp2_with (fail)
      refine (alarm_store H3.out k_f2).mono ?_
      rintro e w4 ⟨rfl, h4, m4⟩
      have H4 := Lib.hid h4
      have F4 := Lib.hid (F3.out.keep m4 (by omega) (by omega))
      clear h4 m4 H3 F3
      go_wp2_with (fail)
      refine (bus_lines H4.out).mono ?_
      rintro e w5 ⟨rfl, m5⟩
      have hl : linesN (1 == 1) (decide (0 ≤ 0)) (Plc.Pli.zero.pending 1) (Plc.Pli.zero.pending 0) = 136 := by decide +kernel
      rw [hl]
      have H5 := Lib.hid (H4.out.nil m5)
      have F5 := Lib.hid (F4.out.keep m5 (fun x => x) (fun x => x))
      clear hl m5 H4 F4
      go_wp2_with (fail)
      refine (uart_asked H5.out F5.out k_f3).mono ?_
      rintro e w6 ⟨rfl, m6⟩
      have H6 := Lib.hid (H5.out.nil m6)
      have F6 := Lib.hid (F5.out.keep m6 (fun x => x) (fun x => x))
      clear m6 H5 F5
      go_wp2_with (fail)
      refine (in_ram H6.out 2147483648 4096 (by omega) (by omega) (by omega)).mono ?_
      rw [k_i1]
      rintro e w7 ⟨rfl, m7⟩
      have H7 := Lib.hid (H6.out.nil m7)
      have F7 := Lib.hid (F6.out.keep m7 (fun x => x) (fun x => x))
      clear m7 H6 F6
      go_wp2_with (fail)
      refine (in_ram H7.out 2147483648 4097 (by omega) (by omega) (by omega)).mono ?_
      rw [k_i2]
      rintro e w8 ⟨rfl, m8⟩
      have H8 := Lib.hid (H7.out.nil m8)
      have F8 := Lib.hid (F7.out.keep m8 (fun x => x) (fun x => x))
      clear m8 H7 F7
      go_wp2_with (fail)
      refine (in_ram H8.out 2147483648 (-1) (by omega) (by omega) (by omega)).mono ?_
      rw [k_i3]
      rintro e w9 ⟨rfl, m9⟩
      have H9 := Lib.hid (H8.out.nil m9)
      have F9 := Lib.hid (F8.out.keep m9 (fun x => x) (fun x => x))
      clear m9 H8 F8
      go_wp2_with (fail)
      refine (in_ram H9.out 2147487744 0 (by omega) (by omega) (by omega)).mono ?_
      rw [k_i4]
      rintro e wa ⟨rfl, ma⟩
      have HA := Lib.hid (H9.out.nil ma)
      have FA := Lib.hid (F9.out.keep ma (fun x => x) (fun x => x))
      clear ma H9 F9
      go_wp2_with (fail)
      refine (switch_off HA.out FA.out k_f4).mono ?_
      rintro e wb ⟨rfl, rb, mb⟩
      have cb : _ = some (Value.pointer (some ⟨n + 5, 0, none⟩)) := (mb.row HA.out.row (by omega)).cell (i := 4) (by omega)
      have HB := Lib.hid (HA.out.below.trans (mb.toBelow HA.out.below.size (by have := HA.out.old; omega)))
      have RB := Lib.hid rb
      clear mb rb HA FA
      go_wp2_with (fail)
      refine (power_told RB.out).mono ?_
      rintro e w' ⟨rfl, rfl⟩
      go_wp2_with (fail)
      refine (bus_known HB.out).mono ?_
      rintro e wc ⟨rfl, mc⟩
      have HC := Lib.hid (HB.out.trans (mc.toBelow HB.out.size (fun _ x => x.elim)))
      clear mc
      go_wp2
      go_ret
      exact ⟨rfl, HC.out⟩

end Go.Proofs.Ytalhdcjnaknglaa
