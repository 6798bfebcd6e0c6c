/- SameBytes is true of like rows; SerialPower returns true, whatever it is given. Condition: the numbers lie in memory. -/
import Derived.Test.YtoeppbngogjbaaaSerJ
import Derived.Test.YtoeppbngogjbaaaInts
import Derived.Test.YtoeppbngogjbaaaKit
namespace Go.Proofs.Ytoeppbngogjbaaa
open Go.RowKit

theorem same_bytes (va vb : Value) (n : Nat) (f : Nat → Int) (w : World) (ha : Ints w .u8 va n f) (hb : Ints w .u8 vb n f) :
    Calls Try.prog 35 #[va, vb] w (Ends (.bool true) fun w' => Mod Nil w w') := by
  obtain ⟨A, cA, rfl, _, hmax, hA⟩ := ha
  obtain ⟨B, cB, rfl, _, _, hB⟩ := hb
  simp only [maxLen] at hmax
  rcases Nat.eq_zero_or_pos n with rfl | h0
  · go_enter Try.func35, Try.ntmps35
    go_wp2
    refine wp_loop_rounds 1 ?_
    rw [rounds_succ]
    go_wp2
    go_ret
    exact ⟨rfl, Mod.refl _ _⟩
  · obtain ⟨a, oa, rfl, hla, hca⟩ := hA h0
    obtain ⟨b, ob, rfl, hlb, hcb⟩ := hB h0
    have Ha := Lib.hid hca
    have Hb := Lib.hid hcb
    clear hA hB hca hcb
    go_enter Try.func35, Try.ntmps35
    go_wp2
    go_loopw [5] (fun i wr => ∃ k : Nat, k ≤ n ∧ i = .int .i64 (k : Int) ∧ Mod Nil w wr) (fun i _ => n - (intOf i).toNat)
    case atStart => exact ⟨0, Nat.zero_le _, rfl, Mod.refl _ _⟩
    case round =>
      obtain ⟨k, hk, rfl, hm⟩ := hrel
      by_cases hkn : k < n
      · have c1 := (hm.cell (p := ⟨a, oa + k, none⟩) hla id).trans (Ha.out k hkn)
        have c2 := (hm.cell (p := ⟨b, ob + k, none⟩) hlb id).trans (Hb.out k hkn)
        have i1 : (0 : Int) ≤ (k : Int) := by omega
        have i2 : (k : Int) < (n : Int) := by omega
        have Hm := Lib.hid hm
        clear hm
        go_wp2
        go_quiet (fail)
        go_wp2
        go_roundw
        case rel => exact ⟨k + 1, by omega, by go_num, Hm.out.drewN _⟩
        case measure => simp [intOf]; omega
      · obtain rfl : k = n := by omega
        have Hm := Lib.hid hm
        clear hm
        go_wp2
        go_ret
        exact ⟨rfl, Hm.out⟩

end Go.Proofs.Ytoeppbngogjbaaa
