/- 'Pick': a number from 0 to n - 1 by any number. Condition: n is at least 1, both fit their kind. -/
import Derived.Test.YthpjedbkdepglaaProg
import Derived.Test.YthpjedbkdepglaaBase
namespace Go.Proofs.Ythpjedbkdepglaa
open Go.RowKit

theorem tmod_bound (k n : Int) (hn : 1 ≤ n) : -n < k.tmod n ∧ k.tmod n < n := by
  have h1 := Int.tmod_lt_of_pos k (show 0 < n by omega)
  have h2 := Int.tmod_lt_of_pos (-k) (show 0 < n by omega)
  rw [Int.neg_tmod] at h2
  omega
theorem tmod_pick (k n : Int) (hn : 1 ≤ n) : (k.tmod n < 0 → k.tmod n + n = k % n) ∧ (0 ≤ k.tmod n → k.tmod n = k % n) := by
  have hb := tmod_bound k n hn
  have hk : k % n = (k.tmod n) % n := by
    have h := Int.tmod_add_mul_tdiv k n
    rw [← h, Int.add_mul_emod_self_left]
    rw [h]
  refine ⟨fun h => ?_, fun h => ?_⟩
  · rw [hk, ← Int.add_emod_right, Int.emod_eq_of_lt (by omega) (by omega)]
  · rw [hk, Int.emod_eq_of_lt h hb.2]

theorem pick_any (k n : Int) (w : World) (hn : 1 ≤ n) (hn2 : n ≤ 9223372036854775807) :
    Calls Try.prog 9 #[.int .i64 k, .int .i64 n] w (Ends (.int .i64 (k % n)) fun w' => w = w') := by
  by_cases h0 : 0 ≤ k
  · have h1 : 0 ≤ k % n := Int.emod_nonneg _ (by omega)
    have h2 : k % n < n := Int.emod_lt_of_pos _ (by omega)
    go_enter Try.func9, Try.ntmps9
    go_wp2
    go_ret
    exact ⟨rfl, rfl⟩
  · have hb := tmod_bound k n hn
    have hb1 := hb.1
    have hb2 := hb.2
    have hp := Lib.hid (tmod_pick k n hn)
    clear hb
    by_cases hr : k.tmod n < 0
    · go_enter Try.func9, Try.ntmps9
      go_wp2
      go_ret
      exact ⟨ret_of (hp.out.1 hr), rfl⟩
    · go_enter Try.func9, Try.ntmps9
      go_wp2
      go_ret
      exact ⟨ret_of (hp.out.2 (by omega)), rfl⟩

end Go.Proofs.Ythpjedbkdepglaa
