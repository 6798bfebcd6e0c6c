/- The bus: how far a place is behind a region's beginning; which region some bytes are in. Condition of the latter: a bus lies there. -/
import Derived.Test.YtalhdcjnaknglaaBusB
namespace Go.Proofs.Ytalhdcjnaknglaa
open Go.RowKit
attribute [local go_sem ↓] Go.wp_at_zero Go.wp_at_succ

/-- Are k bytes from pa on in a region? -/
def offB (b s pa : Nat) (k : Int) : Bool := decide (b ≤ pa) && decide (0 ≤ k) && decide (pa - b ≤ s) && decide (k ≤ ((s - (pa - b) : Nat) : Int))

set_option maxHeartbeats 1000000 in
theorem off_any (T d b s pa : Nat) (k : Int) (w : World) (hb : b < 4294967296) (hs : s < 4294967296) (hp : pa < 18446744073709551616) (hk : k < 9223372036854775808) (hk2 : -9223372036854775808 ≤ k) :
    Calls Try.prog 27 #[.agg #[.iface T (.pointer (some ⟨d, 0, none⟩)), .int .u64 (b : Int), .int .u64 (s : Int)], .int .u64 (pa : Int), .int .i64 k] w (fun e w' => ∃ o : Int, (offB b s pa k = true → o = ((pa - b : Nat) : Int)) ∧ Ends (.tuple #[.int .i64 o, .bool (offB b s pa k)]) (fun w' => Mod Nil w w') e w') := by
  by_cases h1 : b ≤ pa
  · obtain ⟨at_, hat⟩ : ∃ a : Nat, pa - b = a := ⟨_, rfl⟩
    have e1 : (pa : Int) - (b : Int) = (at_ : Int) := by omega
    have e2 : IntKind.u64.wrap ((pa : Int) - (b : Int)) = (at_ : Int) := by rw [e1, IntKind.wrap_u64]; exact Int.emod_eq_of_lt (Int.natCast_nonneg _) (by omega)
    have d1 : decide (b ≤ pa) = true := by simpa using h1
    have hal : at_ < 18446744073709551616 := by omega
    by_cases h2 : 0 ≤ k
    · have d2 : decide (0 ≤ k) = true := by simpa using h2
      obtain ⟨kn, rfl⟩ : ∃ kn : Nat, k = (kn : Int) := ⟨k.toNat, by omega⟩
      by_cases h3 : at_ ≤ s
      · have d3 : decide (at_ ≤ s) = true := by simpa using h3
        have e3 : (s : Int) - (at_ : Int) = ((s - at_ : Nat) : Int) := by omega
        have e4 : IntKind.u64.wrap ((s : Int) - (at_ : Int)) = ((s - at_ : Nat) : Int) := by rw [e3, IntKind.wrap_u64]; exact Int.emod_eq_of_lt (Int.natCast_nonneg _) (by omega)
        have hB : offB b s pa (kn : Int) = decide (kn ≤ s - at_) := by unfold offB; rw [hat, d1, d2, d3]; simp
        rw [hB, hat]
        have e5 : IntKind.i64.wrap (at_ : Int) = (at_ : Int) := by rw [IntKind.wrap_i64]; omega
        have e6 : IntKind.u64.wrap (kn : Int) = (kn : Int) := by rw [IntKind.wrap_u64]; exact Int.emod_eq_of_lt (Int.natCast_nonneg _) (by omega)
        generalize s - at_ = r at *
        clear hB hat e3
        go_enter Try.func27, Try.ntmps27
        go_wp2
        go_quiet (fail)
        go_wp2
        go_ret2
        exact ⟨_, fun _ => rfl, rfl, ((Mod.refl Nil w).alloc _).drewN _⟩
      · have d3 : decide (at_ ≤ s) = false := by simpa using h3
        have hB : offB b s pa (kn : Int) = false := by unfold offB; rw [hat, d3]; simp
        rw [hB]
        clear hB hat
        go_enter Try.func27, Try.ntmps27
        go_wp2
        go_quiet (fail)
        go_wp2
        go_ret2
        exact ⟨_, fun h => (by cases h), rfl, ((Mod.refl Nil w).alloc _).drewN _⟩
    · have d2 : decide (0 ≤ k) = false := by simpa using h2
      have hB : offB b s pa k = false := by unfold offB; rw [d2]; simp
      rw [hB]
      clear hB hat
      go_enter Try.func27, Try.ntmps27
      go_wp2
      go_quiet (fail)
      go_wp2
      go_ret2
      exact ⟨_, fun h => (by cases h), rfl, ((Mod.refl Nil w).alloc _).drewN _⟩
  · have d1 : decide (b ≤ pa) = false := by simpa using h1
    have hB : offB b s pa k = false := by unfold offB; rw [d1]; simp
    rw [hB]
    clear hB
    go_enter Try.func27, Try.ntmps27
    go_wp2
    go_quiet (fail)
    go_wp2
    go_ret2
    exact ⟨_, fun h => (by cases h), rfl, ((Mod.refl Nil w).alloc _).drewN _⟩

end Go.Proofs.Ytalhdcjnaknglaa
