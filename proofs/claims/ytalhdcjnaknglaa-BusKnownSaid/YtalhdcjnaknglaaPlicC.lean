/- The program's interrupt controller: which, claim, Lines, Pending. Condition: such a controller lies there. -/
import Derived.Test.YtalhdcjnaknglaaPlicA
namespace Go.Proofs.Ytalhdcjnaknglaa.Plc
open Go.RowKit
attribute [local go_sem ↓] Go.wp_at_zero Go.wp_at_succ

theorem which_any (off size : Int) (w : World) : Calls Try.prog 75 #[.int .i64 off, .int .i64 size] w (Ends (.tuple #[.int .i64 ((which off size).1 : Nat), .int .i64 ((which off size).2 : Nat)]) fun w' => w = w') := by
  by_cases hs : size = 4 ∧ 0 ≤ off
  · obtain ⟨rfl, h0⟩ := hs
    unfold which
    rw [if_pos ⟨rfl, h0⟩]
    by_cases h1 : off < 128 ∧ off % 4 = 0
    · rw [if_pos h1]
      obtain ⟨h1, h2⟩ := h1
      have hz : ((off % 4 == 0) : Bool) = true := by simp only [beq_iff_eq]; exact h2
      have e : ((off.toNat / 4 : Nat) : Int) = off / 4 := by omega
      dsimp only
      rw [e]
      clear h2 e
      go_enter Try.func75, Try.ntmps75
      go_wp2
      go_ret2
      exact ⟨rfl, rfl⟩
    · rw [if_neg h1]
      by_cases e1 : off = 4096
      · subst e1
        clear h1
        go_enter Try.func75, Try.ntmps75
        go_wp2
        go_ret2
        exact ⟨rfl, rfl⟩
      · rw [if_neg e1]
        by_cases e2 : off = 8192
        · subst e2
          clear h1 e1
          go_enter Try.func75, Try.ntmps75
          go_wp2
          refine wp_loop_rounds 1 ?_
          rw [rounds_succ]
          go_wp2
          go_ret2
          exact ⟨rfl, rfl⟩
        rw [if_neg e2]
        by_cases e3 : off = 8320
        · subst e3
          clear h1 e1 e2
          go_enter Try.func75, Try.ntmps75
          go_wp2
          refine wp_loop_rounds 2 ?_
          rw [rounds_succ]
          go_wp2
          rw [rounds_succ]
          go_wp2
          go_ret2
          exact ⟨rfl, rfl⟩
        rw [if_neg e3]
        by_cases e4 : off = 2097152
        · subst e4
          clear h1 e1 e2 e3
          go_enter Try.func75, Try.ntmps75
          go_wp2
          refine wp_loop_rounds 1 ?_
          rw [rounds_succ]
          go_wp2
          go_ret2
          exact ⟨rfl, rfl⟩
        rw [if_neg e4]
        by_cases e5 : off = 2101248
        · subst e5
          clear h1 e1 e2 e3 e4
          go_enter Try.func75, Try.ntmps75
          go_wp2
          refine wp_loop_rounds 2 ?_
          rw [rounds_succ]
          go_wp2
          rw [rounds_succ]
          go_wp2
          go_ret2
          exact ⟨rfl, rfl⟩
        rw [if_neg e5]
        by_cases e6 : off = 2097156
        · subst e6
          clear h1 e1 e2 e3 e4 e5
          go_enter Try.func75, Try.ntmps75
          go_wp2
          refine wp_loop_rounds 1 ?_
          rw [rounds_succ]
          go_wp2
          go_ret2
          exact ⟨rfl, rfl⟩
        rw [if_neg e6]
        by_cases e7 : off = 2101252
        · subst e7
          clear h1 e1 e2 e3 e4 e5 e6
          go_enter Try.func75, Try.ntmps75
          go_wp2
          refine wp_loop_rounds 2 ?_
          rw [rounds_succ]
          go_wp2
          rw [rounds_succ]
          go_wp2
          go_ret2
          exact ⟨rfl, rfl⟩
        rw [if_neg e7]
        have f1 : ((off == 4096) : Bool) = false := beq_eq_false_iff_ne.2 e1
        have f2 : ((off == 8192) : Bool) = false := beq_eq_false_iff_ne.2 e2
        have f3 : ((off == 8320) : Bool) = false := beq_eq_false_iff_ne.2 e3
        have f4 : ((off == 2097152) : Bool) = false := beq_eq_false_iff_ne.2 e4
        have f5 : ((off == 2101248) : Bool) = false := beq_eq_false_iff_ne.2 e5
        have f6 : ((off == 2097156) : Bool) = false := beq_eq_false_iff_ne.2 e6
        have f7 : ((off == 2101252) : Bool) = false := beq_eq_false_iff_ne.2 e7
        clear e1 e2 e3 e4 e5 e6 e7
        by_cases h3 : off < 128
        · have hz : ((off % 4 == 0) : Bool) = false := by rw [beq_eq_false_iff_ne]; exact fun x => h1 ⟨h3, x⟩
          clear h1
          go_enter Try.func75, Try.ntmps75
          go_wp2
          refine wp_loop_rounds 3 ?_
          rw [rounds_succ]
          go_wp2
          rw [rounds_succ]
          go_wp2
          rw [rounds_succ]
          go_wp2
          go_ret2
          exact ⟨rfl, rfl⟩
        · skip
          clear h1
          go_enter Try.func75, Try.ntmps75
          go_wp2
          refine wp_loop_rounds 3 ?_
          rw [rounds_succ]
          go_wp2
          rw [rounds_succ]
          go_wp2
          rw [rounds_succ]
          go_wp2
          go_ret2
          exact ⟨rfl, rfl⟩
  · unfold which
    rw [if_neg hs]
    by_cases e4 : size = 4
    · subst e4
      have h0 : off < 0 := by omega
      clear hs
      go_enter Try.func75, Try.ntmps75
      go_wp2
      go_ret2
      exact ⟨rfl, rfl⟩
    · have hz : ((size != 4) : Bool) = true := by simp only [bne_iff_ne, ne_eq]; exact e4
      clear hs e4
      go_enter Try.func75, Try.ntmps75
      go_wp2
      go_ret2
      exact ⟨rfl, rfl⟩

end Go.Proofs.Ytalhdcjnaknglaa.Plc
