/- The program's memory: part, number, get, put, tag: what each answers and leaves. Conditions: the cells named lie there. -/
import Derived.Test.YtalhdcjnaknglaaProg
import Derived.Test.YtalhdcjnaknglaaRamP
import Derived.Test.YtalhdcjnaknglaaInts
namespace Go.Proofs.Ytalhdcjnaknglaa
open Go.RowKit

theorem part_yes (r rb n o : Nat) (k : Nat) (w : World) (hk : 1 ≤ k) (hk2 : k ≤ 16) (ho : o + k ≤ n) (hn : n ≤ 65536) (c0 : w.cell? ⟨r, 0, none⟩ = some (.slice (some ⟨rb, 0, none⟩) n n)) :
    Calls Try.prog 40 #[.pointer (some ⟨r, 0, none⟩), .int .i64 (o : Int), .int .i64 (k : Int)] w (Ends (.tuple #[.slice (some ⟨rb, o, none⟩) k (n - o), .bool true]) fun w' => w = w') := by
  have h1 : ¬ (n = o) := by omega
  have h2 : k ≤ n - o := by omega
  go_enter Try.func40, Try.ntmps40
  go_wp2
  go_ret2
  exact ⟨rfl, rfl⟩

theorem part_no (r rb n : Nat) (off : Int) (k : Nat) (w : World) (hk2 : k ≤ 16) (ho : off < 0 ∨ (n : Int) < off + k) (hn : n ≤ 65536) (c0 : w.cell? ⟨r, 0, none⟩ = some (.slice (some ⟨rb, 0, none⟩) n n)) :
    Calls Try.prog 40 #[.pointer (some ⟨r, 0, none⟩), .int .i64 off, .int .i64 (k : Int)] w (Ends (.tuple #[.slice none 0 0, .bool false]) fun w' => w = w') := by
  by_cases h0 : off < 0
  · clear ho
    go_enter Try.func40, Try.ntmps40
    go_wp2
    go_ret2
    exact ⟨rfl, rfl⟩
  · have h1 : (n : Int) - k < off := by omega
    clear ho
    go_enter Try.func40, Try.ntmps40
    go_wp2
    go_ret2
    exact ⟨rfl, rfl⟩

theorem number_yes (r rb n o : Nat) (k : Nat) (w : World) (hk : k = 1 ∨ k = 2 ∨ k = 4 ∨ k = 8) (ho : o + k ≤ n) (hn : n ≤ 65536) (c0 : w.cell? ⟨r, 0, none⟩ = some (.slice (some ⟨rb, 0, none⟩) n n)) :
    Calls Try.prog 65 #[.pointer (some ⟨r, 0, none⟩), .int .i64 (o : Int), .int .i64 (k : Int)] w (Ends (.tuple #[.slice (some ⟨rb, o, none⟩) k (n - o), .bool true]) fun w' => w = w') := by
  have hP := part_yes r rb n o k w (by omega) (by omega) ho hn c0
  rcases hk with rfl | rfl | rfl | rfl
  all_goals
    have HP := Lib.hid hP
    clear hP c0
    go_enter Try.func65, Try.ntmps65
    go_wp2_with (go_at_call 40; refine HP.out.mono ?_; rintro e w' ⟨rfl, rfl⟩)
    go_ret2
    exact ⟨rfl, rfl⟩

theorem number_no (r rb n : Nat) (off size : Int) (w : World) (ho : ¬ ((size = 1 ∨ size = 2 ∨ size = 4 ∨ size = 8) ∧ 0 ≤ off ∧ off + size ≤ n)) (hn : n ≤ 65536) (c0 : w.cell? ⟨r, 0, none⟩ = some (.slice (some ⟨rb, 0, none⟩) n n)) :
    Calls Try.prog 65 #[.pointer (some ⟨r, 0, none⟩), .int .i64 off, .int .i64 size] w (Ends (.tuple #[.slice none 0 0, .bool false]) fun w' => w = w') := by
  by_cases hs : size = 1 ∨ size = 2 ∨ size = 4 ∨ size = 8
  · obtain ⟨k, rfl⟩ : ∃ k : Nat, size = (k : Int) := ⟨size.toNat, by omega⟩
    have hP := part_no r rb n off k w (by omega) (by omega) hn c0
    have hk : k = 1 ∨ k = 2 ∨ k = 4 ∨ k = 8 := by omega
    clear hs ho
    rcases hk with rfl | rfl | rfl | rfl
    all_goals
      have HP := Lib.hid hP
      clear hP c0
      go_enter Try.func65, Try.ntmps65
      go_wp2_with (go_at_call 40; refine HP.out.mono ?_; rintro e w' ⟨rfl, rfl⟩)
      go_ret2
      exact ⟨rfl, rfl⟩
  · have e1 : (size == 1) = false := by rw [beq_eq_false_iff_ne]; omega
    have e2 : (size == 2) = false := by rw [beq_eq_false_iff_ne]; omega
    have e4 : (size == 4) = false := by rw [beq_eq_false_iff_ne]; omega
    have e8 : (size == 8) = false := by rw [beq_eq_false_iff_ne]; omega
    clear hs ho c0
    go_enter Try.func65, Try.ntmps65
    go_wp2_with fail
    go_ret2
    exact ⟨rfl, rfl⟩

theorem pow_256 (q : Nat) : (256 : Nat) ^ q = 2 ^ (8 * q) := by rw [show (256 : Nat) = 2 ^ 8 from rfl, ← Nat.pow_mul]
theorem num_u64 (f : Nat → Nat) (hf : ∀ i, f i < 256) (k : Nat) (hk : k ≤ 8) : num f k < 18446744073709551616 := by
  have h := num_lt f hf k
  have : (256 : Nat) ^ k ≤ 256 ^ 8 := Nat.pow_le_pow_right (by decide) hk
  have e : (256 : Nat) ^ 8 = 18446744073709551616 := by decide
  omega
theorem or_step (f : Nat → Nat) (hf : ∀ i, f i < 256) (q : Nat) (hq : q ≤ 7) : bits BinOp.or IntKind.u64 ((num f q : Nat) : Int) (IntKind.u64.wrap (((f q : Nat) : Int) * 2 ^ (8 * q))) = ((num f (q + 1) : Nat) : Int) := by
  have h1 := num_u64 f hf (q + 1) (by omega)
  have h0 := num_u64 f hf q (by omega)
  have h2 : f q * 256 ^ q ≤ num f (q + 1) := by simp only [num]; omega
  have e : (((f q : Nat) : Int) * 2 ^ (8 * q)) = ((f q * 256 ^ q : Nat) : Int) := by rw [pow_256]; push_cast; rfl
  rw [e, IntKind.wrap_u64, Int.emod_eq_of_lt (by omega) (by omega), u64_or_nat _ _ h0 (by omega), num_or f hf]

theorem get_nil (w : World) : Calls Try.prog 42 #[.slice none 0 0] w (Ends (.int .u64 0) fun w' => w = w') := by
  go_enter Try.func42, Try.ntmps42
  go_wp2
  refine wp_loop_rounds 1 ?_
  rw [rounds_succ]
  go_wp2
  go_ret
  exact ⟨rfl, rfl⟩

theorem get_some (rb o k c : Nat) (f : Nat → Nat) (w : World) (hk : k ≤ 8) (hf : ∀ i, f i < 256) (hc : ∀ i, i < k → w.cell? ⟨rb, o + i, none⟩ = some (.int .u8 (f i : Nat))) :
    Calls Try.prog 42 #[.slice (some ⟨rb, o, none⟩) k c] w (Ends (.int .u64 (num f k : Nat)) fun w' => w = w') := by
  have Hc := Lib.hid hc
  have Hf := Lib.hid hf
  clear hc hf
  go_enter Try.func42, Try.ntmps42
  go_wp2
  go_loop [2, 7] (fun v i => ∃ q : Nat, q ≤ k ∧ i = .int .i64 (q : Int) ∧ v = .int .u64 (num f q : Nat)) (fun _ i => k - (intOf i).toNat)
  case atStart => exact ⟨0, Nat.zero_le _, rfl, rfl⟩
  case round =>
    obtain ⟨q, hq, rfl, rfl⟩ := hrel
    by_cases hqk : q < k
    · have cq := Hc.out q hqk
      have hlt := num_lt f Hf.out q
      have hfq := Hf.out q
      go_wp2
      go_round
      case rel => exact ⟨q + 1, by omega, by go_num, by rw [or_step f Hf.out q (by omega)]⟩
      case measure => simp [intOf]; omega
    · obtain rfl : q = k := by omega
      go_wp2
      go_ret
      exact ⟨rfl, rfl⟩

end Go.Proofs.Ytalhdcjnaknglaa
