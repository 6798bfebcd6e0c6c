/- The program's memory over one abstract state: Len, Load, LoadCap: what each answers. Condition: a memory lies there. -/
import Derived.Test.YtalhdcjnaknglaaRamB
namespace Go.Proofs.Ytalhdcjnaknglaa
open Go.RowKit

/-- The words in which tags stand. -/
def Words (tw : Nat → Nat) (T : Nat → Bool) : Prop := ∀ j, tw j < 18446744073709551616 ∧ ∀ k, k < 64 → (tw j).testBit k = T (64 * j + k)

theorem pow_lt64 (k : Nat) (h : k < 64) : 2 ^ k < 18446744073709551616 := (Nat.pow_lt_pow_iff_right (a := 2) (n := k) (m := 64) (by decide)).2 h

theorem words_test {tw : Nat → Nat} {T : Nat → Bool} (h : Words tw T) (g : Nat) : (bits BinOp.and IntKind.u64 ((tw (g / 64) : Nat) : Int) ((2 ^ (g % 64) : Nat) : Int) != 0) = T g := by
  obtain ⟨hl, ht⟩ := h (g / 64)
  have hk : g % 64 < 64 := Nat.mod_lt _ (by decide)
  have e := ht _ hk
  rw [show 64 * (g / 64) + g % 64 = g from by omega] at e
  rw [u64_and_nat _ _ hl (pow_lt64 _ hk), ← e]
  rw [Nat.testBit_eq_decide_div_mod_eq, nat_bit]
  have h2 : tw (g / 64) / 2 ^ (g % 64) % 2 = 0 ∨ tw (g / 64) / 2 ^ (g % 64) % 2 = 1 := by omega
  have hp : 0 < 2 ^ (g % 64) := Nat.pos_of_ne_zero (by simp)
  rcases h2 with h2 | h2
  · simp [h2]
  · simp only [h2, Nat.one_mul, decide_true, bne_iff_ne, ne_eq]
    omega

theorem words_clear {tw : Nat → Nat} {T : Nat → Bool} (h : Words tw T) (g : Nat) :
    ∃ x : Nat, bits BinOp.andNot IntKind.u64 ((tw (g / 64) : Nat) : Int) ((2 ^ (g % 64) : Nat) : Int) = (x : Int) ∧ Words (fun i => if i = g / 64 then x else tw i) (fun i => if i = g then false else T i) := by
  obtain ⟨hl, ht⟩ := h (g / 64)
  have hk : g % 64 < 64 := Nat.mod_lt _ (by decide)
  refine ⟨_, u64_andNot_nat _ _ hl (pow_lt64 _ hk), fun j => ?_⟩
  by_cases e : j = g / 64
  · subst e
    dsimp only
    rw [if_pos rfl]
    refine ⟨Nat.lt_of_le_of_lt Nat.and_le_left hl, fun k hk2 => ?_⟩
    rw [Nat.testBit_and, ht k hk2, show 18446744073709551615 - 2 ^ (g % 64) = 2 ^ 64 - (2 ^ (g % 64) + 1) from by have := pow_lt64 _ hk; omega, Nat.testBit_two_pow_sub_succ (pow_lt64 _ hk), Nat.testBit_two_pow]
    by_cases e2 : k = g % 64
    · subst e2
      rw [if_pos (by omega)]; simp
    · rw [if_neg (by omega)]
      simp [hk2, Ne.symm e2]
  · dsimp only
    rw [if_neg e]
    refine ⟨(h j).1, fun k hk2 => ?_⟩
    rw [if_neg (by omega)]
    exact (h j).2 k hk2

theorem words_set {tw : Nat → Nat} {T : Nat → Bool} (h : Words tw T) (g : Nat) :
    ∃ x : Nat, bits BinOp.or IntKind.u64 ((tw (g / 64) : Nat) : Int) ((2 ^ (g % 64) : Nat) : Int) = (x : Int) ∧ Words (fun i => if i = g / 64 then x else tw i) (fun i => if i = g then true else T i) := by
  obtain ⟨hl, ht⟩ := h (g / 64)
  have hk : g % 64 < 64 := Nat.mod_lt _ (by decide)
  refine ⟨_, u64_or_nat _ _ hl (pow_lt64 _ hk), fun j => ?_⟩
  by_cases e : j = g / 64
  · subst e
    dsimp only
    rw [if_pos rfl]
    refine ⟨Nat.or_lt_two_pow (n := 64) hl (pow_lt64 _ hk), fun k hk2 => ?_⟩
    rw [Nat.testBit_or, ht k hk2, Nat.testBit_two_pow]
    by_cases e2 : k = g % 64
    · subst e2
      rw [if_pos (by omega)]; simp
    · rw [if_neg (by omega)]
      simp [Ne.symm e2]
  · dsimp only
    rw [if_neg e]
    refine ⟨(h j).1, fun k hk2 => ?_⟩
    rw [if_neg (by omega)]
    exact (h j).2 k hk2

def rfc (rb n : Nat) (tw : Nat → Nat) (i : Nat) : Value := if i = 0 then .slice (some ⟨rb, 0, none⟩) n n else .int .u64 ((tw (i - 1) : Nat) : Int)
theorem rfc_0 {rb n : Nat} {tw : Nat → Nat} : rfc rb n tw 0 = .slice (some ⟨rb, 0, none⟩) n n := rfl
theorem rfc_s {rb n : Nat} {tw : Nat → Nat} {j : Nat} : rfc rb n tw (1 + j) = .int .u64 ((tw j : Nat) : Int) := by
  unfold rfc
  rw [if_neg (by omega), show 1 + j - 1 = j from by omega]

/-- The memory at blocks r and rb. -/
def RamAt (w : World) (r rb : Nat) (M : Mem) : Prop :=
  4096 ≤ M.n ∧ M.n ≤ 65536 ∧ M.n % 4096 = 0 ∧ (∀ i, M.B i < 256) ∧ r ≠ rb ∧ w.rowIs rb 5 M.n (byteRow M.B) ∧ ∃ tw, w.rowIs r 89 65 (rfc rb M.n tw) ∧ Words tw M.T
/-- A memory of the program at block r, all its blocks in D. -/
def RamIn (w : World) (base r : Nat) (D : Nat → Prop) (M : Mem) : Prop := D r ∧ base ≤ r ∧ ∃ rb, D rb ∧ base ≤ rb ∧ RamAt w r rb M

theorem RamAt.keep {w w' : World} {r rb : Nat} {M : Mem} {F : Nat → Prop} (h : RamAt w r rb M) (hm : Mod F w w') (h1 : ¬ F r) (h2 : ¬ F rb) : RamAt w' r rb M := by
  obtain ⟨a, b, c, d, e, hb, tw, hr, hw⟩ := h
  exact ⟨a, b, c, d, e, hm.row hb h2, tw, hm.row hr h1, hw⟩
theorem RamAt.lt {w : World} {r rb : Nat} {M : Mem} (h : RamAt w r rb M) : r < w.heap.size ∧ rb < w.heap.size := by
  obtain ⟨a, b, c, d, e, hb, tw, hr, hw⟩ := h
  exact ⟨hr.lt, hb.lt⟩
theorem ramIn_keep {w w' : World} {base r : Nat} {D D' F : Nat → Prop} {M : Mem} (h : RamIn w base r D M) (hm : Mod F w w') (hF : ∀ g, g < w.heap.size → D g → ¬ F g) (hD : ∀ g, g < w.heap.size → D g → D' g) : RamIn w' base r D' M := by
  obtain ⟨h1, h2, rb, h3, h4, h5⟩ := h
  have hl := h5.lt
  exact ⟨hD r hl.1 h1, h2, rb, hD rb hl.2 h3, h4, h5.keep hm (hF r hl.1 h1) (hF rb hl.2 h3)⟩

theorem RamAt.c0 {w : World} {r rb : Nat} {M : Mem} (h : RamAt w r rb M) : w.cell? ⟨r, 0, none⟩ = some (.slice (some ⟨rb, 0, none⟩) M.n M.n) := by
  obtain ⟨a, b, c, d, e, hb, tw, hr, hw⟩ := h
  exact hr.cell (i := 0) (by omega)

theorem len_at {w : World} {r rb : Nat} {M : Mem} (h : RamAt w r rb M) : Calls Try.prog 39 #[.pointer (some ⟨r, 0, none⟩)] w (Ends (.int .i64 (M.n : Int)) fun w' => w = w') := by
  have c0 := h.c0
  clear h
  go_enter Try.func39, Try.ntmps39
  go_wp2
  go_ret
  exact ⟨rfl, rfl⟩

theorem load_at {w : World} {r rb : Nat} {M : Mem} (h : RamAt w r rb M) (off size : Int) :
    Calls Try.prog 63 #[.pointer (some ⟨r, 0, none⟩), .int .i64 off, .int .i64 size] w (Ends (.tuple #[.int .u64 (((M.load off size).1 : Nat) : Int), .bool (M.load off size).2]) fun w' => w = w') := by
  have c0 := h.c0
  obtain ⟨a, b, c, d, e, hb, tw, hr, hw⟩ := h
  by_cases hs : Sized size ∧ There M off size
  · have he : M.load off size = (num (fun i => M.B (off.toNat + i)) size.toNat, true) := if_pos hs
    rw [he]
    obtain ⟨hsz, h0, h1⟩ := hs
    unfold Sized at hsz
    obtain ⟨o, rfl⟩ : ∃ o : Nat, off = (o : Int) := ⟨off.toNat, by omega⟩
    obtain ⟨k, rfl⟩ : ∃ k : Nat, size = (k : Int) := ⟨size.toNat, by omega⟩
    simp only [Int.toNat_natCast]
    have hN := number_yes r rb M.n o k w (by omega) (by omega) b c0
    have hG := get_some rb o k (M.n - o) (fun i => M.B (o + i)) w (by omega) (fun i => d _) (fun i hi => hb.cell (i := o + i) (by omega))
    have HN := Lib.hid hN
    have HG := Lib.hid hG
    clear hN hG hb hr d hsz he
    go_enter Try.func63, Try.ntmps63
    go_wp2_with (first | (go_at_call 65; refine HN.out.mono ?_; rintro e w' ⟨rfl, rfl⟩) | (go_at_call 42; refine HG.out.mono ?_; rintro e w' ⟨rfl, rfl⟩))
    go_ret2
    exact ⟨rfl, rfl⟩
  · have he : M.load off size = (0, false) := if_neg hs
    rw [he]
    have hN := number_no r rb M.n off size w hs b c0
    have HN := Lib.hid hN
    clear hN hb hr d hs he
    go_enter Try.func63, Try.ntmps63
    go_wp2_with (first | (go_at_call 65; refine HN.out.mono ?_; rintro e w' ⟨rfl, rfl⟩) | (go_at_call 42; refine (get_nil _).mono ?_; rintro e w' ⟨rfl, rfl⟩))
    go_ret2
    exact ⟨rfl, rfl⟩

end Go.Proofs.Ytalhdcjnaknglaa
