/- SerialPower returns true, whatever it is given. Condition: the numbers behind lie in memory, each fits its kind. -/
import Derived.Test.YtoeppbngogjbaaaSerN
namespace Go.Proofs.Ytoeppbngogjbaaa
open Go.RowKit

def PL (off size : Int) (b : Bool) : Prop := decide (off = 0 ∧ size = 4) = b
theorem pload_at (p : Value) (off size : Int) (b : Bool) (w : World) (h : PL off size b) :
    Calls Try.prog 18 #[p, .int .i64 off, .int .i64 size] w (Ends (.tuple #[.int .u64 0, .bool b]) fun w' => w = w') := by
  obtain rfl : decide (off = 0 ∧ size = 4) = b := h
  exact pload_any p off size w

theorem pow_cases (off size v : Int) : (off = 0 ∧ size = 4 ∧ powStore off size v false = (true, decide (v % 4294967296 = 21845))) ∨ (¬ (off = 0 ∧ size = 4) ∧ powStore off size v false = (false, false)) := by
  by_cases h : off = 0 ∧ size = 4
  · left
    refine ⟨h.1, h.2, ?_⟩
    unfold powStore
    rw [if_pos h, Bool.false_or]
  · right
    exact ⟨h, if_neg h⟩

/-- The switch in the midst of SerialPower. -/
def PowAt (W w : World) (o : Bool) : Prop := PowIn w W.heap.size W.heap.size (fun k => k = W.heap.size) o ∧ Below W.heap.size W w

theorem PowAt.store {W w : World} {o : Bool} (h : PowAt W w o) (v : Int) (h0 : 0 ≤ v) (h1 : v < 18446744073709551616) :
    Calls Try.prog 20 #[.pointer (some ⟨W.heap.size, 0, none⟩), .int .i64 0, .int .i64 4, .int .u64 v] w (Ends (.bool true) fun w' => PowAt W w' (o || (v % 4294967296 == 21845))) := by
  refine (pstore_any _ _ _ o 0 4 v w h0 h1 h.1).mono ?_
  rintro e w' ⟨rfl, hp, hm⟩
  have hs := h.2.size
  exact ⟨rfl, hp, h.2.trans (hm.toBelow hs fun k hk => by have : k = W.heap.size := hk; omega)⟩
theorem PowAt.off {W w : World} {o : Bool} (h : PowAt W w o) :
    Calls Try.prog 24 #[.pointer (some ⟨W.heap.size, 0, none⟩)] w (Ends (.bool o) fun w' => w = w') := off_any _ _ _ o w h.1
theorem PowAt.drewN {W w : World} {o : Bool} (h : PowAt W w o) (n : Nat) : PowAt W (w.drewN n) o := ⟨h.1, below_drewN h.2 n⟩

set_option maxHeartbeats 2000000 in
theorem power_any (off size v : Int) (a oa n cap : Nat) (f : Nat → Int) (W : World) (hv0 : 0 ≤ v) (hv1 : v < 18446744073709551616) (hla : a < W.heap.size) (_hmax : n ≤ 9223372036854775807)
    (hA : ∀ i, i < n → W.cell? ⟨a, oa + i, none⟩ = some (.int .u64 (f i))) (hf : ∀ i, i < n → 0 ≤ f i ∧ f i < 18446744073709551616) :
    Calls Try.prog 26 #[.int .i64 off, .int .i64 size, .int .u64 v, .slice (some ⟨a, oa, none⟩) n cap] W (Holds W) := by
  have hnew := newPower_any W (fun k => k = W.heap.size) rfl W.heap.size (Nat.le_refl _)
  have HN := Lib.hid hnew
  have HA := Lib.hid hA
  have HF := Lib.hid hf
  clear hnew hA hf
  have hcase : (∃ b o, powStore off size v false = (b, o) ∧ PL off size b ∧ (off = 0 ∧ size = 4 ∧ b = true ∧ o = true ∧ (v % 4294967296 == 21845) = true)) ∨ (∃ b o, powStore off size v false = (b, o) ∧ PL off size b ∧ (off = 0 ∧ size = 4 ∧ b = true ∧ o = false ∧ (v % 4294967296 == 21845) = false)) ∨
      (∃ b o, powStore off size v false = (b, o) ∧ PL off size b ∧ (off = 0 ∧ (size == 4) = false ∧ b = false ∧ o = false ∧ True)) ∨ (∃ b o, powStore off size v false = (b, o) ∧ PL off size b ∧ ((off == 0) = false ∧ True ∧ b = false ∧ o = false ∧ True)) := by
    rcases pow_cases off size v with ⟨h0, h4, he⟩ | ⟨hn, he⟩
    · have hd : decide (off = 0 ∧ size = 4) = true := decide_eq_true ⟨h0, h4⟩
      by_cases hz : v % 4294967296 = 21845
      · exact .inl ⟨_, _, he, hd, h0, h4, rfl, by simp [hz], by simp [hz]⟩
      · exact .inr (.inl ⟨_, _, he, hd, h0, h4, rfl, by simp [hz], by simp [hz]⟩)
    · have hd : decide (off = 0 ∧ size = 4) = false := decide_eq_false hn
      by_cases h0 : off = 0
      · exact .inr (.inr (.inl ⟨_, _, he, hd, h0, by rw [beq_eq_false_iff_ne]; exact fun h => hn ⟨h0, h⟩, rfl, rfl, trivial⟩))
      · exact .inr (.inr (.inr ⟨_, _, he, hd, by rw [beq_eq_false_iff_ne]; exact h0, trivial, rfl, rfl, trivial⟩))
  rcases hcase with ⟨b, o, he, hl, h1, h2, rfl, rfl, h3⟩ | ⟨b, o, he, hl, h1, h2, rfl, rfl, h3⟩ | ⟨b, o, he, hl, h1, h2, rfl, rfl, h3⟩ | ⟨b, o, he, hl, h1, h2, rfl, rfl, h3⟩
  all_goals
    have hE := Lib.hid he
    have hL := Lib.hid hl
    clear he hl
    try subst h1
    try subst h2
    go_enter Try.func26, Try.ntmps26
    go_wp2_with fail
    refine HN.out.mono ?_
    rintro e w1 ⟨rfl, hp1, hm1, hs1⟩
    have hz1 := hm1.size
    have Hb1 := Lib.hid (hm1.toBelow (Nat.le_refl _) fun _ h => h.elim)
    clear hm1 hs1
    go_wp2_with fail
    refine (pstore_at _ _ _ false _ _ _ v _ _ hv0 hv1 hp1 hE.out).mono ?_
    rintro e w2 ⟨rfl, hp2, hm2⟩
    have hP2 : PowAt W w2 _ := ⟨hp2, Hb1.out.trans (hm2.toBelow hz1 fun k hk => by have : k = W.heap.size := hk; omega)⟩
    clear hp2 hm2 hp1
    go_wp2_with fail
    refine (pload_at _ _ _ _ _ hL.out).mono ?_
    rintro e w2' ⟨rfl, rfl⟩
    go_wp2_with (go_at_call 24; refine hP2.off.mono ?_; rintro e w2' ⟨rfl, rfl⟩)
    go_loopw [14, 15] (fun was i wr => ∃ (k : Nat) (q : Bool), k ≤ n ∧ i = .int .i64 (k : Int) ∧ was = .bool q ∧ PowAt W wr q) (fun _ i _ => n - (intOf i).toNat)
    case atStart => exact ⟨0, _, Nat.zero_le _, rfl, rfl, hP2⟩
    case round =>
      obtain ⟨k, q, hk, rfl, rfl, hP⟩ := hrel
      by_cases hkn : k < n ∧ k < 100
      · obtain ⟨hkn, hk100⟩ := hkn
        have hca := HA.out k hkn
        have hg := HF.out k hkn
        have hg0 := hg.1
        have hg1 := hg.2
        have cc := (hP.2.cell (p := ⟨a, oa + k, none⟩) hla).trans hca
        generalize f k = z at *
        clear hg hca
        go_wp2_with fail
        refine (hP.store z hg0 hg1).mono ?_
        rintro e w5 ⟨rfl, hP5⟩
        have c5 := (hP5.2.cell (p := ⟨a, oa + k, none⟩) hla).trans ((hP.2.cell (p := ⟨a, oa + k, none⟩) hla).symm.trans cc)
        cases q
        all_goals
          go_wp2_with (go_at_call 24; refine hP5.off.mono ?_; rintro e w2' ⟨rfl, rfl⟩)
          go_roundw
          case rel => exact ⟨k + 1, _, by omega, by go_num, rfl, hP5⟩
          case measure => simp [intOf]; omega
      · have hb := hP.2
        by_cases hk2 : k < n
        · have hk3 : ¬ k < 100 := fun h => hkn ⟨hk2, h⟩
          go_wp2_with (go_at_call 5; refine (works_any _).mono ?_; rintro e w6 ⟨rfl, hw6⟩)
          go_ret
          exact ⟨rfl, hb.trans (hw6.mono hb.size)⟩
        · go_wp2_with (go_at_call 5; refine (works_any _).mono ?_; rintro e w6 ⟨rfl, hw6⟩)
          go_ret
          exact ⟨rfl, hb.trans (hw6.mono hb.size)⟩

end Go.Proofs.Ytoeppbngogjbaaa
