/- The interrupt controller as plain data: which source is the best, both ways of looking for it; bits and words. No program here. -/
import Derived.Test.YtalhdcjnaknglaaBase
import Derived.Laws.BitsAllLaws
namespace Go.Proofs.Ytalhdcjnaknglaa.Plc

/-- What a controller has: priorities, what is pending, what is served, what is enabled for a context, thresholds. -/
structure Pli where
  pri : Nat → Nat
  pend : Nat → Bool
  serv : Nat → Bool
  en : Nat → Nat → Bool
  thr : Nat → Nat

/-- The first n bits as a number. -/
def wordOf (f : Nat → Bool) : Nat → Nat
  | 0 => 0
  | n + 1 => (if f 0 then 1 else 0) + 2 * wordOf (fun k => f (k + 1)) n

theorem wordOf_lt (n : Nat) : ∀ f : Nat → Bool, wordOf f n < 2 ^ n := by
  induction n with
  | zero => intro f; simp [wordOf]
  | succ n ih =>
    intro f
    have := ih fun k => f (k + 1)
    simp only [wordOf, Nat.pow_succ]
    split <;> omega
theorem wordOf_congr (n : Nat) : ∀ f g : Nat → Bool, (∀ k, k < n → f k = g k) → wordOf f n = wordOf g n := by
  induction n with
  | zero => intro f g _; rfl
  | succ n ih =>
    intro f g h
    simp only [wordOf]
    rw [h 0 (by omega), ih _ _ fun k hk => h (k + 1) (by omega)]
theorem wordOf_of (n : Nat) : ∀ (x : Nat) (f : Nat → Bool), x < 2 ^ n → (∀ k, k < n → x.testBit k = f k) → x = wordOf f n := by
  induction n with
  | zero => intro x f h _; simp [wordOf] at *; omega
  | succ n ih =>
    intro x f h hk
    have h0 := hk 0 (by omega)
    have hi := ih (x / 2) (fun k => f (k + 1)) (by rw [Nat.pow_succ] at h; omega) fun k hk2 => by rw [← hk (k + 1) (by omega), Nat.testBit_succ]
    simp only [wordOf]
    rw [← hi, ← h0, Nat.testBit_zero]
    by_cases e : x % 2 = 1 <;> simp [e] <;> omega
theorem wordOf_test (n : Nat) : ∀ (f : Nat → Bool) (k : Nat), k < n → (wordOf f n).testBit k = f k := by
  induction n with
  | zero => intro f k h; omega
  | succ n ih =>
    intro f k h
    simp only [wordOf]
    rcases k with _ | k
    · rw [Nat.testBit_zero]
      cases f 0 <;> simp <;> omega
    · rw [Nat.testBit_succ, show ((if f 0 then 1 else 0) + 2 * wordOf (fun k => f (k + 1)) n) / 2 = wordOf (fun k => f (k + 1)) n from by split <;> omega]
      exact ih (fun k => f (k + 1)) k (by omega)

/-- A word of 32 bits: its bits are f's. -/
def Word (x : Nat) (f : Nat → Bool) : Prop := x < 4294967296 ∧ ∀ k, k < 32 → x.testBit k = f k
theorem Word.eq {x : Nat} {f : Nat → Bool} (h : Word x f) : x = wordOf f 32 := wordOf_of 32 x f h.1 h.2
theorem Word.congr {x : Nat} {f g : Nat → Bool} (h : Word x f) (e : ∀ k, k < 32 → f k = g k) : Word x g := ⟨h.1, fun k hk => (h.2 k hk).trans (e k hk)⟩
theorem Word.zero : Word 0 (fun _ => false) := ⟨by decide, fun k _ => Nat.zero_testBit k⟩
theorem Word.self (f : Nat → Bool) : Word (wordOf f 32) f := ⟨wordOf_lt 32 f, fun k hk => wordOf_test 32 f k hk⟩

/-- The loop that rises: the best so far, and what it is above. -/
def up (p : Nat → Bool) (pri : Nat → Nat) (above : Nat) : Nat → Nat × Nat
  | 0 => (0, above)
  | s + 1 => if p (s + 1) && decide (pri (s + 1) > (up p pri above s).2) then (s + 1, pri (s + 1)) else up p pri above s
def best (p : Nat → Bool) (pri : Nat → Nat) (above : Nat) : Nat := (up p pri above 31).1

theorem up_spec (p : Nat → Bool) (pri : Nat → Nat) (above n : Nat) :
    (up p pri above n).1 ≤ n ∧ above ≤ (up p pri above n).2 ∧ (∀ s, 1 ≤ s → s ≤ n → p s = true → pri s ≤ (up p pri above n).2) ∧
    ((up p pri above n).1 = 0 → (up p pri above n).2 = above) ∧
    (0 < (up p pri above n).1 → p (up p pri above n).1 = true ∧ pri (up p pri above n).1 = (up p pri above n).2 ∧ above < (up p pri above n).2 ∧ ∀ s, 1 ≤ s → s < (up p pri above n).1 → p s = true → pri s < (up p pri above n).2) := by
  induction n with
  | zero => simp only [up]; refine ⟨Nat.le_refl _, Nat.le_refl _, fun s h1 h2 => by omega, by simp, fun h => by omega⟩
  | succ n ih =>
    obtain ⟨i1, i2, i3, i4, i5⟩ := ih
    simp only [up]
    by_cases h : p (n + 1) && decide (pri (n + 1) > (up p pri above n).2)
    · rw [if_pos h]
      simp only [Bool.and_eq_true, decide_eq_true_eq] at h
      obtain ⟨h1, h2⟩ := h
      refine ⟨Nat.le_refl _, by dsimp only; omega, fun s hs1 hs2 hp => ?_, fun e => by dsimp only at e; omega, fun _ => ⟨h1, rfl, by dsimp only; omega, fun s hs1 hs2 hp => ?_⟩⟩
      · dsimp only
        by_cases e : s = n + 1
        · subst e; exact Nat.le_refl _
        · have := i3 s hs1 (by omega) hp; omega
      · dsimp only at hs2 ⊢
        have := i3 s hs1 (by omega) hp; omega
    · rw [if_neg h]
      refine ⟨by omega, i2, fun s hs1 hs2 hp => ?_, i4, i5⟩
      by_cases e : s = n + 1
      · subst e
        simp only [Bool.and_eq_true, decide_eq_true_eq, not_and] at h
        have := h hp; omega
      · exact i3 s hs1 (by omega) hp

/-- The reference's loop, which falls: behind the sources 31 to n + 1. -/
def down (p : Nat → Bool) (pri : Nat → Nat) : Nat → Nat
  | 0 => 0
  | k + 1 => if p (31 - k) && decide (0 < pri (31 - k)) && decide (pri (down p pri k) ≤ pri (31 - k)) then 31 - k else down p pri k

theorem down_spec (p : Nat → Bool) (pri : Nat → Nat) (k : Nat) (hk : k ≤ 31) :
    (down p pri k = 0 ∨ 31 - k < down p pri k ∧ down p pri k ≤ 31 ∧ p (down p pri k) = true ∧ 0 < pri (down p pri k)) ∧
    (∀ s, 31 - k < s → s ≤ 31 → p s = true → pri s ≤ pri (down p pri k)) ∧ (∀ s, 31 - k < s → s < down p pri k → p s = true → pri s < pri (down p pri k)) := by
  induction k with
  | zero => simp only [down]; exact ⟨by simp, fun s h1 h2 => by omega, fun s h1 h2 => by omega⟩
  | succ k ih =>
    obtain ⟨i1, i2, i3⟩ := ih (by omega)
    simp only [down]
    by_cases h : (p (31 - k) && decide (0 < pri (31 - k)) && decide (pri (down p pri k) ≤ pri (31 - k))) = true
    · rw [if_pos h]
      simp only [Bool.and_eq_true, decide_eq_true_eq] at h
      obtain ⟨⟨h1, h2⟩, h3⟩ := h
      refine ⟨.inr ⟨by omega, by omega, h1, h2⟩, fun s hs1 hs2 hp => ?_, fun s hs1 hs2 => by omega⟩
      by_cases e : s = 31 - k
      · subst e; exact Nat.le_refl _
      · have := i2 s (by omega) hs2 hp; omega
    · rw [if_neg h]
      have h : p (31 - k) = true → 0 < pri (31 - k) → ¬ pri (down p pri k) ≤ pri (31 - k) := fun a b c => h (by simp [a, b, c])
      refine ⟨by rcases i1 with i1 | ⟨i1, i4, i5⟩; exact .inl i1; exact .inr ⟨by omega, i4, i5⟩, fun s hs1 hs2 hp => ?_, fun s hs1 hs2 hp => ?_⟩
      · by_cases e : s = 31 - k
        · subst e
          by_cases hz : 0 < pri (31 - k)
          · have := h hp hz; omega
          · omega
        · exact i2 s (by omega) hs2 hp
      · by_cases e : s = 31 - k
        · subst e
          by_cases hz : 0 < pri (31 - k)
          · have := h hp hz; omega
          · rcases i1 with i1 | i1
            · omega
            · omega
        · exact i3 s (by omega) hs2 hp

theorem best_down (p : Nat → Bool) (pri : Nat → Nat) (h0 : pri 0 = 0) : down p pri 31 = best p pri 0 := by
  obtain ⟨u1, u2, u3, u4, u5⟩ := up_spec p pri 0 31
  obtain ⟨d1, d2, d3⟩ := down_spec p pri 31 (by omega)
  unfold best
  generalize hu : (up p pri 0 31).1 = u at *
  generalize hv : (up p pri 0 31).2 = v at *
  generalize down p pri 31 = d at *
  rcases d1 with rfl | ⟨d1, d4, d5, d6⟩
  · rcases Nat.eq_zero_or_pos u with rfl | hp
    · rfl
    · obtain ⟨a, b, c, _⟩ := u5 hp
      have := d2 u (by omega) u1 a
      omega
  · rcases Nat.eq_zero_or_pos u with rfl | hp
    · have := u3 d (by omega) d4 d5
      have := u4 rfl
      omega
    · obtain ⟨a, b, c, e⟩ := u5 hp
      have e1 := d2 u (by omega) u1 a
      have e2 := u3 d (by omega) d4 d5
      rcases Nat.lt_trichotomy d u with h | h | h
      · have := e d (by omega) h d5; omega
      · exact h
      · have := d3 u (by omega) h a; omega

theorem best_lt (p : Nat → Bool) (pri : Nat → Nat) (above : Nat) : best p pri above ≤ 31 := (up_spec p pri above 31).1
theorem best_pos (p : Nat → Bool) (pri : Nat → Nat) (above : Nat) (h : 0 < best p pri above) : p (best p pri above) = true ∧ above < pri (best p pri above) ∧ (∀ s, 1 ≤ s → s ≤ 31 → p s = true → pri s ≤ pri (best p pri above)) ∧ ∀ s, 1 ≤ s → s < best p pri above → p s = true → pri s < pri (best p pri above) := by
  obtain ⟨u1, u2, u3, u4, u5⟩ := up_spec p pri above 31
  obtain ⟨a, b, c, d⟩ := u5 h
  unfold best at *
  rw [b]
  exact ⟨a, c, u3, d⟩
theorem best_zero (p : Nat → Bool) (pri : Nat → Nat) (above : Nat) (h : best p pri above = 0) : ∀ s, 1 ≤ s → s ≤ 31 → p s = true → pri s ≤ above := by
  obtain ⟨u1, u2, u3, u4, u5⟩ := up_spec p pri above 31
  have := u4 h
  intro s h1 h2 hp
  have := u3 s h1 h2 hp
  omega

/-- What may be claimed. -/
def Pli.may (S : Pli) (ctx : Nat) : Nat → Bool := fun s => S.pend s && S.en ctx s
def Pli.best (S : Pli) (ctx : Nat) : Nat := Go.Proofs.Ytalhdcjnaknglaa.Plc.best (S.may ctx) S.pri 0
def Pli.claim (S : Pli) (ctx : Nat) : Nat × Pli :=
  (S.best ctx, if 0 < S.best ctx then { S with pend := fun s => S.pend s && s != S.best ctx, serv := fun s => S.serv s || s == S.best ctx } else S)
def Pli.lines (S : Pli) (m : Nat) : Pli := { S with pend := fun s => m.testBit s && !(s == 0 || S.serv s) }
def Pli.pending (S : Pli) (ctx : Int) : Bool := if ctx = 0 ∨ ctx = 1 then decide (0 < Go.Proofs.Ytalhdcjnaknglaa.Plc.best (S.may ctx.toNat) S.pri (S.thr ctx.toNat)) else false

/-- What register stands at an offset: its kind (0: none, 1: priority, 2: pending, 3: enabled, 4: threshold, 5: claimed), and of which source, or context. -/
def which (off size : Int) : Nat × Nat :=
  if size = 4 ∧ 0 ≤ off then
    if off < 128 ∧ off % 4 = 0 then (1, off.toNat / 4)
    else if off = 4096 then (2, 0) else if off = 8192 then (3, 0) else if off = 8320 then (3, 1) else if off = 2097152 then (4, 0) else if off = 2101248 then (4, 1) else if off = 2097156 then (5, 0) else if off = 2101252 then (5, 1) else (0, 0)
  else (0, 0)

def Pli.load (S : Pli) (off size : Int) : (Nat × Bool) × Pli :=
  match which off size with
  | (1, n) => ((S.pri n, true), S)
  | (2, _) => ((wordOf S.pend 32, true), S)
  | (3, n) => ((wordOf (S.en n) 32, true), S)
  | (4, n) => ((S.thr n, true), S)
  | (5, n) => (((S.claim n).1, true), (S.claim n).2)
  | _ => ((0, false), S)

def Pli.setPri (S : Pli) (n v : Nat) : Pli := if 0 < n then { S with pri := fun s => if s = n then v % 8 else S.pri s } else S
def Pli.setEn (S : Pli) (n v : Nat) : Pli := { S with en := fun c s => if c = n then v.testBit s && s != 0 && decide (s < 32) else S.en c s }
def Pli.setThr (S : Pli) (n v : Nat) : Pli := { S with thr := fun c => if c = n then v % 8 else S.thr c }
def Pli.complete (S : Pli) (n v : Nat) : Pli := if v % 4294967296 < 32 then { S with serv := fun s => S.serv s && !(s == v % 4294967296 && S.en n s) } else S
def Pli.store (S : Pli) (off size : Int) (v : Nat) : Bool × Pli :=
  match which off size with
  | (1, n) => (true, S.setPri n v)
  | (2, _) => (true, S)
  | (3, n) => (true, S.setEn n v)
  | (4, n) => (true, S.setThr n v)
  | (5, n) => (true, S.complete n v)
  | _ => (false, S)

def Pli.zero : Pli := ⟨fun _ => 0, fun _ => false, fun _ => false, fun _ _ => false, fun _ => 0⟩

/-- What is always so. -/
structure Pli.Ok (S : Pli) : Prop where
  pri : ∀ s, S.pri s ≤ 7
  pri0 : S.pri 0 = 0
  thr : ∀ c, S.thr c ≤ 7
  pend : S.pend 0 = false
  en : ∀ c, S.en c 0 = false

theorem Pli.Ok.zero : Pli.zero.Ok := ⟨fun _ => Nat.zero_le _, rfl, fun _ => Nat.zero_le _, rfl, fun _ => rfl⟩
theorem Pli.Ok.lines {S : Pli} (h : S.Ok) (m : Nat) : (S.lines m).Ok := ⟨h.pri, h.pri0, h.thr, by simp [Pli.lines], h.en⟩
theorem Pli.Ok.claim {S : Pli} (h : S.Ok) (c : Nat) : (S.claim c).2.Ok := by
  unfold Pli.claim
  dsimp only
  split
  · exact ⟨h.pri, h.pri0, h.thr, by simp [h.pend], h.en⟩
  · exact h
theorem Pli.Ok.load {S : Pli} (h : S.Ok) (off size : Int) : (S.load off size).2.Ok := by
  unfold Pli.load
  split <;> first | exact h | exact h.claim _
theorem Pli.Ok.store {S : Pli} (h : S.Ok) (off size : Int) (v : Nat) : (S.store off size v).2.Ok := by
  unfold Pli.store
  split
  · unfold Pli.setPri
    dsimp only
    split
    · refine ⟨fun s => ?_, ?_, h.thr, h.pend, h.en⟩
      · dsimp only
        split
        · omega
        · exact h.pri s
      · dsimp only
        rw [if_neg (by omega)]
        exact h.pri0
    · exact h
  · exact h
  · refine ⟨h.pri, h.pri0, h.thr, h.pend, fun c => ?_⟩
    simp only [Pli.setEn]
    split
    · simp
    · exact h.en c
  · refine ⟨h.pri, h.pri0, fun c => ?_, h.pend, h.en⟩
    simp only [Pli.setThr]
    split
    · omega
    · exact h.thr c
  · unfold Pli.complete
    dsimp only
    split
    · exact ⟨h.pri, h.pri0, h.thr, h.pend, h.en⟩
    · exact h
  · exact h

theorem Pli.claim_lt (S : Pli) (c : Nat) : (S.claim c).1 ≤ 31 := best_lt _ _ _

end Go.Proofs.Ytalhdcjnaknglaa.Plc
