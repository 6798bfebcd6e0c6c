/- Load of the program's UART: what it answers and leaves, at any offset and size. No condition but that a UART lies there. -/
import Derived.Test.YtoeppbngogjbaaaSerC
namespace Go.Proofs.Ytoeppbngogjbaaa
open Go.RowKit

def InReg (off size : Int) : Prop := size = 1 ∧ 0 ≤ off ∧ off ≤ 7

theorem there_yes (off size : Int) (w : World) (h : InReg off size) :
    Calls Try.prog 31 #[.int .i64 off, .int .i64 size] w (Ends (.bool true) fun w' => w = w') :=
  (there_any off size w).mono fun e w' ⟨he, hw⟩ => ⟨by rw [he, decide_eq_true (show size = 1 ∧ 0 ≤ off ∧ off ≤ 7 from h)], hw⟩
theorem there_no (off size : Int) (w : World) (h : ¬ InReg off size) :
    Calls Try.prog 31 #[.int .i64 off, .int .i64 size] w (Ends (.bool false) fun w' => w = w') :=
  (there_any off size w).mono fun e w' ⟨he, hw⟩ => ⟨by rw [he, decide_eq_false (show ¬ (size = 1 ∧ 0 ≤ off ∧ off ≤ 7) from h)], hw⟩

/-- What a load answers, and leaves. -/
def serLoad (off size : Int) (s : Ser) : Int × Bool × Ser :=
  if size = 1 ∧ 0 ≤ off ∧ off ≤ 7 then
    if off = 0 then (match s.L with | [] => (0, true, s) | c :: L => (c, true, { s with L := L }))
    else if off = 1 then (if s.en then 1 else 0, true, s)
    else if off = 5 then (if s.L.length = 0 then 96 else 97, true, s)
    else (0, true, s)
  else (0, false, s)

theorem load_no (b : Nat) (off size : Int) (w : World) (h : ¬ InReg off size) :
    Calls Try.prog 14 #[.pointer (some ⟨b, 0, none⟩), .int .i64 off, .int .i64 size] w (Ends (.tuple #[.int .u64 0, .bool false]) fun w' => w = w') := by
  go_enter Try.func14, Try.ntmps14
  go_wp2_with (go_at_call 31; refine (there_no _ _ _ h).mono ?_; rintro e w' ⟨rfl, rfl⟩)
  go_ret2
  exact ⟨rfl, rfl⟩

theorem load_0n (base b : Nat) (D : Nat → Prop) (s : Ser) (w : World) (hs : s.L = []) (hu : UartIn w base b D s) :
    Calls Try.prog 14 #[.pointer (some ⟨b, 0, none⟩), .int .i64 0, .int .i64 1] w (Ends (.tuple #[.int .u64 0, .bool true]) fun w' => w = w') := by
  have H := Lib.hid hs
  clear hs
  go_enter Try.func14, Try.ntmps14
  go_wp2_with (first | (go_at_call 31; refine (there_yes _ _ _ ⟨rfl, by omega, by omega⟩).mono ?_; rintro e w' ⟨rfl, rfl⟩) | (go_at_call 32; refine (next_none base b D s _ H.out hu).mono ?_; rintro e w' ⟨rfl, rfl⟩))
  go_ret2
  exact ⟨rfl, rfl⟩

theorem load_0c (base b : Nat) (D : Nat → Prop) (en : Bool) (told : Option Int) (c : Int) (L : List Int) (w : World) (hu : UartIn w base b D ⟨c :: L, en, told⟩) :
    Calls Try.prog 14 #[.pointer (some ⟨b, 0, none⟩), .int .i64 0, .int .i64 1] w (Ends (.tuple #[.int .u64 c, .bool true]) fun w' => UartIn w' base b D ⟨L, en, told⟩ ∧ Mod D w w') := by
  have hc : 0 ≤ c ∧ c < 256 := by
    obtain ⟨_, _, q, first, v, hrow, hl, hf, hq, hb, ht⟩ := hu
    exact hb c (by simp)
  have hc0 := hc.1
  have hc1 := hc.2
  clear hc
  go_enter Try.func14, Try.ntmps14
  go_wp2_with (first | (go_at_call 31; refine (there_yes _ _ _ ⟨rfl, by omega, by omega⟩).mono ?_; rintro e w' ⟨rfl, rfl⟩) | (go_at_call 32; refine (next_some base b D en told c L _ hu).mono ?_; rintro e w' ⟨rfl, hu', hm⟩))
  go_ret2
  exact ⟨rfl, hu', hm⟩

theorem load_1 (base b : Nat) (D : Nat → Prop) (s : Ser) (w : World) (hu : UartIn w base b D s) :
    Calls Try.prog 14 #[.pointer (some ⟨b, 0, none⟩), .int .i64 1, .int .i64 1] w (Ends (.tuple #[.int .u64 (if s.en then 1 else 0), .bool true]) fun w' => w = w') := by
  obtain ⟨hD, hbase, q, first, v, hrow, hl, hf, hq, hb, ht⟩ := hu
  have c18 := hrow.cell (i := 18) (by omega)
  rw [uf_18] at c18
  clear hq hb hrow
  obtain ⟨L, en, told⟩ := s
  cases en
  all_goals
   go_enter Try.func14, Try.ntmps14
   go_wp2_with (first | (go_at_call 31; refine (there_yes _ _ _ ⟨rfl, by omega, by omega⟩).mono ?_; rintro e w' ⟨rfl, rfl⟩) | (go_at_call 33; refine (one_any _ _).mono ?_; rintro e w' ⟨rfl, rfl⟩))
   go_ret2
   exact ⟨rfl, rfl⟩

theorem load_5 (base b : Nat) (D : Nat → Prop) (s : Ser) (w : World) (hu : UartIn w base b D s) :
    Calls Try.prog 14 #[.pointer (some ⟨b, 0, none⟩), .int .i64 5, .int .i64 1] w (Ends (.tuple #[.int .u64 (if s.L.length = 0 then 96 else 97), .bool true]) fun w' => w = w') := by
  by_cases hs : s.L.length = 0
  all_goals
    go_enter Try.func14, Try.ntmps14
    go_wp2_with (first | (go_at_call 31; refine (there_yes _ _ _ ⟨rfl, by omega, by omega⟩).mono ?_; rintro e w' ⟨rfl, rfl⟩) | (go_at_call 22; refine (waits_any base b D s _ hu).mono ?_; rintro e w' ⟨rfl, rfl⟩) | (go_at_call 33; refine (one_any _ _).mono ?_; rintro e w' ⟨rfl, rfl⟩))
    go_ret2
    exact ⟨by simp, rfl⟩

theorem load_else (b : Nat) (off : Int) (w : World) (h0 : 0 ≤ off) (h7 : off ≤ 7) (n0 : (off == 0) = false) (n1 : (off == 1) = false) (n5 : (off == 5) = false) :
    Calls Try.prog 14 #[.pointer (some ⟨b, 0, none⟩), .int .i64 off, .int .i64 1] w (Ends (.tuple #[.int .u64 0, .bool true]) fun w' => w = w') := by
  go_enter Try.func14, Try.ntmps14
  go_wp2_with (first | (go_at_call 31; refine (there_yes _ _ _ ⟨rfl, by omega, by omega⟩).mono ?_; rintro e w' ⟨rfl, rfl⟩))
  go_ret2
  exact ⟨rfl, rfl⟩

/-- Load, whatever it is asked. -/
theorem load_any (base b : Nat) (D : Nat → Prop) (s : Ser) (off size : Int) (w : World) (hu : UartIn w base b D s) :
    Calls Try.prog 14 #[.pointer (some ⟨b, 0, none⟩), .int .i64 off, .int .i64 size] w
      (Ends (.tuple #[.int .u64 (serLoad off size s).1, .bool (serLoad off size s).2.1]) fun w' => UartIn w' base b D (serLoad off size s).2.2 ∧ Mod D w w') := by
  have same : ∀ {P : Prop} {v1 v2 : Value} {s' : Ser} (_ : v1 = v2) (_ : s' = s), Calls Try.prog 14 #[.pointer (some ⟨b, 0, none⟩), .int .i64 off, .int .i64 size] w (Ends v1 fun w' => w = w') →
      Calls Try.prog 14 #[.pointer (some ⟨b, 0, none⟩), .int .i64 off, .int .i64 size] w (Ends v2 fun w' => UartIn w' base b D s' ∧ Mod D w w') := by
    intro _ v1 v2 s' hv hs hc
    subst hv hs
    exact hc.mono fun e w' ⟨he, hw⟩ => ⟨he, by subst hw; exact ⟨hu, Mod.refl _ _⟩⟩
  by_cases h : InReg off size
  · obtain ⟨rfl, h0, h7⟩ := h
    unfold serLoad
    rw [if_pos ⟨rfl, h0, h7⟩]
    by_cases e0 : off = 0
    · subst e0
      rw [if_pos rfl]
      obtain ⟨L, en, told⟩ := s
      cases L with
      | nil => exact same (P := True) rfl rfl (load_0n base b D _ w rfl hu)
      | cons c L => exact load_0c base b D en told c L w hu
    · rw [if_neg e0]
      by_cases e1 : off = 1
      · subst e1
        rw [if_pos rfl]
        exact same (P := True) rfl rfl (load_1 base b D _ w hu)
      · rw [if_neg e1]
        by_cases e5 : off = 5
        · subst e5
          rw [if_pos rfl]
          exact same (P := True) rfl rfl (load_5 base b D _ w hu)
        · rw [if_neg e5]
          exact same (P := True) rfl rfl (load_else b off w h0 h7 (by simpa using e0) (by simpa using e1) (by simpa using e5))
  · unfold serLoad
    rw [if_neg (show ¬ (size = 1 ∧ 0 ≤ off ∧ off ≤ 7) from h)]
    exact same (P := True) rfl rfl (load_no b off size w h)

end Go.Proofs.Ytoeppbngogjbaaa
