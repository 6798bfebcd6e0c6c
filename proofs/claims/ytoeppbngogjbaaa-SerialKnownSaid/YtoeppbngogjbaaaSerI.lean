/- Load and Store of the reference's UART at any offset and size. No condition but that a UART lies there. -/
import Derived.Test.YtoeppbngogjbaaaSerH
namespace Go.Proofs.Ytoeppbngogjbaaa
open Go.RowKit

theorem ruartIn_more {w : World} {base b : Nat} {D : Nat → Prop} {s : Ser} (h : RUartIn w base b D s) (W : World) : RUartIn w base b (more D W) s :=
  ruartIn_keep h (Mod.refl Nil w) (fun _ _ _ h => h) (fun _ _ h => .inl h)
theorem uartIn_more {w : World} {base b : Nat} {D : Nat → Prop} {s : Ser} (h : UartIn w base b D s) (W : World) : UartIn w base b (more D W) s :=
  uartIn_keep h (Mod.refl Nil w) (fun _ _ _ h => h) (fun _ _ h => .inl h)

theorem rload_any (base b : Nat) (D : Nat → Prop) (s : Ser) (off size : Int) (w : World) (hu : RUartIn w base b D s) :
    Calls Try.prog 15 #[.pointer (some ⟨b, 0, none⟩), .int .i64 off, .int .i64 size] w
      (Ends (.tuple #[.int .u64 (serLoad off size s).1, .bool (serLoad off size s).2.1]) fun w' => RUartIn w' base b (more D w) (serLoad off size s).2.2 ∧ Mod D w w') := by
  have same : ∀ {P : Prop} {v1 v2 : Value} {s' : Ser} (_ : v1 = v2) (_ : s' = s), Calls Try.prog 15 #[.pointer (some ⟨b, 0, none⟩), .int .i64 off, .int .i64 size] w (Ends v1 fun w' => w = w') →
      Calls Try.prog 15 #[.pointer (some ⟨b, 0, none⟩), .int .i64 off, .int .i64 size] w (Ends v2 fun w' => RUartIn w' base b (more D w) s' ∧ Mod D w w') := by
    intro _ v1 v2 s' hv hs hc
    subst hv hs
    exact hc.mono fun e w' ⟨he, hw⟩ => ⟨he, by subst hw; exact ⟨ruartIn_more hu _, Mod.refl _ _⟩⟩
  by_cases h : InReg off size
  · obtain ⟨rfl, h0, h7⟩ := h
    unfold serLoad
    rw [if_pos ⟨rfl, h0, h7⟩]
    by_cases e0 : off = 0
    · subst e0
      rw [if_pos rfl]
      obtain ⟨L, en, told⟩ := s
      cases L with
      | nil => exact same (P := True) rfl rfl (rload_0n base b D _ w rfl hu)
      | cons c L => exact rload_0c base b D en told c L w hu
    · rw [if_neg e0]
      by_cases e1 : off = 1
      · subst e1
        rw [if_pos rfl]
        exact same (P := True) rfl rfl (rload_1 base b D _ w hu)
      · rw [if_neg e1]
        by_cases e5 : off = 5
        · subst e5
          rw [if_pos rfl]
          exact same (P := True) rfl rfl (rload_5 base b D _ w hu)
        · rw [if_neg e5]
          exact same (P := True) rfl rfl (rload_else _ off w h0 h7 (by simpa using e0) (by simpa using e1) (by simpa using e5))
  · unfold serLoad
    rw [if_neg (show ¬ (size = 1 ∧ 0 ≤ off ∧ off ≤ 7) from h)]
    exact same (P := True) rfl rfl (rload_no _ off size w h)

theorem rstore_no (p : Value) (off size v : Int) (w : World) (h : ¬ InReg off size) :
    Calls Try.prog 17 #[p, .int .i64 off, .int .i64 size, .int .u64 v] w (Ends (.bool false) fun w' => w = w') := by
  unfold InReg at h
  by_cases h1 : size = 1
  · subst h1
    by_cases h2 : off < 0
    · go_enter Try.func17, Try.ntmps17
      go_wp2
      go_ret
      exact ⟨rfl, rfl⟩
    · have h3 : 7 < off := by omega
      go_enter Try.func17, Try.ntmps17
      go_wp2
      go_ret
      exact ⟨rfl, rfl⟩
  · clear h
    go_enter Try.func17, Try.ntmps17
    go_wp2
    go_ret
    exact ⟨rfl, rfl⟩

theorem rstore_else (p : Value) (off v : Int) (w : World) (h0 : 0 ≤ off) (h7 : off ≤ 7) (n0 : (off == 0) = false) (n1 : (off == 1) = false) :
    Calls Try.prog 17 #[p, .int .i64 off, .int .i64 1, .int .u64 v] w (Ends (.bool true) fun w' => w = w') := by
  go_enter Try.func17, Try.ntmps17
  go_wp2
  go_ret
  exact ⟨rfl, rfl⟩

theorem rstore_1 (base b : Nat) (D : Nat → Prop) (s : Ser) (v : Int) (w : World) (_hv0 : 0 ≤ v) (_hv1 : v < 18446744073709551616) (hu : RUartIn w base b D s) :
    Calls Try.prog 17 #[.pointer (some ⟨b, 0, none⟩), .int .i64 1, .int .i64 1, .int .u64 v] w (Ends (.bool true) fun w' => RUartIn w' base b D { s with en := decide (v % 2 = 1) } ∧ Mod D w w') := by
  obtain ⟨hD, hbase, lv, hrow, ho, hg, hl, hb⟩ := hu
  have c1 := hrow.cell (i := 1) (by omega)
  rw [show ∀ lv en t, rf lv en t 1 = .bool en from fun _ _ _ => rfl] at c1
  have fr := fun o => hrow.frozen o
  have H4 := Lib.hid hrow
  have H5 := Lib.hid hg
  have H6 := Lib.hid hb
  clear hrow hg hb
  go_enter Try.func17, Try.ntmps17
  go_wp2
  go_ret
  refine ⟨rfl, ⟨hD, hbase, lv, (H4.out.set _ _).congr ?_, owns_setCell ho (fun g e => (H5.out g e).2) _, H5.out, hl, H6.out⟩, (Mod.refl D w).setCell (.inl hD) _⟩
  intro i hi
  obtain rfl | rfl | rfl : i = 0 ∨ i = 1 ∨ i = 2 := by omega
  all_goals rfl

theorem rstore_0 (base b : Nat) (D : Nat → Prop) (s : Ser) (v : Int) (w : World) (_hv0 : 0 ≤ v) (_hv1 : v < 18446744073709551616) (hu : RUartIn w base b D s) :
    Calls Try.prog 17 #[.pointer (some ⟨b, 0, none⟩), .int .i64 0, .int .i64 1, .int .u64 v] w (Ends (.bool true) fun w' => RUartIn w' base b D { s with told := some (v % 256) } ∧ Mod D w w') := by
  obtain ⟨hD, hbase, lv, hrow, ho, hg, hl, hb⟩ := hu
  have c2 := hrow.cell (i := 2) (by omega)
  rw [show ∀ lv en t, rf lv en t 2 = .int .i64 t from fun _ _ _ => rfl] at c2
  have fr := fun o => hrow.frozen o
  have H4 := Lib.hid hrow
  have H5 := Lib.hid hg
  have H6 := Lib.hid hb
  clear hrow hg hb
  go_enter Try.func17, Try.ntmps17
  go_wp2
  go_ret
  refine ⟨rfl, ⟨hD, hbase, lv, (H4.out.set _ _).congr ?_, owns_setCell ho (fun g e => (H5.out g e).2) _, H5.out, hl, H6.out⟩, (Mod.refl D w).setCell (.inl hD) _⟩
  intro i hi
  obtain rfl | rfl | rfl : i = 0 ∨ i = 1 ∨ i = 2 := by omega
  all_goals rfl

theorem rstore_any (base b : Nat) (D : Nat → Prop) (s : Ser) (off size v : Int) (w : World) (hv0 : 0 ≤ v) (hv1 : v < 18446744073709551616) (hu : RUartIn w base b D s) :
    Calls Try.prog 17 #[.pointer (some ⟨b, 0, none⟩), .int .i64 off, .int .i64 size, .int .u64 v] w
      (Ends (.bool (serStore off size v s).1) fun w' => RUartIn w' base b D (serStore off size v s).2 ∧ Mod D w w') := by
  by_cases h : InReg off size
  · obtain ⟨rfl, h0, h7⟩ := h
    unfold serStore
    rw [if_pos ⟨rfl, h0, h7⟩]
    by_cases e0 : off = 0
    · subst e0
      exact rstore_0 base b D s v w hv0 hv1 hu
    · by_cases e1 : off = 1
      · subst e1
        exact rstore_1 base b D s v w hv0 hv1 hu
      · refine (rstore_else _ off v w h0 h7 (by simpa using e0) (by simpa using e1)).mono fun e w' ⟨he, hw⟩ => ⟨he, ?_⟩
        subst hw
        rw [if_neg e0, if_neg e1]
        exact ⟨hu, Mod.refl _ _⟩
  · unfold serStore
    rw [if_neg (show ¬ (size = 1 ∧ 0 ≤ off ∧ off ≤ 7) from h)]
    refine (rstore_no _ off size v w h).mono fun e w' ⟨he, hw⟩ => ⟨he, ?_⟩
    subst hw
    exact ⟨hu, Mod.refl _ _⟩

end Go.Proofs.Ytoeppbngogjbaaa
