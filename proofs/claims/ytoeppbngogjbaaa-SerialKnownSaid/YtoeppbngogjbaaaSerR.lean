/- SerialTells returns true of any offsets, sizes and numbers, none of the lists empty, and any byte. Condition: they lie in memory, each fits its kind. -/
import Derived.Test.YtoeppbngogjbaaaSerQ
namespace Go.Proofs.Ytoeppbngogjbaaa
open Go.RowKit
attribute [local go_sem ↓] Go.wp_at_zero Go.wp_at_succ

/-- One UART, which owns all that is new. -/
def One (W w : World) (s : Ser) : Prop := W.heap.size < w.heap.size ∧ UartIn w W.heap.size W.heap.size (fun k => W.heap.size ≤ k) s ∧ Below W.heap.size W w

section
variable {W w : World} {s s' : Ser}
theorem One.u {f : FuncId} {args : Array Value} {v : Value} (h : One W w s) (hc : ∀ D, UartIn w W.heap.size W.heap.size D s → Calls Try.prog f args w (Ends v fun w' => UartIn w' W.heap.size W.heap.size (more D w) s' ∧ Mod D w w')) :
    Calls Try.prog f args w (Ends v fun w' => One W w' s') := by
  obtain ⟨hz, hu, hb⟩ := h
  refine (hc _ hu).mono ?_
  rintro e w' ⟨rfl, hu', hm⟩
  refine ⟨rfl, Nat.lt_of_lt_of_le hz hm.size, uartIn_keep hu' (Mod.refl Nil _) (fun _ _ _ h => h) ?_, hb.trans (hm.toBelow hb.size fun _ h => h)⟩
  rintro g _ (h | h)
  · exact h
  · omega
theorem One.drewN (h : One W w s) (n : Nat) : One W (w.drewN n) s := ⟨h.1, h.2.1, below_drewN h.2.2 n⟩
theorem One.drew (h : One W w s) : One W w.drew s := h.drewN 1
theorem One.store (h : One W w s) (off size v : Int) (ok : Bool) (h0 : 0 ≤ v) (h1 : v < 18446744073709551616) (he : serStore off size v s = (ok, s')) :
    Calls Try.prog 16 #[.pointer (some ⟨W.heap.size, 0, none⟩), .int .i64 off, .int .i64 size, .int .u64 v] w (Ends (.bool ok) fun w' => One W w' s') :=
  h.u fun D hu => store_at _ _ D s s' off size v ok w h0 h1 hu he
theorem One.output (h : One W w s) : Calls Try.prog 12 #[.pointer (some ⟨W.heap.size, 0, none⟩)] w (Ends (.int .i64 (s.told.getD (-1))) fun w' => One W w' { s with told := none }) :=
  h.u fun D hu => (output_at _ _ D s w hu).mono fun _ _ ⟨he, h1, h2⟩ => ⟨he, uartIn_more h1 _, h2⟩
theorem One.of (h : One W w s) (off x : Int) (ok : Bool) (he : serLoad off 1 s = (x, ok, s')) :
    Calls Try.prog 30 #[.pointer (some ⟨W.heap.size, 0, none⟩), .int .i64 off] w (Ends (.int .u64 x) fun w' => One W w' s') :=
  h.u fun D hu => (of_at _ _ D s s' off x ok w hu he).mono fun _ _ ⟨he, h1, h2⟩ => ⟨he, uartIn_more h1 _, h2⟩
theorem One.waits (h : One W w s) : Calls Try.prog 22 #[.pointer (some ⟨W.heap.size, 0, none⟩)] w (Ends (.int .i64 s.L.length) fun w' => w = w') := waits_any _ _ _ s w h.2.1
/-- The register 1, read. -/
theorem One.enabled (h : One W w s) : Calls Try.prog 30 #[.pointer (some ⟨W.heap.size, 0, none⟩), .int .i64 1] w fun e w' => e = .returned (.int .u64 (if s.en then 1 else 0)) ∧ w' = w := by
  have hL := load_1 _ _ _ s w h.2.1
  obtain ⟨L, en, told⟩ := s
  have HL := Lib.hid hL
  clear hL h
  cases en
  all_goals
    go_enter Try.func30, Try.ntmps30
    go_wp2_with (go_at_call 14; refine HL.out.mono ?_; rintro e w' ⟨rfl, rfl⟩)
    go_ret
    exact ⟨rfl, rfl⟩
end

theorem st_no {off size v : Int} {s : Ser} (h : ¬ (size = 1 ∧ 0 ≤ off ∧ off ≤ 7)) : serStore off size v s = (false, s) := if_neg h
theorem st_0 (v : Int) (s : Ser) : serStore 0 1 v s = (true, { s with told := some (v % 256) }) := rfl
theorem st_1 (v : Int) (s : Ser) (b : Bool) (h : decide (v % 2 = 1) = b) : serStore 1 1 v s = (true, { s with en := b }) := by subst h; rfl
theorem st_n {off v : Int} {s : Ser} (h0 : 2 ≤ off) (h7 : off ≤ 7) : serStore off 1 v s = (true, s) := by
  unfold serStore
  rw [if_pos ⟨rfl, by omega, h7⟩, if_neg (by omega), if_neg (by omega)]

set_option maxHeartbeats 8000000 in
set_option maxRecDepth 100000 in
theorem tells_any (a oa n ca b ob m cb d od l cd : Nat) (f g h : Nat → Int) (x0 : Int) (W : World) (_hn : n ≤ 9223372036854775807) (_hm : m ≤ 9223372036854775807) (_hl : l ≤ 9223372036854775807) (hla : a < W.heap.size) (hlb : b < W.heap.size) (hld : d < W.heap.size) (hx0 : 0 ≤ x0) (hx1 : x0 < 256)
    (hA : ∀ i, i < n → W.cell? ⟨a, oa + i, none⟩ = some (.int .i64 (f i))) (hB : ∀ i, i < m → W.cell? ⟨b, ob + i, none⟩ = some (.int .i64 (g i))) (hD : ∀ i, i < l → 0 ≤ h i ∧ h i < 18446744073709551616 ∧ W.cell? ⟨d, od + i, none⟩ = some (.int .u64 (h i))) :
    Calls Try.prog 29 #[.slice (some ⟨a, oa, none⟩) n ca, .slice (some ⟨b, ob, none⟩) m cb, .slice (some ⟨d, od, none⟩) l cd, .int .u8 x0] W (Holds W) := by
  have hnew := new_any W (fun k => W.heap.size ≤ k) (Nat.le_refl _) W.heap.size (Nat.le_refl _)
  have HN := Lib.hid hnew
  have HA := Lib.hid hA
  have HB := Lib.hid hB
  have HD := Lib.hid hD
  clear hnew hA hB hD
  go_enter Try.func29, Try.ntmps29
  go_wp2_with fail
  refine HN.out.mono ?_
  rintro e w1 ⟨rfl, hu1, hm1, hs1⟩
  have hO1 : One W w1 ⟨[], false, none⟩ := ⟨by omega, hu1, hm1.toBelow (Nat.le_refl _) fun _ h => h.elim⟩
  clear hu1 hm1 hs1
  go_wp2_with fail
  refine (hO1.u (s' := ⟨[x0], false, none⟩) fun D hu => (input_ok _ _ D _ x0 w1 hx0 hx1 (by decide) hu).mono fun _ _ ⟨he, h1, h2⟩ => ⟨he, uartIn_more h1 _, h2⟩).mono ?_
  rintro e w2 ⟨rfl, hO2⟩
  have HO := Lib.hid hO2
  clear hO1 hO2
  go_wp2_with fail
  go_loopw [10, 11] (fun want i wr => ∃ (k : Nat) (s : Ser), k ≤ l ∧ i = .int .i64 (k : Int) ∧ want = .int .i64 (s.told.getD (-1)) ∧ s.L = [x0] ∧ One W wr s) (fun _ i _ => l - (intOf i).toNat)
  case atStart => exact ⟨0, ⟨[x0], false, none⟩, Nat.zero_le _, rfl, rfl, rfl, HO.out⟩
  case round =>
    obtain ⟨k, s, hk, rfl, rfl, hsL, hO⟩ := hrel
    have HsL := Lib.hid hsL
    clear hsL
    by_cases hgo : k < l ∧ k < n ∧ k < m ∧ k < 300
    · obtain ⟨hkl, hkn, hkm, hk3⟩ := hgo
      have hDk := HD.out k hkl
      have z0 := hDk.1
      have z1 := hDk.2.1
      have c1 := (hO.2.2.cell (p := ⟨a, oa + k, none⟩) hla).trans (HA.out k hkn)
      have c2 := (hO.2.2.cell (p := ⟨b, ob + k, none⟩) hlb).trans (HB.out k hkm)
      have c3 := (hO.2.2.cell (p := ⟨d, od + k, none⟩) hld).trans hDk.2.2
      have i0 : (0 : Int) ≤ (k : Int) := by omega
      have i1 : (k : Int) < (n : Int) := by omega
      have i2 : (k : Int) < (m : Int) := by omega
      have i3 : (k : Int) < (l : Int) := by omega
      generalize f k = x at *
      generalize g k = y at *
      generalize h k = z at *
      clear hDk
      have hcase : (y == 1) = false ∨ (y = 1 ∧ x < 0) ∨ (y = 1 ∧ 7 < x) ∨ (y = 1 ∧ x = 0) ∨ (y = 1 ∧ x = 1 ∧ z % 2 = 1) ∨ (y = 1 ∧ x = 1 ∧ z % 2 = 0) ∨ (y = 1 ∧ 2 ≤ x ∧ x ≤ 7) := by
        rw [beq_eq_false_iff_ne]; omega
      have hthird : ((k : Int) % 3 == 0) = true ∨ ((k : Int) % 3 == 0) = false := by cases ((k : Int) % 3 == 0) <;> simp
      rcases hcase with hy | ⟨rfl, hx⟩ | ⟨rfl, hx⟩ | ⟨rfl, rfl⟩ | ⟨rfl, rfl, hz⟩ | ⟨rfl, rfl, hz⟩ | ⟨rfl, hx, hx7⟩
      · go_wp2_with fail
        go_region_held3 (fun w' => w'.cell? ⟨a, oa + k, none⟩ = some (.int .i64 x) ∧ w'.cell? ⟨b, ob + k, none⟩ = some (.int .i64 y) ∧ w'.cell? ⟨d, od + k, none⟩ = some (.int .u64 z)) (first | exact ⟨(hO3.2.2.cell (p := ⟨a, oa + k, none⟩) hla).trans ((hO.2.2.cell (p := ⟨a, oa + k, none⟩) hla).symm.trans c1), (hO3.2.2.cell (p := ⟨b, ob + k, none⟩) hlb).trans ((hO.2.2.cell (p := ⟨b, ob + k, none⟩) hlb).symm.trans c2), (hO3.2.2.cell (p := ⟨d, od + k, none⟩) hld).trans ((hO.2.2.cell (p := ⟨d, od + k, none⟩) hld).symm.trans c3)⟩ | go_keep) (first | (go_at_call 16; refine (hO.drew.store _ _ z false z0 z1 (st_no (fun h => by rw [beq_eq_false_iff_ne] at hy; exact hy h.1))).mono ?_; rintro e w3 ⟨rfl, hO3⟩))
        have d1 := (hO3.2.2.cell (p := ⟨a, oa + k, none⟩) hla).trans ((hO.2.2.cell (p := ⟨a, oa + k, none⟩) hla).symm.trans c1)
        have d2 := (hO3.2.2.cell (p := ⟨b, ob + k, none⟩) hlb).trans ((hO.2.2.cell (p := ⟨b, ob + k, none⟩) hlb).symm.trans c2)
        have d3 := (hO3.2.2.cell (p := ⟨d, od + k, none⟩) hld).trans ((hO.2.2.cell (p := ⟨d, od + k, none⟩) hld).symm.trans c3)
        go_wp2_with (go_at_call 22; refine hO3.waits.mono ?_; rw [show (((s : Ser).L.length : Int)) = 1 from by rw [HsL.out]; rfl]; rintro e w4 ⟨rfl, rfl⟩)
        go_quiet (fail)
        rcases hthird with h3 | h3
        · go_wp2_with (go_at_call 12; refine (hO3.drewN _).output.mono ?_; rintro e w5 ⟨rfl, hO5⟩)
          go_roundw
          case rel => exact ⟨k + 1, ({ (s : Ser) with told := none } : Ser), by omega, by go_num, rfl, HsL.out, hO5⟩
          case measure => simp [intOf]; omega
        · go_wp2
          go_roundw
          case rel => exact ⟨k + 1, (s : Ser), by omega, by go_num, rfl, HsL.out, hO3.drewN _⟩
          case measure => simp [intOf]; omega
      · go_wp2_with fail
        go_region_held3 (fun w' => w'.cell? ⟨a, oa + k, none⟩ = some (.int .i64 x) ∧ w'.cell? ⟨b, ob + k, none⟩ = some (.int .i64 1) ∧ w'.cell? ⟨d, od + k, none⟩ = some (.int .u64 z)) (first | exact ⟨(hO3.2.2.cell (p := ⟨a, oa + k, none⟩) hla).trans ((hO.2.2.cell (p := ⟨a, oa + k, none⟩) hla).symm.trans c1), (hO3.2.2.cell (p := ⟨b, ob + k, none⟩) hlb).trans ((hO.2.2.cell (p := ⟨b, ob + k, none⟩) hlb).symm.trans c2), (hO3.2.2.cell (p := ⟨d, od + k, none⟩) hld).trans ((hO.2.2.cell (p := ⟨d, od + k, none⟩) hld).symm.trans c3)⟩ | go_keep) (first | (go_at_call 16; refine (hO.drew.store _ _ z false z0 z1 (st_no (fun h => by omega))).mono ?_; rintro e w3 ⟨rfl, hO3⟩))
        have d1 := (hO3.2.2.cell (p := ⟨a, oa + k, none⟩) hla).trans ((hO.2.2.cell (p := ⟨a, oa + k, none⟩) hla).symm.trans c1)
        have d2 := (hO3.2.2.cell (p := ⟨b, ob + k, none⟩) hlb).trans ((hO.2.2.cell (p := ⟨b, ob + k, none⟩) hlb).symm.trans c2)
        have d3 := (hO3.2.2.cell (p := ⟨d, od + k, none⟩) hld).trans ((hO.2.2.cell (p := ⟨d, od + k, none⟩) hld).symm.trans c3)
        go_wp2_with (go_at_call 22; refine hO3.waits.mono ?_; rw [show (((s : Ser).L.length : Int)) = 1 from by rw [HsL.out]; rfl]; rintro e w4 ⟨rfl, rfl⟩)
        go_quiet (fail)
        rcases hthird with h3 | h3
        · go_wp2_with (go_at_call 12; refine (hO3.drewN _).output.mono ?_; rintro e w5 ⟨rfl, hO5⟩)
          go_roundw
          case rel => exact ⟨k + 1, ({ (s : Ser) with told := none } : Ser), by omega, by go_num, rfl, HsL.out, hO5⟩
          case measure => simp [intOf]; omega
        · go_wp2
          go_roundw
          case rel => exact ⟨k + 1, (s : Ser), by omega, by go_num, rfl, HsL.out, hO3.drewN _⟩
          case measure => simp [intOf]; omega
      · have hx2 : ¬ x < 8 := by omega
        go_wp2_with fail
        go_region_held3 (fun w' => w'.cell? ⟨a, oa + k, none⟩ = some (.int .i64 x) ∧ w'.cell? ⟨b, ob + k, none⟩ = some (.int .i64 1) ∧ w'.cell? ⟨d, od + k, none⟩ = some (.int .u64 z)) (first | exact ⟨(hO3.2.2.cell (p := ⟨a, oa + k, none⟩) hla).trans ((hO.2.2.cell (p := ⟨a, oa + k, none⟩) hla).symm.trans c1), (hO3.2.2.cell (p := ⟨b, ob + k, none⟩) hlb).trans ((hO.2.2.cell (p := ⟨b, ob + k, none⟩) hlb).symm.trans c2), (hO3.2.2.cell (p := ⟨d, od + k, none⟩) hld).trans ((hO.2.2.cell (p := ⟨d, od + k, none⟩) hld).symm.trans c3)⟩ | go_keep) (first | (go_at_call 16; refine (hO.drew.store _ _ z false z0 z1 (st_no (fun h => by omega))).mono ?_; rintro e w3 ⟨rfl, hO3⟩))
        have d1 := (hO3.2.2.cell (p := ⟨a, oa + k, none⟩) hla).trans ((hO.2.2.cell (p := ⟨a, oa + k, none⟩) hla).symm.trans c1)
        have d2 := (hO3.2.2.cell (p := ⟨b, ob + k, none⟩) hlb).trans ((hO.2.2.cell (p := ⟨b, ob + k, none⟩) hlb).symm.trans c2)
        have d3 := (hO3.2.2.cell (p := ⟨d, od + k, none⟩) hld).trans ((hO.2.2.cell (p := ⟨d, od + k, none⟩) hld).symm.trans c3)
        go_wp2_with (go_at_call 22; refine hO3.waits.mono ?_; rw [show (((s : Ser).L.length : Int)) = 1 from by rw [HsL.out]; rfl]; rintro e w4 ⟨rfl, rfl⟩)
        go_quiet (fail)
        rcases hthird with h3 | h3
        · go_wp2_with (go_at_call 12; refine (hO3.drewN _).output.mono ?_; rintro e w5 ⟨rfl, hO5⟩)
          go_roundw
          case rel => exact ⟨k + 1, ({ (s : Ser) with told := none } : Ser), by omega, by go_num, rfl, HsL.out, hO5⟩
          case measure => simp [intOf]; omega
        · go_wp2
          go_roundw
          case rel => exact ⟨k + 1, (s : Ser), by omega, by go_num, rfl, HsL.out, hO3.drewN _⟩
          case measure => simp [intOf]; omega
      · go_wp2_with fail
        go_region_held3 (fun w' => w'.cell? ⟨a, oa + k, none⟩ = some (.int .i64 0) ∧ w'.cell? ⟨b, ob + k, none⟩ = some (.int .i64 1) ∧ w'.cell? ⟨d, od + k, none⟩ = some (.int .u64 z)) (first | exact ⟨(hO3.2.2.cell (p := ⟨a, oa + k, none⟩) hla).trans ((hO.2.2.cell (p := ⟨a, oa + k, none⟩) hla).symm.trans c1), (hO3.2.2.cell (p := ⟨b, ob + k, none⟩) hlb).trans ((hO.2.2.cell (p := ⟨b, ob + k, none⟩) hlb).symm.trans c2), (hO3.2.2.cell (p := ⟨d, od + k, none⟩) hld).trans ((hO.2.2.cell (p := ⟨d, od + k, none⟩) hld).symm.trans c3)⟩ | go_keep) (first | (go_at_call 16; refine (hO.drew.store _ _ z true z0 z1 (st_0 z s)).mono ?_; rintro e w3 ⟨rfl, hO3⟩))
        have d1 := (hO3.2.2.cell (p := ⟨a, oa + k, none⟩) hla).trans ((hO.2.2.cell (p := ⟨a, oa + k, none⟩) hla).symm.trans c1)
        have d2 := (hO3.2.2.cell (p := ⟨b, ob + k, none⟩) hlb).trans ((hO.2.2.cell (p := ⟨b, ob + k, none⟩) hlb).symm.trans c2)
        have d3 := (hO3.2.2.cell (p := ⟨d, od + k, none⟩) hld).trans ((hO.2.2.cell (p := ⟨d, od + k, none⟩) hld).symm.trans c3)
        go_wp2_with (go_at_call 22; refine hO3.waits.mono ?_; rw [show ((({ s with told := some (z % 256) } : Ser).L.length : Int)) = 1 from by rw [HsL.out]; rfl]; rintro e w4 ⟨rfl, rfl⟩)
        go_quiet (fail)
        rcases hthird with h3 | h3
        · go_wp2_with (go_at_call 12; refine (hO3.drewN _).output.mono ?_; rintro e w5 ⟨rfl, hO5⟩)
          go_roundw
          case rel => exact ⟨k + 1, ({ ({ s with told := some (z % 256) } : Ser) with told := none } : Ser), by omega, by go_num, rfl, HsL.out, hO5⟩
          case measure => simp [intOf]; omega
        · go_wp2
          go_roundw
          case rel => exact ⟨k + 1, ({ s with told := some (z % 256) } : Ser), by omega, by go_num, rfl, HsL.out, hO3.drewN _⟩
          case measure => simp [intOf]; omega
      · have HST := Lib.hid (st_1 z s true (by simp [hz]))
        go_wp2_with fail
        go_region_held3 (fun w' => w'.cell? ⟨a, oa + k, none⟩ = some (.int .i64 1) ∧ w'.cell? ⟨b, ob + k, none⟩ = some (.int .i64 1) ∧ w'.cell? ⟨d, od + k, none⟩ = some (.int .u64 z)) (first | exact ⟨(hO3.2.2.cell (p := ⟨a, oa + k, none⟩) hla).trans ((hO.2.2.cell (p := ⟨a, oa + k, none⟩) hla).symm.trans c1), (hO3.2.2.cell (p := ⟨b, ob + k, none⟩) hlb).trans ((hO.2.2.cell (p := ⟨b, ob + k, none⟩) hlb).symm.trans c2), (hO3.2.2.cell (p := ⟨d, od + k, none⟩) hld).trans ((hO.2.2.cell (p := ⟨d, od + k, none⟩) hld).symm.trans c3)⟩ | go_keep) (first | (go_at_call 16; refine (hO.drew.store _ _ z true z0 z1 HST.out).mono ?_; rintro e w3 ⟨rfl, hO3⟩))
        have d1 := (hO3.2.2.cell (p := ⟨a, oa + k, none⟩) hla).trans ((hO.2.2.cell (p := ⟨a, oa + k, none⟩) hla).symm.trans c1)
        have d2 := (hO3.2.2.cell (p := ⟨b, ob + k, none⟩) hlb).trans ((hO.2.2.cell (p := ⟨b, ob + k, none⟩) hlb).symm.trans c2)
        have d3 := (hO3.2.2.cell (p := ⟨d, od + k, none⟩) hld).trans ((hO.2.2.cell (p := ⟨d, od + k, none⟩) hld).symm.trans c3)
        go_wp2_with (go_at_call 22; refine hO3.waits.mono ?_; rw [show ((({ s with en := true } : Ser).L.length : Int)) = 1 from by rw [HsL.out]; rfl]; rintro e w4 ⟨rfl, rfl⟩)
        go_quiet ((go_at_call 30; exact Calls.quiet_of_same (hO3.drewN _).enabled))
        rcases hthird with h3 | h3
        · go_wp2_with (go_at_call 12; refine (hO3.drewN _).output.mono ?_; rintro e w5 ⟨rfl, hO5⟩)
          go_roundw
          case rel => exact ⟨k + 1, ({ ({ s with en := true } : Ser) with told := none } : Ser), by omega, by go_num, rfl, HsL.out, hO5⟩
          case measure => simp [intOf]; omega
        · go_wp2
          go_roundw
          case rel => exact ⟨k + 1, ({ s with en := true } : Ser), by omega, by go_num, rfl, HsL.out, hO3.drewN _⟩
          case measure => simp [intOf]; omega
      · have HST := Lib.hid (st_1 z s false (by simp [hz]))
        go_wp2_with fail
        go_region_held3 (fun w' => w'.cell? ⟨a, oa + k, none⟩ = some (.int .i64 1) ∧ w'.cell? ⟨b, ob + k, none⟩ = some (.int .i64 1) ∧ w'.cell? ⟨d, od + k, none⟩ = some (.int .u64 z)) (first | exact ⟨(hO3.2.2.cell (p := ⟨a, oa + k, none⟩) hla).trans ((hO.2.2.cell (p := ⟨a, oa + k, none⟩) hla).symm.trans c1), (hO3.2.2.cell (p := ⟨b, ob + k, none⟩) hlb).trans ((hO.2.2.cell (p := ⟨b, ob + k, none⟩) hlb).symm.trans c2), (hO3.2.2.cell (p := ⟨d, od + k, none⟩) hld).trans ((hO.2.2.cell (p := ⟨d, od + k, none⟩) hld).symm.trans c3)⟩ | go_keep) (first | (go_at_call 16; refine (hO.drew.store _ _ z true z0 z1 HST.out).mono ?_; rintro e w3 ⟨rfl, hO3⟩))
        have d1 := (hO3.2.2.cell (p := ⟨a, oa + k, none⟩) hla).trans ((hO.2.2.cell (p := ⟨a, oa + k, none⟩) hla).symm.trans c1)
        have d2 := (hO3.2.2.cell (p := ⟨b, ob + k, none⟩) hlb).trans ((hO.2.2.cell (p := ⟨b, ob + k, none⟩) hlb).symm.trans c2)
        have d3 := (hO3.2.2.cell (p := ⟨d, od + k, none⟩) hld).trans ((hO.2.2.cell (p := ⟨d, od + k, none⟩) hld).symm.trans c3)
        go_wp2_with (go_at_call 22; refine hO3.waits.mono ?_; rw [show ((({ s with en := false } : Ser).L.length : Int)) = 1 from by rw [HsL.out]; rfl]; rintro e w4 ⟨rfl, rfl⟩)
        go_quiet ((go_at_call 30; exact Calls.quiet_of_same (hO3.drewN _).enabled))
        rcases hthird with h3 | h3
        · go_wp2_with (go_at_call 12; refine (hO3.drewN _).output.mono ?_; rintro e w5 ⟨rfl, hO5⟩)
          go_roundw
          case rel => exact ⟨k + 1, ({ ({ s with en := false } : Ser) with told := none } : Ser), by omega, by go_num, rfl, HsL.out, hO5⟩
          case measure => simp [intOf]; omega
        · go_wp2
          go_roundw
          case rel => exact ⟨k + 1, ({ s with en := false } : Ser), by omega, by go_num, rfl, HsL.out, hO3.drewN _⟩
          case measure => simp [intOf]; omega
      · have e0 : (x == 0) = false := by rw [beq_eq_false_iff_ne]; omega
        have e1 : (x == 1) = false := by rw [beq_eq_false_iff_ne]; omega
        go_wp2_with fail
        go_region_held3 (fun w' => w'.cell? ⟨a, oa + k, none⟩ = some (.int .i64 x) ∧ w'.cell? ⟨b, ob + k, none⟩ = some (.int .i64 1) ∧ w'.cell? ⟨d, od + k, none⟩ = some (.int .u64 z)) (first | exact ⟨(hO3.2.2.cell (p := ⟨a, oa + k, none⟩) hla).trans ((hO.2.2.cell (p := ⟨a, oa + k, none⟩) hla).symm.trans c1), (hO3.2.2.cell (p := ⟨b, ob + k, none⟩) hlb).trans ((hO.2.2.cell (p := ⟨b, ob + k, none⟩) hlb).symm.trans c2), (hO3.2.2.cell (p := ⟨d, od + k, none⟩) hld).trans ((hO.2.2.cell (p := ⟨d, od + k, none⟩) hld).symm.trans c3)⟩ | go_keep) (first | (go_at_call 16; refine (hO.drew.store _ _ z true z0 z1 (st_n hx hx7)).mono ?_; rintro e w3 ⟨rfl, hO3⟩))
        have d1 := (hO3.2.2.cell (p := ⟨a, oa + k, none⟩) hla).trans ((hO.2.2.cell (p := ⟨a, oa + k, none⟩) hla).symm.trans c1)
        have d2 := (hO3.2.2.cell (p := ⟨b, ob + k, none⟩) hlb).trans ((hO.2.2.cell (p := ⟨b, ob + k, none⟩) hlb).symm.trans c2)
        have d3 := (hO3.2.2.cell (p := ⟨d, od + k, none⟩) hld).trans ((hO.2.2.cell (p := ⟨d, od + k, none⟩) hld).symm.trans c3)
        go_wp2_with (go_at_call 22; refine hO3.waits.mono ?_; rw [show (((s : Ser).L.length : Int)) = 1 from by rw [HsL.out]; rfl]; rintro e w4 ⟨rfl, rfl⟩)
        go_quiet (fail)
        rcases hthird with h3 | h3
        · go_wp2_with (go_at_call 12; refine (hO3.drewN _).output.mono ?_; rintro e w5 ⟨rfl, hO5⟩)
          go_roundw
          case rel => exact ⟨k + 1, ({ (s : Ser) with told := none } : Ser), by omega, by go_num, rfl, HsL.out, hO5⟩
          case measure => simp [intOf]; omega
        · go_wp2
          go_roundw
          case rel => exact ⟨k + 1, (s : Ser), by omega, by go_num, rfl, HsL.out, hO3.drewN _⟩
          case measure => simp [intOf]; omega
    · have hcase : (¬ k < l) ∨ (k < l ∧ ¬ k < n) ∨ (k < l ∧ k < n ∧ ¬ k < m) ∨ (k < l ∧ k < n ∧ k < m ∧ ¬ k < 300) := by omega
      obtain ⟨L, en, told⟩ := s
      have hL : L = [x0] := HsL.out
      subst hL
      rcases hcase with h1 | ⟨h1, h2⟩ | ⟨h1, h2, h3⟩ | ⟨h1, h2, h3, h4⟩
      all_goals
        go_wp2_with fail
        refine hO.output.mono ?_
        rintro e w5 ⟨rfl, hO5⟩
        go_wp2_with fail
        refine (hO5.of 0 x0 true (sl_pop x0 [] en none)).mono ?_
        rintro e w6 ⟨rfl, hO6⟩
        go_wp2_with fail
        refine (works_any w6).mono ?_
        rintro e w7 ⟨rfl, hw7⟩
        go_wp2_with fail
        go_ret
        exact ⟨rfl, hO6.2.2.trans (hw7.mono hO6.2.2.size)⟩

end Go.Proofs.Ytoeppbngogjbaaa
