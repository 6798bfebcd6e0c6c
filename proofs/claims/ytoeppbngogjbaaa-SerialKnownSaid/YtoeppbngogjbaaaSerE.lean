/- Store of the program's UART: what it answers and leaves, at any offset, size and number. No condition but that a UART lies there. -/
import Derived.Test.YtoeppbngogjbaaaSerD
namespace Go.Proofs.Ytoeppbngogjbaaa
open Go.RowKit

theorem info_u8 : (Try.prog.info? 5).map (fun i => (i.zero, i.size, i.bytes)) = some (some (.int .u8 0), 1, 1) := by kernel_rfl

/-- What a store answers, and leaves. -/
def serStore (off size v : Int) (s : Ser) : Bool × Ser :=
  if size = 1 ∧ 0 ≤ off ∧ off ≤ 7 then
    (true, if off = 0 then { s with told := some (v % 256) } else if off = 1 then { s with en := decide (v % 2 = 1) } else s)
  else (false, s)

theorem store_no (b : Nat) (off size v : Int) (w : World) (h : ¬ InReg off size) :
    Calls Try.prog 16 #[.pointer (some ⟨b, 0, none⟩), .int .i64 off, .int .i64 size, .int .u64 v] w (Ends (.bool false) fun w' => w = w') := by
  go_enter Try.func16, Try.ntmps16
  go_wp2_with (go_at_call 31; refine (there_no _ _ _ h).mono ?_; rintro e w' ⟨rfl, rfl⟩)
  go_ret
  exact ⟨rfl, rfl⟩

theorem store_else (b : Nat) (off v : Int) (w : World) (h0 : 0 ≤ off) (h7 : off ≤ 7) (n0 : (off == 0) = false) (n1 : (off == 1) = false) :
    Calls Try.prog 16 #[.pointer (some ⟨b, 0, none⟩), .int .i64 off, .int .i64 1, .int .u64 v] w (Ends (.bool true) fun w' => w = w') := by
  go_enter Try.func16, Try.ntmps16
  go_wp2_with (go_at_call 31; refine (there_yes _ _ _ ⟨rfl, by omega, by omega⟩).mono ?_; rintro e w' ⟨rfl, rfl⟩)
  go_ret
  exact ⟨rfl, rfl⟩

set_option maxHeartbeats 400000 in
theorem store_1 (base b : Nat) (D : Nat → Prop) (s : Ser) (v : Int) (w : World) (hv0 : 0 ≤ v) (hv1 : v < 18446744073709551616) (hu : UartIn w base b D s) :
    Calls Try.prog 16 #[.pointer (some ⟨b, 0, none⟩), .int .i64 1, .int .i64 1, .int .u64 v] w (Ends (.bool true) fun w' => UartIn w' base b D { s with en := decide (v % 2 = 1) } ∧ Mod D w w') := by
  obtain ⟨hD, hbase, q, first, tv, hrow, hl, hf, hq, hb, ht⟩ := hu
  have c18 := hrow.cell (i := 18) (by omega)
  rw [uf_18] at c18
  have fr := fun o => hrow.frozen o
  have H2 := Lib.hid hq
  have H3 := Lib.hid hb
  have H4 := Lib.hid hrow
  clear hq hb hrow
  go_enter Try.func16, Try.ntmps16
  go_wp2_with (go_at_call 31; refine (there_yes _ _ _ ⟨rfl, by omega, by omega⟩).mono ?_; rintro e w' ⟨rfl, rfl⟩)
  go_ret
  rw [show bits BinOp.and IntKind.u64 v 1 = v % 2 from and_one_u64 v hv0 (by omega)]
  have hm : Mod (fun k => k = b) w (w.setCell { block := b, off := 18 } (Value.bool (v % 2 == 1))) := (Mod.refl (fun k => k = b) w).setCell (.inl rfl) _
  refine ⟨rfl, ⟨hD, hbase, q, first, tv, (H4.out.set _ _).congr ?_, hl, hf, H2.out, H3.out, toldIn_keep ht hm (fun g _ hg _ => hg) (fun g _ h => h)⟩, hm.mono (fun k _ hk => by rw [hk]; exact hD)⟩
  intro i hi
  simp only [uf]
  by_cases e1 : i = 18
  · subst e1; simp only [if_pos]; rfl
  · simp only [if_neg e1]

set_option maxHeartbeats 400000 in
theorem store_0 (base b : Nat) (D : Nat → Prop) (s : Ser) (v : Int) (w : World) (_hv0 : 0 ≤ v) (_hv1 : v < 18446744073709551616) (hu : UartIn w base b D s) :
    Calls Try.prog 16 #[.pointer (some ⟨b, 0, none⟩), .int .i64 0, .int .i64 1, .int .u64 v] w (Ends (.bool true) fun w' => UartIn w' base b (more D w) { s with told := some (v % 256) } ∧ Mod D w w') := by
  obtain ⟨hD, hbase, q, first, tv, hrow, hl, hf, hq, hb, ht⟩ := hu
  have c19 := hrow.cell (i := 19) (by omega)
  rw [uf_19] at c19
  have fr := fun o => hrow.frozen o
  have hlt := hrow.lt
  have H2 := Lib.hid hq
  have H3 := Lib.hid hb
  have H4 := Lib.hid hrow
  clear hq hb hrow
  obtain ⟨i0, hi, hz0, hz1, hz2⟩ := info_parts info_u8
  have hcut : ∃ A c, w.ownsRow base 5 1 (.slice A 0 c) 0 [] ∧ (∀ g, (Value.slice A 0 c).ownBlock = some g → D g ∧ g ≠ b) ∧ ∃ n, tv = .slice A n c ∧ n ≤ c := by
    unfold ToldIn at ht
    split at ht
    · subst ht
      exact ⟨none, 0, World.ownsRow_nil _ _ _ _, by simp [Value.ownBlock], 0, rfl, Nat.le_refl _⟩
    · obtain ⟨_, _, ho, hg⟩ := ht
      obtain ⟨g, cap, rfl, h1, h2⟩ := ho.form (by omega)
      exact ⟨_, cap, (owns_cut0 ho).1, hg, 1, rfl, (owns_cut0 ho).2⟩
  obtain ⟨A, c, ho, hg, n, rfl, hnc⟩ := hcut
  have H5 := Lib.hid hg
  clear hg ht
  go_enter Try.func16, Try.ntmps16
  go_wp2_with (first | (go_at_call 31; refine (there_yes _ _ _ ⟨rfl, by omega, by omega⟩).mono ?_; rintro e w' ⟨rfl, rfl⟩) | (at_builtin; refine wpList_append_lies _ rfl _ _ 39 rfl base 5 i0 (.int .u8 0) 1 1 Try.underlying39 hi hz0 hz1 hz2 rfl (by decide) _ 0 [] rfl (ho.alloc _) ⟨w.heap.size, 0, none⟩ 1 1 [.int .u8 (v % 256)] rfl rfl ?c1 ?c2 (by decide) ?c3 ?c4 ?c5 _ rfl ?_; rotate_right; intro g' cap' w1 hown hgrow hwhere hlt'; have hr1 := grown_row (H4.out.alloc _) hgrow (fun e => (H5.out b e).2 rfl); have hcell := hr1.cell (i := 19) (by omega); have hfz := hr1.frozen 19; have H6 := Lib.hid hr1; clear hr1 c19 fr; rw [uf_19] at hcell))
  case c1 => exact cell_one_new _ _ _
  case c2 => intro u hu; rw [List.mem_singleton] at hu; subst hu; rfl
  case c3 => simp [maxLen]
  case c4 => omega
  case c5 => rw [World.size_alloc]; omega
  go_ret
  have hg' : (D g' ∧ g' ≠ b) ∨ g' = w.heap.size + 1 := by
    rcases hwhere with h | h
    · exact .inl (H5.out g' h)
    · rw [World.size_alloc] at h; exact .inr h
  have hgb : g' ≠ b := by
    rcases hg' with h | h
    · exact h.2
    · omega
  have hm : Mod D w (w1.setCell { block := b, off := 19 } (Value.slice (some { block := g', off := 0 }) 1 cap')) :=
    (((Mod.refl D w).alloc _).grown hgrow (fun k hk => .inl (H5.out k hk).1)).setCell (.inl hD) _
  refine ⟨rfl, ⟨.inl hD, hbase, q, first, _, (H6.out.set _ _).congr ?_, hl, hf, H2.out, H3.out, by show 0 ≤ v % 256; omega, by show v % 256 < 256; omega, owns_setCell hown ?_ _, ?_⟩, hm⟩
  · intro i hi
    simp only [uf]
    by_cases e1 : i = 19
    · subst e1; rfl
    · have h3 : ¬ (¬ i < 16 ∧ i ≠ 16 ∧ i ≠ 17 ∧ i ≠ 18) := by omega
      rw [if_neg e1]
      split
      · rfl
      · split
        · rfl
        · split
          · rfl
          · split
            · rfl
            · omega
  · intro g hg
    have hg : g' = g := by simpa [Value.ownBlock] using hg
    subst hg
    exact hgb
  · intro g hg
    have hg : g' = g := by simpa [Value.ownBlock] using hg
    subst hg
    refine ⟨?_, hgb⟩
    rcases hg' with h | h
    · exact .inl h.1
    · exact .inr (by omega)

theorem store_any (base b : Nat) (D : Nat → Prop) (s : Ser) (off size v : Int) (w : World) (hv0 : 0 ≤ v) (hv1 : v < 18446744073709551616) (hu : UartIn w base b D s) :
    Calls Try.prog 16 #[.pointer (some ⟨b, 0, none⟩), .int .i64 off, .int .i64 size, .int .u64 v] w
      (Ends (.bool (serStore off size v s).1) fun w' => UartIn w' base b (more D w) (serStore off size v s).2 ∧ Mod D w w') := by
  have hmore : UartIn w base b (more D w) s := uartIn_keep hu (Mod.refl Nil w) (fun _ _ _ h => h) (fun _ _ h => .inl h)
  by_cases h : InReg off size
  · obtain ⟨rfl, h0, h7⟩ := h
    unfold serStore
    rw [if_pos ⟨rfl, h0, h7⟩]
    by_cases e0 : off = 0
    · subst e0
      exact store_0 base b D s v w hv0 hv1 hu
    · by_cases e1 : off = 1
      · subst e1
        exact (store_1 base b D s v w hv0 hv1 hu).mono fun e w' ⟨he, h1, h2⟩ => ⟨he, uartIn_keep h1 (Mod.refl Nil w') (fun _ _ _ h => h) (fun _ _ h => .inl h), h2⟩
      · refine (store_else b off v w h0 h7 (by simpa using e0) (by simpa using e1)).mono fun e w' ⟨he, hw⟩ => ⟨he, ?_⟩
        subst hw
        rw [if_neg e0, if_neg e1]
        exact ⟨hmore, Mod.refl _ _⟩
  · unfold serStore
    rw [if_neg (show ¬ (size = 1 ∧ 0 ≤ off ∧ off ≤ 7) from h)]
    refine (store_no b off size v w h).mono fun e w' ⟨he, hw⟩ => ⟨he, ?_⟩
    subst hw
    exact ⟨hmore, Mod.refl _ _⟩

end Go.Proofs.Ytoeppbngogjbaaa
