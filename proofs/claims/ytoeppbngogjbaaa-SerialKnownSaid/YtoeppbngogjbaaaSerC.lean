/- Waits, the next byte, and Output of the program's UART: what each answers and leaves. No condition but that a UART lies there. -/
import Derived.Test.YtoeppbngogjbaaaSerB
import Derived.Deep.AppendLies
namespace Go.Proofs.Ytoeppbngogjbaaa
open Go.RowKit

theorem waits_any (base b : Nat) (D : Nat → Prop) (s : Ser) (w : World) (hu : UartIn w base b D s) :
    Calls Try.prog 22 #[.pointer (some ⟨b, 0, none⟩)] w (Ends (.int .i64 s.L.length) fun w' => w = w') := by
  obtain ⟨hD, hbase, q, first, v, hrow, hl, hf, hq, hb, ht⟩ := hu
  have c17 := hrow.cell (i := 17) (by omega)
  rw [uf_17] at c17
  clear hq hb hrow
  go_enter Try.func22, Try.ntmps22
  go_wp2
  go_ret
  exact ⟨rfl, rfl⟩

theorem next_none (base b : Nat) (D : Nat → Prop) (s : Ser) (w : World) (hs : s.L = []) (hu : UartIn w base b D s) :
    Calls Try.prog 32 #[.pointer (some ⟨b, 0, none⟩)] w (Ends (.int .u8 0) fun w' => w = w') := by
  obtain ⟨hD, hbase, q, first, v, hrow, hl, hf, hq, hb, ht⟩ := hu
  have c17 := hrow.cell (i := 17) (by omega)
  rw [uf_17, hs] at c17
  clear hq hb hrow hs
  go_enter Try.func32, Try.ntmps32
  go_wp2
  go_ret
  exact ⟨rfl, rfl⟩

set_option maxHeartbeats 400000 in
theorem next_some (base b : Nat) (D : Nat → Prop) (en : Bool) (told : Option Int) (c : Int) (L : List Int) (w : World) (hu : UartIn w base b D ⟨c :: L, en, told⟩) :
    Calls Try.prog 32 #[.pointer (some ⟨b, 0, none⟩)] w (Ends (.int .u8 c) fun w' => UartIn w' base b D ⟨L, en, told⟩ ∧ Mod D w w') := by
  obtain ⟨hD, hbase, q, first, v, hrow, hl, hf, hq, hb, ht⟩ := hu
  obtain ⟨n, hn⟩ : ∃ n, n = L.length := ⟨_, rfl⟩
  have c17 := hrow.cell (i := 17) (by omega)
  have c16 := hrow.cell (i := 16) (by omega)
  have ci := hrow.cell (i := first) (by omega)
  have hn1 : (((c :: L).length : Nat) : Int) = (n : Int) + 1 := by rw [hn]; simp
  simp only [List.length_cons] at hl
  rw [uf_17, show ((({L := c :: L, en := en, told := told} : Ser).L.length : Nat) : Int) = (n : Int) + 1 from hn1] at c17
  rw [uf_16] at c16
  have hqf : q first = c := by
    have := hq 0 (by simp)
    simp only [List.getElem?_cons_zero, Option.some.injEq, Nat.add_zero] at this
    rw [Nat.mod_eq_of_lt hf] at this
    exact this.symm
  rw [uf_l (by omega), hqf] at ci
  have fr := fun o => hrow.frozen o
  have hne : ((n : Int) + 1 == 0) = false := by rw [beq_eq_false_iff_ne]; omega
  have H1 := Lib.hid hn
  have H2 := Lib.hid hq
  have H3 := Lib.hid hb
  have H4 := Lib.hid hrow
  have hn16 : n < 16 := by omega
  clear hn hq hb hrow hqf hn1
  go_enter Try.func32, Try.ntmps32
  go_wp2
  go_region
  go_wp2
  go_ret
  have hm : Mod (fun k => k = b) w ((w.setCell { block := b, off := 16 } (Value.int IntKind.i64 ((↑first + 1) % 16))).setCell { block := b, off := 17 } (Value.int IntKind.i64 ↑n)).drew :=
    (((Mod.refl (fun k => k = b) w).setCell (.inl rfl) _).setCell (.inl rfl) _).drew
  refine ⟨rfl, ⟨hD, hbase, q, (first + 1) % 16, v, ((H4.out.set _ _).set _ _).congr ?_, by show L.length ≤ 16; omega, by omega, ?_, fun x hx => H3.out x (List.mem_cons_of_mem _ hx), toldIn_keep ht hm (fun g _ hg _ => hg) (fun g _ h => h)⟩, hm.mono (fun k _ hk => by rw [hk]; exact hD)⟩
  · intro i hi
    have e0 : (((first + 1) % 16 : Nat) : Int) = ((first : Int) + 1) % 16 := by omega
    simp only [uf, e0]
    by_cases e1 : i = 17
    · subst e1; rw [if_pos rfl, ← H1.out]; rfl
    · by_cases e2 : i = 16
      · subst e2; rfl
      · simp only [if_neg e1, if_neg e2]
  · intro k hk
    have h := H2.out (k + 1) (by simp at hk ⊢; omega)
    rw [List.getElem?_cons_succ] at h
    rw [h]
    congr 2
    omega

theorem output_none (base b : Nat) (D : Nat → Prop) (L : List Int) (en : Bool) (w : World) (hu : UartIn w base b D ⟨L, en, none⟩) :
    Calls Try.prog 12 #[.pointer (some ⟨b, 0, none⟩)] w (Ends (.int .i64 (-1)) fun w' => w = w') := by
  obtain ⟨hD, hbase, q, first, v, hrow, hl, hf, hq, hb, ht⟩ := hu
  have c19 := hrow.cell (i := 19) (by omega)
  rw [uf_19, show v = .slice none 0 0 from ht] at c19
  clear hq hb hrow ht
  go_enter Try.func12, Try.ntmps12
  go_wp2
  go_ret
  exact ⟨rfl, rfl⟩

set_option maxHeartbeats 400000 in
theorem output_some (base b : Nat) (D : Nat → Prop) (L : List Int) (en : Bool) (c : Int) (w : World) (hu : UartIn w base b D ⟨L, en, some c⟩) :
    Calls Try.prog 12 #[.pointer (some ⟨b, 0, none⟩)] w (Ends (.int .i64 c) fun w' => UartIn w' base b D ⟨L, en, none⟩ ∧ Mod D w w') := by
  obtain ⟨hD, hbase, q, first, v, hrow, hl, hf, hq, hb, h0, h1, ho, hg⟩ := hu
  obtain ⟨g, cap, rfl, _, _⟩ := ho.form (by omega)
  have c19 := hrow.cell (i := 19) (by omega)
  rw [uf_19] at c19
  have cg := ho.cellAt 0 (by omega)
  rw [List.getElem?_cons_zero] at cg
  have fr := fun o => hrow.frozen o
  have H2 := Lib.hid hq
  have H3 := Lib.hid hb
  have H4 := Lib.hid hrow
  have H5 := Lib.hid hg
  clear hq hb hrow hg
  go_enter Try.func12, Try.ntmps12
  go_wp2
  go_quiet (fail)
  go_wp2
  go_ret
  have hm : Mod (fun k => k = b) w ((w.drewN nq).setCell { block := b, off := 19 } (Value.slice none 0 0)) :=
    (((Mod.refl (fun k => k = b) w).drewN nq).setCell (.inl rfl) _)
  refine ⟨rfl, ⟨hD, hbase, q, first, .slice none 0 0, ((rowIs_drewN H4.out nq).set _ _).congr ?_, hl, hf, H2.out, H3.out, rfl⟩, hm.mono (fun k _ hk => by rw [hk]; exact hD)⟩
  · intro i hi
    simp only [uf]
    by_cases e1 : i = 19
    · subst e1; rfl
    · have h3 : ¬ (¬ i < 16 ∧ i ≠ 16 ∧ i ≠ 17 ∧ i ≠ 18) := by omega
      rw [if_neg e1]
      split
      · rfl
      · split
        · rfl
        · split
          · rfl
          · split
            · rfl
            · omega

end Go.Proofs.Ytoeppbngogjbaaa
