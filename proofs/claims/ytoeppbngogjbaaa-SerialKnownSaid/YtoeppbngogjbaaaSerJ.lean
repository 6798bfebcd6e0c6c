/- The chapter's example returns true. No condition. -/
import Derived.Test.YtoeppbngogjbaaaSerI
namespace Go.Proofs.Ytoeppbngogjbaaa
open Go.RowKit

/-! Contracts for a UART that owns all that is new, but for one block. -/
/-- All from W on, but for p. -/
def From (W p : Nat) : Nat → Prop := fun k => W ≤ k ∧ k ≠ p

theorem from_more {W p : Nat} {w : World} (hW : W ≤ w.heap.size) (hp : p < w.heap.size) : ∀ k, more (From W p) w k → From W p k := by
  rintro k (h | h)
  · exact h
  · exact ⟨by omega, by omega⟩

theorem of_at (base b : Nat) (D : Nat → Prop) (s s' : Ser) (off x : Int) (ok : Bool) (w : World) (hu : UartIn w base b D s) (h : serLoad off 1 s = (x, ok, s')) :
    Calls Try.prog 30 #[.pointer (some ⟨b, 0, none⟩), .int .i64 off] w (Ends (.int .u64 x) fun w' => UartIn w' base b D s' ∧ Mod D w w') := by
  have hL := load_any base b D s off 1 w hu
  rw [h] at hL
  have HL := Lib.hid hL
  clear hL h
  go_enter Try.func30, Try.ntmps30
  go_wp2_with (go_at_call 14; refine HL.out.mono ?_; rintro e w' ⟨rfl, hu', hm⟩)
  go_ret
  exact ⟨rfl, hu', hm⟩

theorem output_at (base b : Nat) (D : Nat → Prop) (s : Ser) (w : World) (hu : UartIn w base b D s) :
    Calls Try.prog 12 #[.pointer (some ⟨b, 0, none⟩)] w (Ends (.int .i64 (s.told.getD (-1))) fun w' => UartIn w' base b D { s with told := none } ∧ Mod D w w') := by
  obtain ⟨L, en, told⟩ := s
  cases told with
  | none => exact (output_none base b D L en w hu).mono fun e w' ⟨he, hw⟩ => ⟨he, by subst hw; exact ⟨hu, Mod.refl _ _⟩⟩
  | some c => exact output_some base b D L en c w hu

theorem store_at (base b : Nat) (D : Nat → Prop) (s s' : Ser) (off size v : Int) (ok : Bool) (w : World) (hv0 : 0 ≤ v) (hv1 : v < 18446744073709551616) (hu : UartIn w base b D s) (h : serStore off size v s = (ok, s')) :
    Calls Try.prog 16 #[.pointer (some ⟨b, 0, none⟩), .int .i64 off, .int .i64 size, .int .u64 v] w (Ends (.bool ok) fun w' => UartIn w' base b (more D w) s' ∧ Mod D w w') := by
  have hS := store_any base b D s off size v w hv0 hv1 hu
  rw [h] at hS
  exact hS

theorem pstore_at (base b : Nat) (D : Nat → Prop) (s s' : Bool) (off size v : Int) (ok : Bool) (w : World) (hv0 : 0 ≤ v) (hv1 : v < 18446744073709551616) (hu : PowIn w base b D s) (h : powStore off size v s = (ok, s')) :
    Calls Try.prog 20 #[.pointer (some ⟨b, 0, none⟩), .int .i64 off, .int .i64 size, .int .u64 v] w (Ends (.bool ok) fun w' => PowIn w' base b D s' ∧ Mod D w w') := by
  have hS := pstore_any base b D s off size v w hv0 hv1 hu
  rw [h] at hS
  exact hS

/-- What 'works' comes to: true, and nothing old has turned. -/
def Holds (w : World) (e : Ending) (w' : World) : Prop := e = .returned (.bool true) ∧ Below w.heap.size w w'

set_option maxHeartbeats 1000000 in
theorem works_any (w : World) : Calls Try.prog 5 #[] w (Holds w) := by
  obtain ⟨W, hW⟩ : ∃ W, W = w.heap.size := ⟨_, rfl⟩
  have hnew := new_any w (fun k => W ≤ k) (by omega) W (by omega)
  rw [← hW] at hnew
  have HN := Lib.hid hnew
  have HW := Lib.hid hW
  clear hnew hW
  go_enter Try.func5, Try.ntmps5
  go_wp2_with fail
  refine HN.out.mono ?_
  rintro e w1 ⟨rfl, hu1, hm1, hs1⟩
  have Hs1 := Lib.hid hs1
  clear hs1
  go_wp2_with fail
  refine (input_ok W W _ _ 7 _ (by decide) (by decide) (by decide) hu1).mono ?_
  rintro e w2 ⟨rfl, hu2, hm2⟩
  go_wp2_with fail
  refine (input_ok W W _ _ 8 _ (by decide) (by decide) (by decide) hu2).mono ?_
  rintro e w3 ⟨rfl, hu3, hm3⟩
  go_wp2_with fail
  refine (of_at W W _ _ _ 5 97 true _ hu3 (by rfl)).mono ?_
  rintro e w4 ⟨rfl, hu4, hm4⟩
  go_wp2_with fail
  refine (of_at W W _ _ _ 0 7 true _ hu4 (by rfl)).mono ?_
  rintro e w5 ⟨rfl, hu5, hm5⟩
  go_wp2_with fail
  refine (of_at W W _ _ _ 0 8 true _ hu5 (by rfl)).mono ?_
  rintro e w6 ⟨rfl, hu6, hm6⟩
  go_wp2_with fail
  refine (of_at W W _ _ _ 0 0 true _ hu6 (by rfl)).mono ?_
  rintro e w7 ⟨rfl, hu7, hm7⟩
  go_wp2_with fail
  refine (of_at W W _ _ _ 5 96 true _ hu7 (by rfl)).mono ?_
  rintro e w8 ⟨rfl, hu8, hm8⟩
  go_wp2_with fail
  refine (output_at W W _ _ _ hu8).mono ?_
  rintro e w9 ⟨rfl, hu9, hm9⟩
  go_wp2_with fail
  refine (store_at W W _ _ _ 0 1 41 true _ (by decide) (by decide) hu9 rfl).mono ?_
  rintro e w10 ⟨rfl, hu10, hm10⟩
  go_wp2_with fail
  refine (store_at W W _ _ _ 0 1 298 true _ (by decide) (by decide) hu10 rfl).mono ?_
  rintro e w11 ⟨rfl, hu11, hm11⟩
  have hz1 := Hs1.out
  have hz := hm2.size
  have hz := Nat.le_trans hz hm3.size
  have hz := Nat.le_trans hz hm4.size
  have hz := Nat.le_trans hz hm5.size
  have hz := Nat.le_trans hz hm6.size
  have hz := Nat.le_trans hz hm7.size
  have hz := Nat.le_trans hz hm8.size
  have hz := Nat.le_trans hz hm9.size
  have hz10 := Nat.le_trans hz hm10.size
  have hz11 := Nat.le_trans hz10 hm11.size
  obtain ⟨p, hp⟩ : ∃ p, p = w11.heap.size := ⟨_, rfl⟩
  have hWp : W < p := by have := HW.out; omega
  have hu11 : UartIn w11 W W (From W p) _ := uartIn_keep hu11 (Mod.refl Nil w11) (fun _ _ _ h => h) (fun g hg h => ⟨by
    have := HW.out
    rcases h with (h | h) | h
    · exact h
    · omega
    · omega, by omega⟩)
  have hnp := newPower_any w11 (fun k => k = p) hp.symm W (by omega)
  rw [← hp] at hnp
  have HNp := Lib.hid hnp
  have Hp := Lib.hid hp
  clear hnp hp hz1 hz hz10 hz11
  go_wp2_with fail
  refine HNp.out.mono ?_
  rintro e w12 ⟨rfl, hp12, hm12, hs12⟩
  have Hs12 := Lib.hid hs12
  clear hs12
  have hu12 : UartIn w12 W W (From W p) _ := uartIn_keep hu11 hm12 (fun _ _ _ h => h) (fun _ _ h => h)
  go_wp2_with fail
  refine (off_any W p _ _ _ hp12).mono ?_
  rintro e w12' ⟨rfl, rfl⟩
  go_wp2_with fail
  refine (pstore_at W p _ _ _ 0 4 21845 true _ (by decide) (by decide) hp12 rfl).mono ?_
  rintro e w13 ⟨rfl, hp13, hm13⟩
  have hu13 : UartIn w13 W W (From W p) _ := uartIn_keep hu12 hm13 (fun _ _ h h' => h.2 h') (fun _ _ h => h)
  go_wp2_with fail
  refine (output_at W W _ _ _ hu13).mono ?_
  rintro e w14 ⟨rfl, hu14, hm14⟩
  have hp14 : PowIn w14 W p (fun k => k = p) _ := powIn_keep hp13 hm14 (fun _ _ h h' => h'.2 h) (fun _ _ h => h)
  go_wp2_with fail
  refine (output_at W W _ _ _ hu14).mono ?_
  rintro e w15 ⟨rfl, hu15, hm15⟩
  have hp15 : PowIn w15 W p (fun k => k = p) _ := powIn_keep hp14 hm15 (fun _ _ h h' => h'.2 h) (fun _ _ h => h)
  go_wp2_with fail
  refine (off_any W p _ _ _ hp15).mono ?_
  rintro e w15' ⟨rfl, rfl⟩
  go_wp2_with fail
  go_ret
  refine ⟨rfl, ?_⟩
  have hW := HW.out
  have hb : ∀ {a c : World} {F : Nat → Prop}, Below w.heap.size w a → Mod F a c → (∀ k, k < a.heap.size → F k → W ≤ k) → Below w.heap.size w c := fun hb hm hF =>
    hb.trans ⟨hm.os, hm.tape, hm.output, hm.size, fun i hi => hm.block i (by have := hb.size; omega) fun h => by have := hF i (by have := hb.size; omega) h; omega⟩
  have hf : ∀ {a : World} {X : World}, W ≤ X.heap.size → ∀ k, k < a.heap.size → more (fun k => W ≤ k) X k → W ≤ k := fun hX k _ h => by
    rcases h with h | h
    · exact h
    · omega
  have z9 : W ≤ w9.heap.size := by
    have := Hs1.out
    have := hm2.size
    have := hm3.size
    have := hm4.size
    have := hm5.size
    have := hm6.size
    have := hm7.size
    have := hm8.size
    have := hm9.size
    omega
  have b1 := hb (Below.refl _ _) hm1 (fun _ _ h => h.elim)
  have b9 := hb (hb (hb (hb (hb (hb (hb (hb b1 hm2 fun _ _ h => h) hm3 fun _ _ h => h) hm4 fun _ _ h => h) hm5 fun _ _ h => h) hm6 fun _ _ h => h) hm7 fun _ _ h => h) hm8 fun _ _ h => h) hm9 fun _ _ h => h
  exact hb (hb (hb (hb (hb (hb b9 hm10 fun _ _ h => h) hm11 (hf z9)) hm12 fun _ _ h => h.elim) hm13 fun k _ h => by have : k = p := h; omega) hm14 fun _ _ h => h.1) hm15 fun _ _ h => h.1

end Go.Proofs.Ytoeppbngogjbaaa
