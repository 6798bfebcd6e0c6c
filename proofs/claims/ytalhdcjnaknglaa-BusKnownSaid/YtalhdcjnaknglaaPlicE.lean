/- The program's interrupt controller: Pending, Load. Condition: such a controller lies there. -/
import Derived.Test.YtalhdcjnaknglaaPlicD
namespace Go.Proofs.Ytalhdcjnaknglaa.Plc
open Go.RowKit
attribute [local go_sem ↓] Go.wp_at_zero Go.wp_at_succ

theorem word_one : Word 1 (fun k => k == 0) := ⟨by decide, fun k _ => by rcases k with _ | k <;> simp [Nat.testBit_succ]⟩
theorem word_of {x : Nat} (h : x < 4294967296) : Word x (fun k => x.testBit k) := ⟨h, fun _ _ => rfl⟩

theorem pending_at (p : Nat) (S : Pli) (c : Int) (w : World) (h : PlicAt w p S) :
    Calls Try.prog 25 #[.pointer (some ⟨p, 0, none⟩), .int .i64 c] w (Ends (.bool (S.pending c)) fun w' => Quiet w w') := by
  obtain ⟨hok, hr⟩ := h
  by_cases hc : c = 0 ∨ c = 1
  · have he : S.pending c = decide (0 < best (S.may c.toNat) S.pri (S.thr c.toNat)) := if_pos hc
    rw [he]
    obtain ⟨n, rfl⟩ : ∃ n : Nat, c = (n : Int) := ⟨c.toNat, by omega⟩
    have hn : n < 2 := by omega
    have g1 : decide ((n : Int) < 2) = true := by simp; omega
    have g0 : decide ((0 : Int) ≤ (n : Int)) = true := by simp
    rw [Int.toNat_natCast]
    have c32 := hr.cell (i := 32) (by omega)
    have ce := hr.cell (i := 34 + n) (by omega)
    have ct := hr.cell (i := 36 + n) (by omega)
    rw [plc_pend] at c32
    rw [plc_en _ _ hn] at ce
    rw [plc_thr _ _ hn] at ct
    have ht := hok.thr n
    have hand := w_and (Word.self S.pend) (Word.self (S.en n))
    have HB := Lib.hid fun k => Calls.quiet_of (w := w) (n := k) (best_any p S (S.may n) (S.thr n) (w.drewN k) (by omega) (fun s => by have := hok.pri s; omega) (rowIs_drewN hr k))
    have HL := Lib.hid fun k => quiet_same (w := w) (n := k) (aload ⟨p, 32, none⟩ _ (w.drewN k) c32 rfl)
    clear hr hok hc he
    change bits BinOp.and IntKind.u32 _ _ = ((wordOf (S.may n) 32 : Nat) : Int) at hand
    generalize best (S.may n) S.pri (S.thr n) = b at *
    go_enter Try.func25, Try.ntmps25
    go_wp2
    go_quiet ((first | (go_at_call 38; exact HL.out _) | (go_at_call 37; exact HB.out _)))
    go_wp2
    go_ret
    refine ⟨retb_of (by simp), ⟨nq, rfl⟩⟩
  · have he : S.pending c = false := if_neg hc
    rw [he]
    by_cases h0 : c < 0
    · have g0 : decide (0 ≤ c) = false := by simpa using h0
      clear hc he hr
      go_enter Try.func25, Try.ntmps25
      go_wp2
      go_quiet (fail)
      go_wp2
      go_ret
      exact ⟨rfl, ⟨nq, rfl⟩⟩
    · have g2 : decide (c < 2) = false := by simp; omega
      have g0 : decide (0 ≤ c) = true := by simpa using h0
      clear hc he hr
      go_enter Try.func25, Try.ntmps25
      go_wp2
      go_quiet (fail)
      go_wp2
      go_ret
      exact ⟨rfl, ⟨nq, rfl⟩⟩

theorem which_lt (off size : Int) : ((which off size).1 = 1 → (which off size).2 < 32) ∧ ((which off size).1 = 3 ∨ (which off size).1 = 4 ∨ (which off size).1 = 5 → (which off size).2 < 2) ∧ (which off size).1 < 6 := by
  unfold which
  split
  · split
    · dsimp only; omega
    · repeat' split
      all_goals simp
  · simp

theorem u32_lt (f : Nat → Bool) : wordOf f 32 < 4294967296 := (Word.self f).1

set_option maxHeartbeats 2000000 in
theorem load_at (p : Nat) (S : Pli) (off size : Int) (w : World) (h : PlicAt w p S) :
    Calls Try.prog 73 #[.pointer (some ⟨p, 0, none⟩), .int .i64 off, .int .i64 size] w (Ends (.tuple #[.int .u64 (((S.load off size).1.1 : Nat) : Int), .bool (S.load off size).1.2]) fun w' => PlicAt w' p (S.load off size).2 ∧ Mod (fun g => g = p) w w') := by
  have hw := which_any off size w
  have hl := which_lt off size
  unfold Pli.load
  generalize which off size = x at *
  obtain ⟨kind, n⟩ := x
  dsimp only at hw hl
  have HW := Lib.hid hw
  clear hw
  have hk : kind = 0 ∨ kind = 1 ∨ kind = 2 ∨ kind = 3 ∨ kind = 4 ∨ kind = 5 := by omega
  have hr := h.2
  have H := Lib.hid h
  rcases hk with rfl | rfl | rfl | rfl | rfl | rfl
  · clear h hr hl
    go_enter Try.func73, Try.ntmps73
    go_wp2_with (go_at_call 75; refine HW.out.mono ?_; rintro e w' ⟨rfl, rfl⟩)
    go_ret2
    exact ⟨rfl, H.out, Mod.refl _ _⟩
  · have hn : n < 32 := hl.1 rfl
    have cn := hr.cell (i := n) (by omega)
    rw [plc_pri _ _ hn] at cn
    have hp := h.1.pri n
    have n1 : (n : Int) < 32 := by omega
    clear h hr hl
    go_enter Try.func73, Try.ntmps73
    go_wp2_with (go_at_call 75; refine HW.out.mono ?_; rintro e w' ⟨rfl, rfl⟩)
    go_ret2
    exact ⟨rfl, H.out, Mod.refl _ _⟩
  · have cn := hr.cell (i := 32) (by omega)
    rw [plc_pend] at cn
    have hp := u32_lt S.pend
    have HL := Lib.hid (aload ⟨p, 32, none⟩ _ w cn rfl)
    clear h hr hl
    go_enter Try.func73, Try.ntmps73
    go_wp2_with (first | (go_at_call 75; refine HW.out.mono ?_; rintro e w' ⟨rfl, rfl⟩) | (go_at_call 38; refine HL.out.mono ?_; rintro e w' ⟨rfl, rfl⟩))
    go_ret2
    exact ⟨rfl, H.out, Mod.refl _ _⟩
  · have hn : n < 2 := hl.2.1 (by omega)
    have cn := hr.cell (i := 34 + n) (by omega)
    rw [plc_en _ _ hn] at cn
    have hp := u32_lt (S.en n)
    have n1 : (n : Int) < 2 := by omega
    clear h hr hl
    go_enter Try.func73, Try.ntmps73
    go_wp2_with (go_at_call 75; refine HW.out.mono ?_; rintro e w' ⟨rfl, rfl⟩)
    go_ret2
    exact ⟨rfl, H.out, Mod.refl _ _⟩
  · have hn : n < 2 := hl.2.1 (by omega)
    have cn := hr.cell (i := 36 + n) (by omega)
    rw [plc_thr _ _ hn] at cn
    have hp := h.1.thr n
    have n1 : (n : Int) < 2 := by omega
    clear h hr hl
    go_enter Try.func73, Try.ntmps73
    go_wp2_with (go_at_call 75; refine HW.out.mono ?_; rintro e w' ⟨rfl, rfl⟩)
    go_ret2
    exact ⟨rfl, H.out, Mod.refl _ _⟩
  · have hn : n < 2 := hl.2.1 (by omega)
    have hp : (S.claim n).1 ≤ 31 := S.claim_lt n
    have hC := claim_at p S n w hn h
    have HC := Lib.hid hC
    clear h hr hl hC
    change Calls Try.prog _ _ w (Ends (.tuple #[.int .u64 (((S.claim n).1 : Nat) : Int), .bool true]) fun w' => PlicAt w' p (S.claim n).2 ∧ Mod (fun g => g = p) w w')
    generalize S.claim n = x at *
    obtain ⟨s, S'⟩ := x
    dsimp only at *
    go_enter Try.func73, Try.ntmps73
    go_wp2_with (first | (go_at_call 75; refine HW.out.mono ?_; rintro e w' ⟨rfl, rfl⟩) | (go_at_call 76; refine HC.out.mono ?_; rintro e w' ⟨rfl, hp', hm'⟩))
    go_ret2
    exact ⟨rfl, hp', hm'⟩

theorem plc_setPri (S : Pli) (n v : Nat) (hn : n < 32) (h0 : 0 < n) (i : Nat) : (if i = n then .int .u32 ((v % 8 : Nat) : Int) else plc S i) = plc (S.setPri n v) i := by
  unfold Pli.setPri
  rw [if_pos h0]
  by_cases h : i = n
  · rw [if_pos h]; subst h; unfold plc; rw [if_pos hn]; simp
  · rw [if_neg h]; unfold plc; simp [h]
theorem plc_setThr (S : Pli) (n v : Nat) (hn : n < 2) (i : Nat) (hi : i < 38) : (if i = 36 + n then .int .u32 ((v % 8 : Nat) : Int) else plc S i) = plc (S.setThr n v) i := by
  unfold Pli.setThr plc
  by_cases h : i = 36 + n
  · subst h
    rw [if_pos rfl, if_neg (by omega), if_neg (by omega), if_neg (by omega), if_neg (by omega)]
    simp
  · rw [if_neg h]
    by_cases h1 : i < 36
    · simp [h1]
    · rw [if_neg (by omega), if_neg (by omega), if_neg (by omega), if_neg (by omega), if_neg (by omega), if_neg (by omega), if_neg (by omega), if_neg (by omega)]
      dsimp only
      rw [if_neg (by omega)]
theorem plc_setEn (S : Pli) (n v : Nat) (hn : n < 2) (i : Nat) : (if i = 34 + n then .int .u32 ((wordOf (fun s => v.testBit s && !(s == 0)) 32 : Nat) : Int) else plc S i) = plc (S.setEn n v) i := by
  unfold Pli.setEn plc
  by_cases h : i = 34 + n
  · subst h
    rw [if_pos rfl, if_neg (by omega), if_neg (by omega), if_neg (by omega), if_pos (by omega)]
    dsimp only
    rw [show 34 + n - 34 = n from by omega]
    refine congrArg (fun x : Nat => Value.int .u32 (x : Int)) (wordOf_congr 32 _ _ fun k hk => ?_)
    rw [if_pos rfl, decide_eq_true hk, Bool.and_true]
    rfl
  · rw [if_neg h]
    by_cases h1 : i < 34
    · by_cases h2 : i < 32
      · simp [h2]
      · by_cases h3 : i = 32
        · simp [h3]
        · have h4 : i = 33 := by omega
          simp [h4]
    · by_cases h2 : i < 36
      · rw [if_neg (by omega), if_neg (by omega), if_neg (by omega), if_pos h2, if_neg (by omega), if_neg (by omega), if_neg (by omega), if_pos h2]
        have h3 : ¬ i - 34 = n := by omega
        simp [h3]
      · rw [if_neg (by omega), if_neg (by omega), if_neg (by omega), if_neg h2, if_neg (by omega), if_neg (by omega), if_neg (by omega), if_neg h2]

end Go.Proofs.Ytalhdcjnaknglaa.Plc
