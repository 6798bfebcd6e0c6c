/- The program's controller within a law's call: contracts; 'of'; works() returns true. Condition: such a controller lies there. -/
import Derived.Test.YtjkbemonedohjaaPlicU
import Derived.Test.YtjkbemonedohjaaLook
namespace Go.Proofs.Ytjkbemonedohjaa
open Go.RowKit
attribute [local go_sem ↓] Go.wp_at_zero Go.wp_at_succ

/-- A controller of this law's call. -/
structure PHas (W w : World) (p : Nat) (S : Pli) : Prop where
  plic : PlicAt w p S
  below : Below W.heap.size W w
  old : W.heap.size ≤ p

section
variable {W w w' : World} {p : Nat} {S S' : Pli} {F : Nat → Prop}
theorem PHas.keep (h : PHas W w p S) (hm : Mod F w w') (hF : ∀ k, F k → W.heap.size ≤ k) (h1 : ¬ F p) : PHas W w' p S :=
  ⟨h.plic.keep hm h1, h.below.trans (hm.toBelow h.below.size hF), h.old⟩
theorem PHas.nil (h : PHas W w p S) (hm : Mod Nil w w') : PHas W w' p S := h.keep hm (fun _ x => x.elim) (fun x => x)
theorem PHas.own (h : PHas W w p S) (hp : PlicAt w' p S') (hm : Mod (fun g => g = p) w w') : PHas W w' p S' :=
  ⟨hp, h.below.trans (hm.toBelow h.below.size fun k e => by rw [e]; exact h.old), h.old⟩
theorem PHas.lines (h : PHas W w p S) (m : Nat) (hm : m < 4294967296) :
    Calls Try.prog 8 #[.pointer (some ⟨p, 0, none⟩), .int .u32 (m : Int)] w (Ends (.tuple #[]) fun w' => PHas W w' p (S.lines m) ∧ Mod (fun g => g = p) w w') :=
  (lines_at p S m w hm h.plic).mono fun _ _ ⟨he, hp, hm⟩ => ⟨he, h.own hp hm, hm⟩
theorem PHas.load (h : PHas W w p S) (off size : Int) :
    Calls Try.prog 10 #[.pointer (some ⟨p, 0, none⟩), .int .i64 off, .int .i64 size] w (Ends (.tuple #[.int .u64 (((S.load off size).1.1 : Nat) : Int), .bool (S.load off size).1.2]) fun w' => PHas W w' p (S.load off size).2 ∧ Mod (fun g => g = p) w w') :=
  (load_at p S off size w h.plic).mono fun _ _ ⟨he, hp, hm⟩ => ⟨he, h.own hp hm, hm⟩
theorem PHas.store (h : PHas W w p S) (off size : Int) (v : Nat) (hv : v < 18446744073709551616) :
    Calls Try.prog 12 #[.pointer (some ⟨p, 0, none⟩), .int .i64 off, .int .i64 size, .int .u64 (v : Int)] w (Ends (.bool (S.store off size v).1) fun w' => PHas W w' p (S.store off size v).2 ∧ Mod (fun g => g = p) w w') :=
  (store_at p S off size v w hv h.plic).mono fun _ _ ⟨he, hp, hm⟩ => ⟨he, h.own hp hm, hm⟩
theorem PHas.pending (h : PHas W w p S) (c : Int) :
    Calls Try.prog 14 #[.pointer (some ⟨p, 0, none⟩), .int .i64 c] w (Ends (.bool (S.pending c)) fun w' => PHas W w' p S ∧ Mod Nil w w') :=
  (pending_at p S c w h.plic).mono fun _ _ ⟨he, hq⟩ => ⟨he, h.nil hq.mod, hq.mod⟩
end

theorem new_phas {W w : World} (hb : Below W.heap.size W w) : Calls Try.prog 6 #[] w (Ends (.pointer (some ⟨w.heap.size, 0, none⟩)) fun w' => PHas W w' w.heap.size Pli.zero ∧ Mod Nil w w') :=
  (new_plic w).mono fun _ _ ⟨he, hp, hm, _⟩ => ⟨he, ⟨hp, hb.trans (hm.toBelow hb.size fun _ x => x.elim), hb.size⟩, hm⟩

/-- What a register has. -/
theorem PHas.of {W w : World} {p : Nat} {S : Pli} (h : PHas W w p S) (off : Int) :
    Calls Try.prog 19 #[.pointer (some ⟨p, 0, none⟩), .int .i64 off] w (Ends (.int .u64 (((S.load off 4).1.1 : Nat) : Int)) fun w' => PHas W w' p (S.load off 4).2 ∧ Mod (fun g => g = p) w w') := by
  have HL := Lib.hid (h.load off 4)
  clear h
  generalize S.load off 4 = x at *
  go_enter Try.func19, Try.ntmps19
  go_wp2_with (fail)
  refine HL.out.mono ?_
  rintro e w' ⟨rfl, h1, h2⟩
  have H1 := Lib.hid h1
  have H2 := Lib.hid h2
  clear h1 h2
  go_wp2
  go_ret
  exact ⟨rfl, H1.out, H2.out⟩

def wS1 : Pli := (Pli.zero.store 4 4 3).2
def wS2 : Pli := (wS1.store 8 4 5).2
def wS3 : Pli := (wS2.store 8192 4 7).2
def wS4 : Pli := wS3.lines 6
def wS5 : Pli := (wS4.load 2097156 4).2
def wS6 : Pli := (wS5.load 2097156 4).2
def wS7 : Pli := (wS6.load 2097156 4).2
def wS8 : Pli := wS7.lines 6
def wS9 : Pli := (wS8.store 2097156 4 2).2
def wS10 : Pli := wS9.lines 6
theorem w_1 : (Pli.zero.store 4 4 3).1 = true := by decide +kernel
theorem w_2 : (wS1.store 8 4 5).1 = true := by decide +kernel
theorem w_3 : (wS2.store 8192 4 7).1 = true := by decide +kernel
theorem w_4 : wS4.pending 0 = true := by decide +kernel
theorem w_5 : wS4.pending 1 = false := by decide +kernel
theorem w_6 : (wS4.load 2097156 4).1.1 = 2 := by decide +kernel
theorem w_7 : (wS5.load 2097156 4).1.1 = 1 := by decide +kernel
theorem w_8 : (wS6.load 2097156 4).1.1 = 0 := by decide +kernel
theorem w_9 : wS8.pending 0 = false := by decide +kernel
theorem w_10 : wS9.pending 0 = false := by decide +kernel
theorem w_11 : wS10.pending 0 = true := by decide +kernel
theorem w_12 : (wS10.load 8192 4).1.1 = 6 := by decide +kernel

set_option maxHeartbeats 2000000 in
theorem works_any (w : World) : Calls Try.prog 5 #[] w (Ends (.bool true) fun w' => Below w.heap.size w w') := by
  go_enter Try.func5, Try.ntmps5
  go_wp2_with (fail)
  refine (new_phas (Below.refl _ w)).mono ?_
  rintro e w1 ⟨rfl, h1, _⟩
  go_wp2_with (fail)
  have c := h1.store 4 4 3 (by decide)
  rw [w_1] at c
  refine c.mono ?_
  rintro e w2 ⟨rfl, h2, _⟩
  change PHas w w2 w.heap.size wS1 at h2
  clear c h1
  go_wp2_with (fail)
  have c := h2.store 8 4 5 (by decide)
  rw [w_2] at c
  refine c.mono ?_
  rintro e w3 ⟨rfl, h3, _⟩
  change PHas w w3 w.heap.size wS2 at h3
  clear c h2
  go_wp2_with (fail)
  have c := h3.store 8192 4 7 (by decide)
  rw [w_3] at c
  refine c.mono ?_
  rintro e w4 ⟨rfl, h4, _⟩
  change PHas w w4 w.heap.size wS3 at h4
  clear c h3
  go_wp2_with (fail)
  refine (h4.lines 6 (by decide)).mono ?_
  rintro e w5 ⟨rfl, h5, _⟩
  change PHas w w5 w.heap.size wS4 at h5
  clear h4
  go_wp2_with (fail)
  have c := h5.pending 0
  rw [w_4] at c
  refine c.mono ?_
  rintro e w6 ⟨rfl, h6, _⟩
  clear c h5
  go_wp2_with (fail)
  have c := h6.pending 1
  rw [w_5] at c
  refine c.mono ?_
  rintro e w7 ⟨rfl, h7, _⟩
  clear c h6
  go_wp2_with (fail)
  have c := h7.of 2097156
  rw [w_6] at c
  refine c.mono ?_
  rintro e w8 ⟨rfl, h8, _⟩
  change PHas w w8 w.heap.size wS5 at h8
  clear c h7
  go_wp2_with (fail)
  have c := h8.of 2097156
  rw [w_7] at c
  refine c.mono ?_
  rintro e w9 ⟨rfl, h9, _⟩
  change PHas w w9 w.heap.size wS6 at h9
  clear c h8
  go_wp2_with (fail)
  have c := h9.of 2097156
  rw [w_8] at c
  refine c.mono ?_
  rintro e w10 ⟨rfl, h10, _⟩
  change PHas w w10 w.heap.size wS7 at h10
  clear c h9
  go_wp2_with (fail)
  refine (h10.lines 6 (by decide)).mono ?_
  rintro e w11 ⟨rfl, h11, _⟩
  change PHas w w11 w.heap.size wS8 at h11
  clear h10
  go_wp2_with (fail)
  have c := h11.pending 0
  rw [w_9] at c
  refine c.mono ?_
  rintro e w12 ⟨rfl, h12, _⟩
  clear c h11
  go_wp2_with (fail)
  refine (h12.store 2097156 4 2 (by decide)).mono ?_
  rintro e w13 ⟨rfl, h13, _⟩
  change PHas w w13 w.heap.size wS9 at h13
  clear h12
  go_wp2_with (fail)
  have c := h13.pending 0
  rw [w_10] at c
  refine c.mono ?_
  rintro e w14 ⟨rfl, h14, _⟩
  clear c h13
  go_wp2_with (fail)
  refine (h14.lines 6 (by decide)).mono ?_
  rintro e w15 ⟨rfl, h15, _⟩
  change PHas w w15 w.heap.size wS10 at h15
  clear h14
  go_wp2_with (fail)
  have c := h15.pending 0
  rw [w_11] at c
  refine c.mono ?_
  rintro e w16 ⟨rfl, h16, _⟩
  clear c h15
  go_wp2_with (fail)
  have c := h16.of 8192
  rw [w_12] at c
  refine c.mono ?_
  rintro e w17 ⟨rfl, h17, _⟩
  clear c h16
  go_wp2
  go_ret
  exact ⟨rfl, h17.below⟩

end Go.Proofs.Ytjkbemonedohjaa
