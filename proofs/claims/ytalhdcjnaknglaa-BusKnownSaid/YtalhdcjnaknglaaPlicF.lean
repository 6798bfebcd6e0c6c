/- The program's interrupt controller: Store, New. Condition of Store: such a controller lies there. -/
import Derived.Test.YtalhdcjnaknglaaPlicE
namespace Go.Proofs.Ytalhdcjnaknglaa.Plc
open Go.RowKit
attribute [local go_sem ↓] Go.wp_at_zero Go.wp_at_succ

theorem and_seven (v : Nat) (hv : v < 18446744073709551616) : bits BinOp.and IntKind.u64 (v : Int) 7 = ((v % 8 : Nat) : Int) := by
  rw [show (7 : Int) = ((7 : Nat) : Int) from rfl, u64_and_nat _ _ hv (by decide), show (7 : Nat) = 2 ^ 3 - 1 from rfl, Nat.and_two_pow_sub_one_eq_mod]
theorem test_mod (v k : Nat) (hk : k < 32) : (v % 4294967296).testBit k = v.testBit k := by
  rw [show (4294967296 : Nat) = 2 ^ 32 from rfl, Nat.testBit_mod_two_pow, decide_eq_true hk, Bool.true_and]
theorem word_mod (v : Nat) : Word (v % 4294967296) (fun k => v.testBit k) := ⟨Nat.mod_lt _ (by decide), fun k hk => test_mod v k hk⟩

theorem mod_set (w : World) (p o : Nat) (u : Value) : Mod (fun g => g = p) w (w.setCell ⟨p, o, none⟩ u) := Mod.setCell (F := fun g => g = p) (p := ⟨p, o, none⟩) (Mod.refl _ w) (.inl rfl) u

def servOf (S : Pli) (n s : Nat) : Nat → Bool := fun k => S.serv k && !(k == s && S.en n k)

set_option maxHeartbeats 2000000 in
theorem store_at (p : Nat) (S : Pli) (off size : Int) (v : Nat) (w : World) (hv : v < 18446744073709551616) (h : PlicAt w p S) :
    Calls Try.prog 74 #[.pointer (some ⟨p, 0, none⟩), .int .i64 off, .int .i64 size, .int .u64 (v : Int)] w (Ends (.bool (S.store off size v).1) fun w' => PlicAt w' p (S.store off size v).2 ∧ Mod (fun g => g = p) w w') := by
  have hw := which_any off size w
  have hl := which_lt off size
  have hokS := h.1.store off size v
  unfold Pli.store at hokS ⊢
  generalize which off size = x at *
  obtain ⟨kind, n⟩ := x
  dsimp only at hw hl
  have HW := Lib.hid hw
  clear hw
  have hk : kind = 0 ∨ kind = 1 ∨ kind = 2 ∨ kind = 3 ∨ kind = 4 ∨ kind = 5 := by omega
  have hr := h.2
  have H := Lib.hid h
  have HO := Lib.hid hokS
  have HR := Lib.hid hr
  rcases hk with rfl | rfl | rfl | rfl | rfl | rfl
  · clear h hr hl hokS
    go_enter Try.func74, Try.ntmps74
    go_wp2_with (go_at_call 75; refine HW.out.mono ?_; rintro e w' ⟨rfl, rfl⟩)
    go_ret
    exact ⟨rfl, H.out, Mod.refl _ _⟩
  · have hn : n < 32 := hl.1 rfl
    have cn := hr.cell (i := n) (by omega)
    have fn := hr.frozen n
    have n1 : (n : Int) < 32 := by omega
    have h7 := and_seven v hv
    have hv8 : v % 8 < 8 := Nat.mod_lt _ (by decide)
    change Hid (Pli.Ok (S.setPri n v)) at HO
    change Calls Try.prog _ _ w (Ends (.bool true) fun w' => PlicAt w' p (S.setPri n v) ∧ Mod (fun g => g = p) w w')
    by_cases h0 : 0 < n
    · have hset := plc_setPri S n v hn h0
      have HS := Lib.hid hset
      clear h hr hl hokS hset
      generalize v % 8 = y at *
      go_enter Try.func74, Try.ntmps74
      go_wp2_with (go_at_call 75; refine HW.out.mono ?_; rintro e w' ⟨rfl, rfl⟩)
      go_ret
      exact ⟨rfl, ⟨HO.out, (HR.out.set n _).congr fun i _ => HS.out i⟩, mod_set _ _ _ _⟩
    · have e : S.setPri n v = S := if_neg h0
      rw [e]
      clear h hr hl hokS e HO
      go_enter Try.func74, Try.ntmps74
      go_wp2_with (go_at_call 75; refine HW.out.mono ?_; rintro e w' ⟨rfl, rfl⟩)
      go_ret
      exact ⟨rfl, H.out, Mod.refl _ _⟩
  · clear h hr hl hokS
    go_enter Try.func74, Try.ntmps74
    go_wp2_with (go_at_call 75; refine HW.out.mono ?_; rintro e w' ⟨rfl, rfl⟩)
    go_ret
    exact ⟨rfl, H.out, Mod.refl _ _⟩
  · have hn : n < 2 := hl.2.1 (by omega)
    have cn := hr.cell (i := 34 + n) (by omega)
    have fn := hr.frozen (34 + n)
    have n1 : (n : Int) < 2 := by omega
    have hset := plc_setEn S n v hn
    have HS := Lib.hid hset
    have hno : bits BinOp.andNot IntKind.u32 ((v : Int) % 4294967296) 1 = _ := w_andNot (word_mod v) word_one
    change Hid (Pli.Ok (S.setEn n v)) at HO
    change Calls Try.prog _ _ w (Ends (.bool true) fun w' => PlicAt w' p (S.setEn n v) ∧ Mod (fun g => g = p) w w')
    clear h hr hl hokS hset
    generalize wordOf (fun k => v.testBit k && !(k == 0)) 32 = y at *
    go_enter Try.func74, Try.ntmps74
    go_wp2_with (go_at_call 75; refine HW.out.mono ?_; rintro e w' ⟨rfl, rfl⟩)
    go_ret
    exact ⟨rfl, ⟨HO.out, (HR.out.set (34 + n) _).congr fun i _ => HS.out i⟩, mod_set _ _ _ _⟩
  · have hn : n < 2 := hl.2.1 (by omega)
    have cn := hr.cell (i := 36 + n) (by omega)
    have fn := hr.frozen (36 + n)
    have n1 : (n : Int) < 2 := by omega
    have h7 := and_seven v hv
    have hv8 : v % 8 < 8 := Nat.mod_lt _ (by decide)
    have hset := plc_setThr S n v hn
    have HS := Lib.hid hset
    change Hid (Pli.Ok (S.setThr n v)) at HO
    change Calls Try.prog _ _ w (Ends (.bool true) fun w' => PlicAt w' p (S.setThr n v) ∧ Mod (fun g => g = p) w w')
    clear h hr hl hokS hset
    generalize v % 8 = y at *
    go_enter Try.func74, Try.ntmps74
    go_wp2_with (go_at_call 75; refine HW.out.mono ?_; rintro e w' ⟨rfl, rfl⟩)
    go_ret
    exact ⟨rfl, ⟨HO.out, (HR.out.set (36 + n) _).congr fun i hi => HS.out i hi⟩, mod_set _ _ _ _⟩
  · have hn : n < 2 := hl.2.1 (by omega)
    have ce := hr.cell (i := 34 + n) (by omega)
    rw [plc_en _ _ hn] at ce
    have n1 : (n : Int) < 2 := by omega
    change Hid (Pli.Ok (S.complete n v)) at HO
    change Calls Try.prog _ _ w (Ends (.bool true) fun w' => PlicAt w' p (S.complete n v) ∧ Mod (fun g => g = p) w w')
    have hco : S.complete n v = if v % 4294967296 < 32 then { S with serv := fun s => S.serv s && !(s == v % 4294967296 && S.en n s) } else S := rfl
    rw [hco] at HO ⊢
    have hs : ((v : Int) % 4294967296) = ((v % 4294967296 : Nat) : Int) := by omega
    have hsl : v % 4294967296 < 4294967296 := Nat.mod_lt _ (by decide)
    generalize v % 4294967296 = s at *
    clear hco h hl hokS
    by_cases h32 : s < 32
    · rw [if_pos h32] at HO ⊢
      have h1 := w_and (word_bit h32) (Word.self (S.en n))
      rw [two_cast] at h1
      have h2 := w_not (Word.self fun k => k == s && S.en n k)
      have h3 : bits BinOp.and IntKind.u32 ((wordOf S.serv 32 : Nat) : Int) ((4294967295 - wordOf (fun k => k == s && S.en n k) 32 : Nat) : Int) = ((wordOf (servOf S n s) 32 : Nat) : Int) := w_and (Word.self S.serv) (word_not (Word.self fun k => k == s && S.en n k))
      have h0 := one_shl s h32
      rw [two_cast] at h0
      have h3' : bits BinOp.and IntKind.u32 ((wordOf S.serv 32 : Nat) : Int) (bits BinOp.xor IntKind.u32 (if IntKind.u32.signed = true then -1 else IntKind.u32.max) ((wordOf (fun k => k == s && S.en n k) 32 : Nat) : Int)) = ((wordOf (servOf S n s) 32 : Nat) : Int) := by rw [if_neg (by decide), h2]; exact h3
      have H3 := Lib.hid h3'
      have s1 : (s : Int) < 32 := by omega
      clear hr h3 h3' h2
      go_enter Try.func74, Try.ntmps74
      go_wp2_with (go_at_call 75; refine HW.out.mono ?_; rintro e w' ⟨rfl, rfl⟩)
      go_region_held3 (fun w' => w'.cell? ⟨p, 34 + n, none⟩ = some (.int .u32 ((wordOf (S.en n) 32 : Nat) : Int))) (first | exact (World.cell?_setCell_other _ _ _ _ (by simp <;> omega)).trans ce | exact ce | go_keep) (first | (go_at_call 77; refine (aand ⟨p, 33, none⟩ _ _ _ w.drew (HR.out.cell (i := 33) (by omega)) (HR.out.frozen 33) rfl H3.out).mono ?_; rintro e w2 ⟨rfl, rfl⟩))
      have hr3 := (HR.out.set 33 (.int .u32 ((wordOf (servOf S n s) 32 : Nat) : Int))).congr fun i _ => plc_setServ S (servOf S n s) i
      have HR3 := Lib.hid hr3
      clear hr3
      go_wp2
      go_ret
      exact ⟨rfl, ⟨HO.out, HR3.out⟩, (mod_set _ _ _ _).drew⟩
    · rw [if_neg h32] at HO ⊢
      have s1 : ¬ (s : Int) < 32 := by omega
      clear hr
      go_enter Try.func74, Try.ntmps74
      go_wp2_with (go_at_call 75; refine HW.out.mono ?_; rintro e w' ⟨rfl, rfl⟩)
      go_ret
      exact ⟨rfl, H.out, Mod.refl _ _⟩

end Go.Proofs.Ytalhdcjnaknglaa.Plc
