/- The program's interrupt controller: claim, Lines, Pending. Condition: such a controller lies there. -/
import Derived.Test.YtalhdcjnaknglaaPlicC
namespace Go.Proofs.Ytalhdcjnaknglaa.Plc
open Go.RowKit
attribute [local go_sem ↓] Go.wp_at_zero Go.wp_at_succ

theorem plc_pend (S : Pli) : plc S 32 = .int .u32 ((wordOf S.pend 32 : Nat) : Int) := rfl
theorem plc_serv (S : Pli) : plc S 33 = .int .u32 ((wordOf S.serv 32 : Nat) : Int) := rfl
theorem plc_en (S : Pli) (c : Nat) (h : c < 2) : plc S (34 + c) = .int .u32 ((wordOf (S.en c) 32 : Nat) : Int) := by
  unfold plc
  rw [if_neg (by omega), if_neg (by omega), if_neg (by omega), if_pos (by omega), show 34 + c - 34 = c from by omega]
theorem plc_thr (S : Pli) (c : Nat) (h : c < 2) : plc S (36 + c) = .int .u32 ((S.thr c : Nat) : Int) := by
  unfold plc
  rw [if_neg (by omega), if_neg (by omega), if_neg (by omega), if_neg (by omega), show 36 + c - 36 = c from by omega]
theorem plc_pri (S : Pli) (s : Nat) (h : s < 32) : plc S s = .int .u32 ((S.pri s : Nat) : Int) := if_pos h

theorem plc_setPend (S : Pli) (f : Nat → Bool) (i : Nat) : (if i = 32 then .int .u32 ((wordOf f 32 : Nat) : Int) else plc S i) = plc { S with pend := f } i := by
  by_cases h : i = 32
  · rw [if_pos h]; subst h; rfl
  · rw [if_neg h]; unfold plc; simp [h]
theorem plc_setServ (S : Pli) (f : Nat → Bool) (i : Nat) : (if i = 33 then .int .u32 ((wordOf f 32 : Nat) : Int) else plc S i) = plc { S with serv := f } i := by
  by_cases h : i = 33
  · rw [if_pos h]; subst h; rfl
  · rw [if_neg h]; unfold plc; simp [h]

theorem one_shl (s : Nat) (hs : s < 32) : IntKind.u32.wrap ((2 : Int) ^ s) = ((2 ^ s : Nat) : Int) := by
  have h := (word_bit hs).1
  rw [IntKind.wrap_u32, show ((2 : Int) ^ s) = ((2 ^ s : Nat) : Int) from by push_cast; rfl]
  exact Int.emod_eq_of_lt (Int.natCast_nonneg _) (by omega)

theorem word_xor {x : Nat} {f : Nat → Bool} (hx : Word x f) : 4294967295 ^^^ x = 4294967295 - x := by
  have h1 : Word (4294967295 ^^^ x) (fun k => !f k) := ⟨Nat.xor_lt_two_pow (n := 32) (by decide) hx.1, fun k hk => by
    rw [Nat.testBit_xor, hx.2 k hk, show (4294967295 : Nat) = 2 ^ 32 - 1 from rfl, Nat.testBit_two_pow_sub_one, decide_eq_true hk, Bool.true_xor]⟩
  rw [h1.eq, (word_not hx).eq]
theorem w_not {x : Nat} {f : Nat → Bool} (hx : Word x f) : bits BinOp.xor IntKind.u32 IntKind.u32.max (x : Int) = ((4294967295 - x : Nat) : Int) := by
  rw [show IntKind.u32.max = ((4294967295 : Nat) : Int) from rfl, u32_xor_nat _ _ (by decide) hx.1, word_xor hx]
theorem two_cast (n : Nat) : ((2 ^ n : Nat) : Int) = (2 : Int) ^ n := by push_cast; rfl

set_option maxHeartbeats 1000000 in
theorem claim_at (p : Nat) (S : Pli) (c : Nat) (w : World) (hc : c < 2) (h : PlicAt w p S) :
    Calls Try.prog 76 #[.pointer (some ⟨p, 0, none⟩), .int .i64 (c : Int)] w (Ends (.int .u32 (((S.claim c).1 : Nat) : Int)) fun w' => PlicAt w' p (S.claim c).2 ∧ Mod (fun g => g = p) w w') := by
  obtain ⟨hok, hr⟩ := h
  have c32 := hr.cell (i := 32) (by omega)
  have ce := hr.cell (i := 34 + c) (by omega)
  rw [plc_pend] at c32
  rw [plc_en _ _ hc] at ce
  have hand := w_and (Word.self S.pend) (Word.self (S.en c))
  have HB := Lib.hid fun n => Calls.quiet_of (w := w) (n := n) (best_any p S (S.may c) 0 (w.drewN n) (by decide) (fun s => by have := hok.pri s; omega) (rowIs_drewN hr n))
  have HL := Lib.hid fun n => quiet_same (w := w) (n := n) (aload ⟨p, 32, none⟩ _ (w.drewN n) c32 rfl)
  have hbl : S.best c ≤ 31 := best_lt _ _ _
  have HR := Lib.hid hr
  have HOK := Lib.hid hok
  clear hr hok
  change bits BinOp.and IntKind.u32 _ _ = ((wordOf (S.may c) 32 : Nat) : Int) at hand
  have hcl : S.claim c = (S.best c, if 0 < S.best c then { S with pend := fun s => S.pend s && s != S.best c, serv := fun s => S.serv s || s == S.best c } else S) := rfl
  rw [hcl]
  clear hcl
  change Hid (∀ n, Calls _ _ _ _ fun e w'' => e = .returned (.int .u32 ((S.best c : Nat) : Int)) ∧ _) at HB
  by_cases hb0 : 0 < S.best c
  · have hs1 := w_not (word_bit (s := S.best c) (by omega))
    have hs0 := one_shl (S.best c) (by omega)
    rw [two_cast] at hs1
    rw [if_pos hb0]
    go_enter Try.func76, Try.ntmps76
    go_wp2
    go_quiet ((first | (go_at_call 38; exact HL.out _) | (go_at_call 37; exact HB.out _)))
    go_wp2_with (fail)
    have hr1 := rowIs_drewN HR.out nq
    refine (aand ⟨p, 32, none⟩ _ _ _ _ (hr1.cell (i := 32) (by omega)) (hr1.frozen 32) rfl (w_and (Word.self S.pend) (word_not (word_bit (s := S.best c) (by omega))))).mono ?_
    rintro e w1 ⟨rfl, rfl⟩
    have hr2 := (hr1.set 32 (.int .u32 ((wordOf (fun k => S.pend k && !(k == S.best c)) 32 : Nat) : Int))).congr fun i _ => plc_setPend S (fun k => S.pend k && !(k == S.best c)) i
    have hf2 := hr2.frozen 33
    have hc2 := hr2.cell (i := 33) (by omega)
    have hm2 := ((Mod.refl (fun g => g = p) w).drewN nq).setCell (p := ⟨p, 32, none⟩) (.inl rfl) (.int .u32 ((wordOf (fun k => S.pend k && !(k == S.best c)) 32 : Nat) : Int))
    have HR2 := Lib.hid hr2
    have HM2 := Lib.hid hm2
    clear hr2 hm2 hr1
    go_wp2_with (fail)
    refine (aor ⟨p, 33, none⟩ _ _ _ _ hc2 hf2 rfl (w_or (Word.self S.serv) (word_bit (s := S.best c) (by omega)))).mono ?_
    rintro e w1 ⟨rfl, rfl⟩
    have hr3 := (HR2.out.set 33 (.int .u32 ((wordOf (fun k => S.serv k || k == S.best c) 32 : Nat) : Int))).congr fun i _ => plc_setServ _ (fun k => S.serv k || k == S.best c) i
    have hm3 := HM2.out.setCell (p := ⟨p, 33, none⟩) (.inl rfl) (.int .u32 ((wordOf (fun k => S.serv k || k == S.best c) 32 : Nat) : Int))
    have HR3 := Lib.hid hr3
    have HM3 := Lib.hid hm3
    have hokc := HOK.out.claim c
    unfold Pli.claim at hokc
    rw [if_pos hb0] at hokc
    have HO := Lib.hid hokc
    clear hr3 hm3 hc2 hf2 hokc
    go_wp2
    go_ret
    exact ⟨rfl, ⟨HO.out, HR3.out⟩, HM3.out⟩
  · rw [if_neg hb0]
    go_enter Try.func76, Try.ntmps76
    go_wp2
    go_quiet ((first | (go_at_call 38; exact HL.out _) | (go_at_call 37; exact HB.out _)))
    go_wp2_with (fail)
    go_ret
    exact ⟨rfl, ⟨HOK.out, rowIs_drewN HR.out nq⟩, (Mod.refl _ _).drewN nq⟩

end Go.Proofs.Ytalhdcjnaknglaa.Plc
