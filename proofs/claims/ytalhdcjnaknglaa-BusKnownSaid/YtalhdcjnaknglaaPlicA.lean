/- The program's interrupt controller over one abstract state: best, claim, which, Lines, Load, Store, Pending. Condition: such a controller lies there. -/
import Derived.Test.YtalhdcjnaknglaaAtom
import Derived.Deep.RegionHeld3
import Derived.Deep.DrawnRows
namespace Go.Proofs.Ytalhdcjnaknglaa.Plc
open Go.RowKit
attribute [local go_sem ↓] Go.wp_at_zero Go.wp_at_succ

theorem cells_plic : Try.prog.cellsOf 103 = 38 := by kernel_rfl

/-- The cells of a controller. -/
def plc (S : Pli) (i : Nat) : Value :=
  if i < 32 then .int .u32 ((S.pri i : Nat) : Int) else if i = 32 then .int .u32 ((wordOf S.pend 32 : Nat) : Int) else if i = 33 then .int .u32 ((wordOf S.serv 32 : Nat) : Int)
  else if i < 36 then .int .u32 ((wordOf (S.en (i - 34)) 32 : Nat) : Int) else .int .u32 ((S.thr (i - 36) : Nat) : Int)

def PlicAt (w : World) (p : Nat) (S : Pli) : Prop := S.Ok ∧ w.rowIs p 103 38 (plc S)
theorem PlicAt.keep {w w' : World} {p : Nat} {S : Pli} {F : Nat → Prop} (h : PlicAt w p S) (hm : Mod F w w') (h1 : ¬ F p) : PlicAt w' p S := ⟨h.1, hm.row h.2 h1⟩
theorem PlicAt.lt {w : World} {p : Nat} {S : Pli} (h : PlicAt w p S) : p < w.heap.size := h.2.lt

/-- Nothing but draws. -/
def Quiet (w w' : World) : Prop := ∃ n, w' = w.drewN n
theorem Quiet.refl (w : World) : Quiet w w := ⟨0, rfl⟩
theorem Quiet.drewN {w w' : World} (h : Quiet w w') (n : Nat) : Quiet w (w'.drewN n) := by
  obtain ⟨m, rfl⟩ := h
  exact ⟨m + n, by rw [World.drewN_drewN]⟩
theorem Quiet.mod {w w' : World} (h : Quiet w w') : Mod Nil w w' := by
  obtain ⟨m, rfl⟩ := h
  exact (Mod.refl _ _).drewN m
theorem quiet_same {F : FuncId} {args : Array Value} {w : World} {n : Nat} {v : Value} (h : Calls Try.prog F args (w.drewN n) (Ends v fun w' => w.drewN n = w')) : Calls Try.prog F args (w.drewN n) fun e w'' => e = .returned v ∧ ∃ m, w'' = w.drewN m :=
  h.mono fun _ _ ⟨he, hm⟩ => ⟨he, n, hm.symm⟩
theorem quiet_more {F : FuncId} {args : Array Value} {w : World} {n : Nat} {v : Value} (h : Calls Try.prog F args (w.drewN n) (Ends v fun w' => Quiet (w.drewN n) w')) : Calls Try.prog F args (w.drewN n) fun e w'' => e = .returned v ∧ ∃ m, w'' = w.drewN m :=
  h.mono fun _ _ ⟨he, m, hm⟩ => ⟨he, n + m, by rw [hm, World.drewN_drewN]⟩

theorem bit_test (x s : Nat) (hx : x < 4294967296) : (bits BinOp.and IntKind.u32 ((x : Int) / 2 ^ s) 1 == 1) = x.testBit s := by
  have e : ((x : Int) / 2 ^ s) = ((x / 2 ^ s : Nat) : Int) := by rw [Int.natCast_ediv, Int.natCast_pow]; rfl
  have hl : x / 2 ^ s < 4294967296 := Nat.lt_of_le_of_lt (Nat.div_le_self _ _) hx
  rw [e, show (1 : Int) = ((1 : Nat) : Int) from rfl, u32_and_nat _ _ hl (by decide), Nat.and_one_is_mod, Nat.testBit_eq_decide_div_mod_eq]
  by_cases h : x / 2 ^ s % 2 = 1
  · rw [h]; rfl
  · have h0 : x / 2 ^ s % 2 = 0 := by omega
    rw [h0]; rfl

theorem best_any (p : Nat) (S : Pli) (f : Nat → Bool) (above : Nat) (w : World) (_ha : above < 4294967296) (hp : ∀ s, S.pri s < 4294967296) (hr : w.rowIs p 103 38 (plc S)) :
    Calls Try.prog 37 #[.pointer (some ⟨p, 0, none⟩), .int .u32 ((wordOf f 32 : Nat) : Int), .int .u32 (above : Int)] w (Ends (.int .u32 ((best f S.pri above : Nat) : Int)) fun w' => Quiet w w') := by
  have HR := Lib.hid hr
  have HP := Lib.hid hp
  have hx := (Word.self f).1
  have HW := Lib.hid (Word.self f).2
  generalize wordOf f 32 = x at *
  clear hr hp
  go_enter Try.func37, Try.ntmps37
  go_wp2
  go_loopw [2, 7, 8] (fun ab b i wr => ∃ q : Nat, q ≤ 31 ∧ i = .int .u32 ((q : Int) + 1) ∧ b = .int .u32 ((up f S.pri above q).1 : Nat) ∧ ab = .int .u32 ((up f S.pri above q).2 : Nat) ∧ Quiet w wr) (fun _ _ i _ => 32 - (intOf i).toNat)
  case atStart => exact ⟨0, by omega, rfl, rfl, rfl, Quiet.refl _⟩
  case round =>
    obtain ⟨q, hq, rfl, rfl, rfl, hm⟩ := hrel
    by_cases hqk : q < 31
    · have cq := (hm.mod.row HR.out (fun x => x)).cell (i := q + 1) (by omega)
      rw [show plc S (q + 1) = .int .u32 ((S.pri (q + 1) : Nat) : Int) from if_pos (by omega)] at cq
      have hb := bit_test x (q + 1) hx
      rw [HW.out (q + 1) (by omega)] at hb
      have hup : up f S.pri above (q + 1) = if f (q + 1) && decide (S.pri (q + 1) > (up f S.pri above q).2) then (q + 1, S.pri (q + 1)) else up f S.pri above q := rfl
      have HU := Lib.hid hup
      have hpq := HP.out (q + 1)
      have HM := Lib.hid hm
      have q0 : (0 : Int) ≤ (q : Int) + 1 := by omega
      have q1 : (q : Int) + 1 < 32 := by omega
      clear hup hm
      rcases hf : f (q + 1) with _ | _
      · rw [hf] at hb HU
        clear cq
        go_wp2
        go_roundw
        case rel => exact ⟨q + 1, by omega, by go_num, by rw [HU.out]; rfl, by rw [HU.out]; rfl, HM.out⟩
        case measure => simp [intOf]; omega
      · rw [hf] at hb HU
        by_cases hlt : (up f S.pri above q).2 < S.pri (q + 1)
        · have e : up f S.pri above (q + 1) = (q + 1, S.pri (q + 1)) := by rw [HU.out, if_pos (by simpa using hlt)]
          have HE := Lib.hid e
          clear e HU
          generalize (up f S.pri above q).2 = ab at *
          generalize (up f S.pri above q).1 = be at *
          go_wp2
          go_quiet (fail)
          go_wp2
          go_roundw
          case rel => exact ⟨q + 1, by omega, by go_num, by rw [HE.out]; go_num, by rw [HE.out], HM.out.drewN _⟩
          case measure => simp [intOf]; omega
        · have e : up f S.pri above (q + 1) = up f S.pri above q := by rw [HU.out, if_neg (by simpa using hlt)]
          have HE := Lib.hid e
          clear e HU
          generalize up f S.pri above q = ab at *
          go_wp2
          go_roundw
          case rel => exact ⟨q + 1, by omega, by go_num, by rw [HE.out], by rw [HE.out], HM.out⟩
          case measure => simp [intOf]; omega
    · obtain rfl : q = 31 := by omega
      have Hm := Lib.hid hm
      clear hm
      go_wp2
      go_ret
      exact ⟨rfl, Hm.out⟩

end Go.Proofs.Ytalhdcjnaknglaa.Plc
