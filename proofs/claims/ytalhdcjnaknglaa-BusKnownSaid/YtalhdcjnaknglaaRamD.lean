/- The program's memory over one abstract state: LoadCap: what it answers. Condition: a memory lies there. -/
import Derived.Test.YtalhdcjnaknglaaRamC
namespace Go.Proofs.Ytalhdcjnaknglaa
open Go.RowKit

theorem results_tmp4 {fn : Func} {t u v x : Tmp} (h : fn.results = #[.tmp t, .tmp u, .tmp v, .tmp x]) (tmps : Array Value) (P : Program) (w : World) :
    (results fn tmps).run P w = .ok (.tuple #[tmps.getD t undef, tmps.getD u undef, tmps.getD v undef, tmps.getD x undef]) w := by
  simp [results, h]

macro "go_ret4" : tactic => `(tactic|
  ((try simp only [Exit.inBlock, Exit.then]); refine bodyPost_ret (results_tmp4 rfl _ _ _) rfl ?_))

/-- A contract that leaves the world, met where draws add up. -/
theorem quiet_same {F : FuncId} {args : Array Value} {w : World} {n : Nat} {v : Value} (h : Calls Try.prog F args (w.drewN n) (Ends v fun w' => w.drewN n = w')) : Calls Try.prog F args (w.drewN n) fun e w'' => e = .returned v ∧ ∃ m, w'' = w.drewN m :=
  h.mono fun _ _ ⟨he, hm⟩ => ⟨he, n, hm.symm⟩

theorem loadCap_at {w : World} {r rb : Nat} {M : Mem} (h : RamAt w r rb M) (off : Int) :
    Calls Try.prog 28 #[.pointer (some ⟨r, 0, none⟩), .int .i64 off] w (Ends (.tuple #[.bool (M.loadCap off).1, .int .u64 (((M.loadCap off).2.1 : Nat) : Int), .int .u64 (((M.loadCap off).2.2.1 : Nat) : Int), .bool (M.loadCap off).2.2.2]) fun w' => Mod Nil w w') := by
  have c0 := h.c0
  obtain ⟨a, b, c, d, e, hb, tw, hr, hw⟩ := h
  by_cases ht : There M off 16
  · obtain ⟨h0, h1⟩ := ht
    obtain ⟨o, rfl⟩ : ∃ o : Nat, off = (o : Int) := ⟨off.toNat, by omega⟩
    have ho : o + 16 ≤ M.n := by omega
    have hP := part_yes r rb M.n o 16 w (by omega) (by omega) (by omega) b c0
    have HP := Lib.hid hP
    by_cases hm : o % 16 = 0
    · have he : M.loadCap (o : Int) = (M.T (o / 16), num (fun i => M.B (o + i)) 8, num (fun i => M.B (o + 8 + i)) 8, true) := if_pos ⟨⟨h0, h1⟩, by omega⟩
      rw [he]
      have hz : (((o : Int) % 16 == 0) : Bool) = true := by simp; omega
      have hwt := words_test hw (o / 16)
      have HW := Lib.hid hwt
      have HB := Lib.hid hb
      have HR := Lib.hid hr
      have HD := Lib.hid d
      clear hP hb hr d he hwt hw h1
      go_enter Try.func28, Try.ntmps28
      go_wp2_with (go_at_call 40; refine HP.out.mono ?_; rintro e w' ⟨rfl, rfl⟩)
      go_at_call 41
      refine (tag_any _ o _ (by omega)).mono ?_
      rintro e w' ⟨rfl, hm⟩
      have c2 := (hm.row HR.out (fun x => x)).cell (i := 1 + o / 16 / 64) (by omega)
      rw [rfc_s] at c2
      have hG1 := fun n => quiet_same (get_some rb o 8 (M.n - o) (fun i => M.B (o + i)) (w'.drewN n) (by omega) (fun i => HD.out _) (fun i hi => (hm.row HB.out (fun x => x)).cell (i := o + i) (by omega)))
      have hG2 := fun n => quiet_same (get_some rb (o + 8) 8 (M.n - o - 8) (fun i => M.B (o + 8 + i)) (w'.drewN n) (by omega) (fun i => HD.out _) (fun i hi => (hm.row HB.out (fun x => x)).cell (i := o + 8 + i) (by omega)))
      have HG1 := Lib.hid hG1
      have HG2 := Lib.hid hG2
      clear hG1 hG2
      go_wp2
      go_quiet ((go_at_call 42; first | with_reducible exact HG1.out _ | with_reducible exact HG2.out _))
      go_wp2
      go_ret4
      refine ⟨?_, hm.drewN _⟩
      rw [← HW.out]
      rfl
    · have he : M.loadCap (o : Int) = (false, 0, 0, false) := if_neg fun h => hm (by have := h.2; omega)
      rw [he]
      have hz : (((o : Int) % 16 == 0) : Bool) = false := by simp; omega
      clear hP hb hr d he hw h1
      go_enter Try.func28, Try.ntmps28
      go_wp2_with (go_at_call 40; refine HP.out.mono ?_; rintro e w' ⟨rfl, rfl⟩)
      go_ret4
      exact ⟨rfl, Mod.refl _ _⟩
  · have he : M.loadCap off = (false, 0, 0, false) := if_neg fun h => ht h.1
    rw [he]
    have hP := part_no r rb M.n off 16 w (by omega) (by unfold There at ht; omega) b c0
    have HP := Lib.hid hP
    clear hP hb hr d he hw ht
    go_enter Try.func28, Try.ntmps28
    go_wp2_with (go_at_call 40; refine HP.out.mono ?_; rintro e w' ⟨rfl, rfl⟩)
    go_ret4
    exact ⟨rfl, Mod.refl _ _⟩

end Go.Proofs.Ytalhdcjnaknglaa
