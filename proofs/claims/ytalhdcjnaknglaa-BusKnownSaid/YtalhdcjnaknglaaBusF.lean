/- The bus: numbers in memory; lines. Condition: a bus lies there. -/
import Derived.Test.YtalhdcjnaknglaaBusE
import Derived.Test.YtalhdcjnaknglaaPlicE
namespace Go.Proofs.Ytalhdcjnaknglaa
open Go.RowKit
attribute [local go_sem ↓] Go.wp_at_zero Go.wp_at_succ

section
variable {W w : World} {n : Nat} {M : Mem} {now alarm bell : Nat} {S : Plc.Pli}
theorem mem_load (h : Bus W w n M now alarm bell S) (pa : Nat) (k : Int) (hp : pa < 18446744073709551616) (hk : k = 1 ∨ k = 2 ∨ k = 4 ∨ k = 8) (hi : inReg M.n pa k 0 = true) :
    Calls Try.prog 7 #[.pointer (some ⟨n + 6, 0, none⟩), .int .u64 (pa : Int), .int .i64 k] w (Ends (.tuple #[.int .u64 (((M.load ((pa - 2147483648 : Nat) : Int) k).1 : Nat) : Int), .bool (M.load ((pa - 2147483648 : Nat) : Int) k).2]) fun w' => Bus W w' n M now alarm bell S ∧ Mod Nil w w') :=
  (bus_load_ram h pa k hp hk (fnd_ram hi) (R := fun x y w' => x = .int .u64 (((M.load ((pa - 2147483648 : Nat) : Int) k).1 : Nat) : Int) ∧ y = .bool (M.load ((pa - 2147483648 : Nat) : Int) k).2 ∧ Mod Nil w w')
    (fun w' hm => ((h.nil hm).ram.load _ k).mono fun e w'' he => by
      obtain ⟨rfl, rfl⟩ := he
      exact ⟨_, _, rfl, rfl, rfl, hm⟩)).mono fun e w' he => by
      obtain ⟨x, y, rfl, rfl, rfl, hm⟩ := he
      exact ⟨rfl, h.nil hm, hm⟩
theorem mem_store (h : Bus W w n M now alarm bell S) (pa v : Nat) (k : Int) (hp : pa < 18446744073709551616) (hv : v < 18446744073709551616) (hk : k = 1 ∨ k = 2 ∨ k = 4 ∨ k = 8) (hi : inReg M.n pa k 0 = true) :
    Calls Try.prog 8 #[.pointer (some ⟨n + 6, 0, none⟩), .int .u64 (pa : Int), .int .i64 k, .int .u64 (v : Int)] w (Ends (.bool (M.store ((pa - 2147483648 : Nat) : Int) k v).1) fun w' => Bus W w' n (M.store ((pa - 2147483648 : Nat) : Int) k v).2 now alarm bell S ∧ Mod (fun g => g = n + 1 ∨ g = n) w w') :=
  (bus_store_ram h pa v k hp hk (fnd_ram hi) (R := fun y w' => y = (M.store ((pa - 2147483648 : Nat) : Int) k v).1 ∧ Bus W w' n (M.store ((pa - 2147483648 : Nat) : Int) k v).2 now alarm bell S ∧ Mod (fun g => g = n + 1 ∨ g = n) w w')
    (fun w' hm => ((h.nil hm).ram.store _ k v hv).mono fun e w'' he => by
      obtain ⟨rfl, h1, m1⟩ := he
      exact ⟨_, rfl, rfl, (h.nil hm).inRam h1 m1, (hm.of_nil _).trans' m1⟩)).mono fun e w' he => by
      obtain ⟨y, rfl, rfl, h1, m1⟩ := he
      exact ⟨rfl, h1, m1⟩
theorem bell_store (h : Bus W w n M now alarm bell S) (v : Nat) (hv : v < 18446744073709551616) (hf : fnd M.n 33554432 4 = 1) :
    Calls Try.prog 8 #[.pointer (some ⟨n + 6, 0, none⟩), .int .u64 33554432, .int .i64 4, .int .u64 (v : Int)] w (Ends (.bool true) fun w' => Bus W w' n M now alarm (v % 2) S ∧ Mod (fun g => g = n + 2) w w') :=
  (bus_store_clint h 33554432 v 4 (by omega) (by omega) hf (R := fun y w' => y = true ∧ Bus W w' n M now alarm (v % 2) S ∧ Mod (fun g => g = n + 2) w w')
    (fun w' hm => (clint_bell (h.nil hm).clint v hv).mono fun e w'' he => by
      obtain ⟨rfl, h1, m1⟩ := he
      exact ⟨_, rfl, rfl, (h.nil hm).inClint h1 m1, (hm.of_nil _).trans' m1⟩)).mono fun e w' he => by
      obtain ⟨y, rfl, rfl, h1, m1⟩ := he
      exact ⟨rfl, h1, m1⟩
end

/-- The lines, as a number. -/
def linesN (a b c d : Bool) : Nat := (if a then 8 else 0) + (if b then 128 else 0) + (if c then 512 else 0) + (if d then 2048 else 0)

/-- The cells of four lines. -/
def lnF (a b c d : Bool) (i : Nat) : Value := match i with
  | 0 => .bool a | 1 => .int .i64 3 | 2 => .bool b | 3 => .int .i64 7 | 4 => .bool c | 5 => .int .i64 9 | 6 => .bool d | _ => .int .i64 11
theorem ln_row (w : World) (a b c d : Bool) : (w.alloc (.cells #[.bool a, .int .i64 3, .bool b, .int .i64 7, .bool c, .int .i64 9, .bool d, .int .i64 11] 64)).rowIs w.heap.size 64 8 (lnF a b c d) :=
  World.rowIs_alloc w _ _ (lnF a b c d) fun i hi => by
    have hi : i < 8 := hi
    rcases i with _ | _ | _ | _ | _ | _ | _ | _ | i
    all_goals first | rfl | omega

set_option maxHeartbeats 4000000 in
theorem bus_lines {W w : World} {n : Nat} {M : Mem} {now alarm bell : Nat} {S : Plc.Pli} (h : Bus W w n M now alarm bell S) :
    Calls Try.prog 9 #[.pointer (some ⟨n + 6, 0, none⟩)] w (Ends (.int .u64 (linesN (bell == 1) (decide (alarm ≤ now)) (S.pending 1) (S.pending 0) : Int)) fun w' => Mod Nil w w') := by
  have c1 : _ = some (Value.pointer (some ⟨n + 2, 0, none⟩)) := h.cell 1 (by omega)
  have c2 : _ = some (Value.pointer (some ⟨n + 3, 0, none⟩)) := h.cell 2 (by omega)
  have H1 : Hid (∀ k, Calls Try.prog 23 #[.pointer (some ⟨n + 2, 0, none⟩)] (w.drewN k) (Ends (.bool (bell == 1)) fun w' => ∃ m, w' = w.drewN m)) :=
    Lib.hid fun k => (clint_soft (h.nil ((Mod.refl Nil w).drewN k)).clint).mono fun e w' he => by obtain ⟨rfl, rfl⟩ := he; exact ⟨rfl, k, rfl⟩
  have H2 : Hid (∀ k, Calls Try.prog 24 #[.pointer (some ⟨n + 2, 0, none⟩)] (w.drewN k) (Ends (.bool (decide (alarm ≤ now))) fun w' => ∃ m, w' = w.drewN m)) :=
    Lib.hid fun k => (clint_timer (h.nil ((Mod.refl Nil w).drewN k)).clint).mono fun e w' he => by obtain ⟨rfl, m, rfl⟩ := he; exact ⟨rfl, k + m, by rw [World.drewN_drewN]⟩
  have H3 : Hid (∀ k c, Calls Try.prog 25 #[.pointer (some ⟨n + 3, 0, none⟩), .int .i64 c] (w.drewN k) (Ends (.bool (S.pending c)) fun w' => ∃ m, w' = w.drewN m)) :=
    Lib.hid fun k c => (Plc.pending_at (n + 3) S c _ (h.nil ((Mod.refl Nil w).drewN k)).plic).mono fun e w' he => by obtain ⟨rfl, m, rfl⟩ := he; exact ⟨rfl, k + m, by rw [World.drewN_drewN]⟩
  clear h
  unfold linesN
  generalize (bell == 1) = a at *
  generalize decide (alarm ≤ now) = b at *
  generalize hc : S.pending 1 = c at *
  generalize hd : S.pending 0 = d at *
  have HC := Lib.hid hc
  have HD := Lib.hid hd
  clear hc hd
  go_enter Try.func9, Try.ntmps9
  go_wp2_with (fail)
  go_region_held3 (fun w' => w'.cell? ⟨n + 6, 1, none⟩ = some (.pointer (some ⟨n + 2, 0, none⟩)) ∧ w'.cell? ⟨n + 6, 2, none⟩ = some (.pointer (some ⟨n + 3, 0, none⟩))) (first | exact ⟨c1, c2⟩ | go_keep) (first
    | (go_at_call 23; (first | refine (H1.out _).mono ?_ | refine (H1.out 1).mono ?_); rintro e w' ⟨rfl, m1, rfl⟩)
    | (go_at_call 24; (first | refine (H2.out _).mono ?_ | refine (H2.out 1).mono ?_); rintro e w' ⟨rfl, m2, rfl⟩)
    | (go_at_call 25; refine (H3.out _ _).mono ?_; rintro e w' ⟨rfl, m3, rfl⟩))
  rw [HC.out, HD.out]
  have hrow : ((w.drewN m3).alloc (.cells #[.bool a, .int .i64 3, .bool b, .int .i64 7, .bool c, .int .i64 9, .bool d, .int .i64 11] 64)).rowIs w.heap.size 64 8 (lnF a b c d) := ln_row (w.drewN m3) a b c d
  have hm : Mod Nil w ((w.drewN m3).alloc (.cells #[.bool a, .int .i64 3, .bool b, .int .i64 7, .bool c, .int .i64 9, .bool d, .int .i64 11] 64)) := ((Mod.refl Nil w).drewN m3).alloc _
  generalize (w.drewN m3).alloc (.cells #[.bool a, .int .i64 3, .bool b, .int .i64 7, .bool c, .int .i64 9, .bool d, .int .i64 11] 64) = w1 at *
  have HM := Lib.hid hm
  have HR := Lib.hid hrow
  clear hm hrow c1 c2
  go_wp2_with (fail)
  refine wp_loop_rounds 5 ?_
  all_goals
    have e0 : _ = some (Value.bool a) := HR.out.cell (i := 0) (by omega)
    have e1 : _ = some (Value.int .i64 3) := HR.out.cell (i := 1) (by omega)
    have hlt := HR.out.lt
    rw [rounds_succ]
    cases a
  all_goals go_wp2_with (fail)
  all_goals
    clear e0 e1 hlt
    generalize Obj.cells #[Value.bool _, Value.int .i64 3] 64 = o0 at *
    have m := (Mod.refl Nil w1).alloc o0
    have HM2 := Lib.hid (HM.out.trans' m)
    have HR2 := Lib.hid (m.row HR.out (fun x => x))
    clear HM HR m
    generalize w1.alloc o0 = w2 at *
    have HM := Lib.hid HM2.out
    have HR := Lib.hid HR2.out
    clear HM2 HR2
  all_goals
    have e0 : _ = some (Value.bool b) := HR.out.cell (i := 2) (by omega)
    have e1 : _ = some (Value.int .i64 7) := HR.out.cell (i := 3) (by omega)
    have hlt := HR.out.lt
    rw [rounds_succ]
    cases b
  all_goals go_wp2_with (fail)
  all_goals
    clear e0 e1 hlt
    generalize Obj.cells #[Value.bool _, Value.int .i64 7] 64 = o1 at *
    have m := (Mod.refl Nil w2).alloc o1
    have HM2 := Lib.hid (HM.out.trans' m)
    have HR2 := Lib.hid (m.row HR.out (fun x => x))
    clear HM HR m
    generalize w2.alloc o1 = w3 at *
    have HM := Lib.hid HM2.out
    have HR := Lib.hid HR2.out
    clear HM2 HR2
  all_goals
    have e0 : _ = some (Value.bool c) := HR.out.cell (i := 4) (by omega)
    have e1 : _ = some (Value.int .i64 9) := HR.out.cell (i := 5) (by omega)
    have hlt := HR.out.lt
    rw [rounds_succ]
    cases c
  all_goals go_wp2_with (fail)
  all_goals
    clear e0 e1 hlt
    generalize Obj.cells #[Value.bool _, Value.int .i64 9] 64 = o2 at *
    have m := (Mod.refl Nil w3).alloc o2
    have HM2 := Lib.hid (HM.out.trans' m)
    have HR2 := Lib.hid (m.row HR.out (fun x => x))
    clear HM HR m
    generalize w3.alloc o2 = w4 at *
    have HM := Lib.hid HM2.out
    have HR := Lib.hid HR2.out
    clear HM2 HR2
  all_goals
    have e0 : _ = some (Value.bool d) := HR.out.cell (i := 6) (by omega)
    have e1 : _ = some (Value.int .i64 11) := HR.out.cell (i := 7) (by omega)
    have hlt := HR.out.lt
    rw [rounds_succ]
    cases d
  all_goals go_wp2_with (fail)
  all_goals
    clear e0 e1 hlt
    generalize Obj.cells #[Value.bool _, Value.int .i64 11] 64 = o3 at *
    have m := (Mod.refl Nil w4).alloc o3
    have HM2 := Lib.hid (HM.out.trans' m)
    have HR2 := Lib.hid (m.row HR.out (fun x => x))
    clear HM HR m
    generalize w4.alloc o3 = w5 at *
    have HM := Lib.hid HM2.out
    have HR := Lib.hid HR2.out
    clear HM2 HR2
  all_goals
    rw [rounds_succ]
    go_wp2
    go_ret
    exact ⟨rfl, HM.out⟩

end Go.Proofs.Ytalhdcjnaknglaa
