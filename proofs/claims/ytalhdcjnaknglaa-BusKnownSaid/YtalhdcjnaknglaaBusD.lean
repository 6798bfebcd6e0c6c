/- The bus: whether some bytes are memory; which region they are in. Condition: a bus lies there. -/
import Derived.Test.YtalhdcjnaknglaaBusC
import Derived.Handy
namespace Go.Proofs.Ytalhdcjnaknglaa
open Go.RowKit
attribute [local go_sem ↓] Go.wp_at_zero Go.wp_at_succ

def regB : Nat → Nat | 0 => 2147483648 | 1 => 33554432 | 2 => 201326592 | 3 => 268435456 | _ => 1048576
def regS (k : Nat) : Nat → Nat | 0 => k | 1 => 65536 | 2 => 4194304 | 3 => 256 | _ => 4096
def regT : Nat → Nat | 0 => 34 | 1 => 35 | 2 => 36 | 3 => 37 | _ => 38
/-- The i-th region, as a value. -/
def regV (n k i : Nat) : Value := .agg #[.iface (regT i) (.pointer (some ⟨n + 1 + i, 0, none⟩)), .int .u64 (regB i : Int), .int .u64 (regS k i : Int)]
/-- Are the bytes in the i-th region? -/
def inReg (k pa : Nat) (size : Int) (i : Nat) : Bool := offB (regB i) (regS k i) pa size

def regF (n k i : Nat) : Value := match i with
  | 0 => .iface 34 (.pointer (some ⟨n + 1, 0, none⟩)) | 1 => .int .u64 2147483648 | 2 => .int .u64 (k : Int)
  | 3 => .iface 35 (.pointer (some ⟨n + 2, 0, none⟩)) | 4 => .int .u64 33554432 | 5 => .int .u64 65536
  | 6 => .iface 36 (.pointer (some ⟨n + 3, 0, none⟩)) | 7 => .int .u64 201326592 | 8 => .int .u64 4194304
  | 9 => .iface 37 (.pointer (some ⟨n + 4, 0, none⟩)) | 10 => .int .u64 268435456 | 11 => .int .u64 256
  | 12 => .iface 38 (.pointer (some ⟨n + 5, 0, none⟩)) | 13 => .int .u64 1048576 | _ => .int .u64 4096

theorem regc_row (w : World) (n k q : Nat) : ((w.alloc (.cells (regc n k).toArray 69)).drewN q).rowIs w.heap.size 69 15 (regF n k) := by
  have h := World.rowIs_alloc w (regc n k).toArray 69 (regF n k) fun i hi => by
    have hi : i < 15 := hi
    rcases i with _ | _ | _ | _ | _ | _ | _ | _ | _ | _ | _ | _ | _ | _ | _ | i
    all_goals first | rfl | omega
  exact (((Mod.refl Nil _).drewN q).row h (fun x => x))

set_option maxHeartbeats 4000000 in
theorem in_ram {W w : World} {n : Nat} {M : Mem} {now alarm bell : Nat} {S : Plc.Pli} (h : Bus W w n M now alarm bell S) (pa : Nat) (k : Int) (hp : pa < 18446744073709551616) (hk : k < 9223372036854775808) (hk2 : -9223372036854775808 ≤ k) :
    Calls Try.prog 10 #[.pointer (some ⟨n + 6, 0, none⟩), .int .u64 (pa : Int), .int .i64 k] w (Ends (.bool (inReg M.n pa k 0)) fun w' => Mod Nil w w') := by
  have hM := h.ram.ram.2.1
  have hlt := h.lt
  have hb : inReg M.n pa k 0 = offB 2147483648 M.n pa k := rfl
  rw [hb]
  obtain ⟨B, hB⟩ : ∃ B, B = offB 2147483648 M.n pa k := ⟨_, rfl⟩
  rw [← hB]
  have HBB := Lib.hid hB
  clear hB hb
  have HR := Lib.hid (regions_at h)
  have HO := fun w1 => Lib.hid (off_any 34 (n + 1) 2147483648 M.n pa k w1 (by omega) (by omega) hp hk hk2)
  clear h
  go_enter Try.func10, Try.ntmps10
  go_wp2_with (fail)
  refine HR.out.mono ?_
  rintro e w1 ⟨rfl, q, rfl⟩
  have hr := regc_row w n M.n q
  have c0 : _ = some (Value.iface 34 (.pointer (some ⟨n + 1, 0, none⟩))) := hr.cell (i := 0) (by omega)
  have c1 : _ = some (Value.int .u64 2147483648) := hr.cell (i := 1) (by omega)
  have c2 : _ = some (Value.int .u64 (M.n : Int)) := hr.cell (i := 2) (by omega)
  generalize hw1 : (w.alloc (.cells (regc n M.n).toArray 69)).drewN q = w1 at *
  have hmod : Mod Nil w w1 := by rw [← hw1]; exact ((Mod.refl Nil w).alloc _).drewN q
  have HM := Lib.hid hmod
  clear hmod hw1 hr
  go_wp2_with (fail)
  refine (HO w1).out.mono ?_
  rintro e w2 ⟨o, ho, rfl, m2⟩
  have M2 := Lib.hid (HM.out.trans' m2)
  have HB := Lib.hid ho
  clear m2 ho
  rw [← HBB.out]
  go_wp2_with (fail)
  go_ret
  exact ⟨rfl, M2.out⟩

/-- A copy of a region lies behind an allocation; what lay before still lies. -/
theorem reg_copy {w w1 w2 : World} {a b c : Value} {g T : Nat} {f : Nat → Value} (hm : Mod Nil w w1) (hr : w1.rowIs g T 15 f) (m2 : Mod Nil (w1.alloc (.cells #[a, b, c] 69)) w2) :
    Mod Nil w w2 ∧ w2.rowIs g T 15 f ∧ w2.cell? ⟨w1.heap.size, 0, none⟩ = some a ∧ w2.cell? ⟨w1.heap.size, 1, none⟩ = some b ∧ w2.cell? ⟨w1.heap.size, 2, none⟩ = some c := by
  have ha := (Mod.refl Nil w1).alloc (.cells #[a, b, c] 69)
  have hrow := World.rowIs_alloc w1 #[a, b, c] 69 (fun i => match i with | 0 => a | 1 => b | _ => c) fun i hi => by
    have hi : i < 3 := hi
    rcases i with _ | _ | _ | i
    all_goals first | rfl | omega
  have h2 := m2.row hrow (fun x => x)
  exact ⟨(hm.trans' ha).trans' m2, m2.row (ha.row hr (fun x => x)) (fun x => x), h2.cell (i := 0) (by show 0 < 3; omega), h2.cell (i := 1) (by show 1 < 3; omega), h2.cell (i := 2) (by show 2 < 3; omega)⟩

/-- The bytes' region: 5: there is none. -/
def fnd (k pa : Nat) (size : Int) : Nat := if inReg k pa size 0 then 0 else if inReg k pa size 1 then 1 else if inReg k pa size 2 then 2 else if inReg k pa size 3 then 3 else if inReg k pa size 4 then 4 else 5
/-- A region in an interface; nil. -/
def fndV (n k i : Nat) : Value := if i < 5 then .iface 69 (regV n k i) else .nilIface

set_option maxHeartbeats 8000000 in
theorem find_at {W w : World} {n : Nat} {M : Mem} {now alarm bell : Nat} {S : Plc.Pli} (h : Bus W w n M now alarm bell S) (pa : Nat) (k : Int) (hp : pa < 18446744073709551616) (hk : k = 1 ∨ k = 2 ∨ k = 4 ∨ k = 8) :
    Calls Try.prog 22 #[.pointer (some ⟨n + 6, 0, none⟩), .int .u64 (pa : Int), .int .i64 k] w (fun e w' => ∃ o : Int, (fnd M.n pa k < 5 → o = ((pa - regB (fnd M.n pa k) : Nat) : Int)) ∧ Ends (.tuple #[fndV n M.n (fnd M.n pa k), .int .i64 o]) (fun w' => Mod Nil w w') e w') := by
  have hM := h.ram.ram.2.1
  have hlt := h.lt
  have HR := Lib.hid (regions_at h)
  have H0 := fun w1 => Lib.hid (off_any 34 (n + 1) 2147483648 M.n pa k w1 (by omega) (by omega) hp (by omega) (by omega))
  have H1 := fun w1 => Lib.hid (off_any 35 (n + 2) 33554432 65536 pa k w1 (by omega) (by omega) hp (by omega) (by omega))
  have H2 := fun w1 => Lib.hid (off_any 36 (n + 3) 201326592 4194304 pa k w1 (by omega) (by omega) hp (by omega) (by omega))
  have H3 := fun w1 => Lib.hid (off_any 37 (n + 4) 268435456 256 pa k w1 (by omega) (by omega) hp (by omega) (by omega))
  have H4 := fun w1 => Lib.hid (off_any 38 (n + 5) 1048576 4096 pa k w1 (by omega) (by omega) hp (by omega) (by omega))
  clear h
  obtain ⟨F, hF⟩ : ∃ F, F = fnd M.n pa k := ⟨_, rfl⟩
  rw [← hF]
  have HF : Hid (F = if offB 2147483648 M.n pa k then 0 else if offB 33554432 65536 pa k then 1 else if offB 201326592 4194304 pa k then 2 else if offB 268435456 256 pa k then 3 else if offB 1048576 4096 pa k then 4 else 5) := Lib.hid hF
  clear hF
  go_enter Try.func22, Try.ntmps22
  rcases hk with rfl | rfl | rfl | rfl
  all_goals
    go_wp2_with (fail)
    refine HR.out.mono ?_
    rintro e w1 ⟨rfl, q, rfl⟩
    have hr := regc_row w n M.n q
    generalize hw1 : (w.alloc (.cells (regc n M.n).toArray 69)).drewN q = w1 at *
    have hmod : Mod Nil w w1 := by rw [← hw1]; exact ((Mod.refl Nil w).alloc _).drewN q
    have HM := Lib.hid hmod
    have HRR := Lib.hid hr
    clear hmod hw1 hr
    go_wp2_with (fail)
    refine wp_loop_rounds 6 ?_
    have c0 : _ = some (Value.iface 34 (.pointer (some ⟨n + 1, 0, none⟩))) := HRR.out.cell (i := 0) (by omega)
    have c1 : _ = some (Value.int .u64 2147483648) := HRR.out.cell (i := 1) (by omega)
    have c2 : _ = some (Value.int .u64 (M.n : Int)) := HRR.out.cell (i := 2) (by omega)

    rw [rounds_succ]
    go_wp2_with (fail)
    refine (H0 _).out.mono ?_
    rintro e v0 ⟨o, ho, rfl, m2⟩
    obtain ⟨hm, hr, d0, d1, d2⟩ := reg_copy HM.out HRR.out m2
    have HO := Lib.hid ho
    clear ho m2 c0 c1 c2 HM HRR
    have HM := Lib.hid hm
    have HRR := Lib.hid hr
    clear hm hr
    generalize offB 2147483648 M.n pa _ = b0 at *
    cases b0
    rotate_left
    · go_wp2
      go_ret2
      have hF : F = 0 := HF.out
      refine ⟨_, fun _ => ?_, by rw [hF]; rfl, HM.out⟩
      rw [hF]
      exact HO.out (by trivial)
    clear d0 d1 d2 HO
    have c0 : _ = some (Value.iface 35 (.pointer (some ⟨n + 2, 0, none⟩))) := HRR.out.cell (i := 3) (by omega)
    have c1 : _ = some (Value.int .u64 33554432) := HRR.out.cell (i := 4) (by omega)
    have c2 : _ = some (Value.int .u64 65536) := HRR.out.cell (i := 5) (by omega)
    go_wp2_with (fail)
    rw [rounds_succ]
    go_wp2_with (fail)
    refine (H1 _).out.mono ?_
    rintro e v1 ⟨o, ho, rfl, m2⟩
    obtain ⟨hm, hr, d0, d1, d2⟩ := reg_copy HM.out HRR.out m2
    have HO := Lib.hid ho
    clear ho m2 c0 c1 c2 HM HRR
    have HM := Lib.hid hm
    have HRR := Lib.hid hr
    clear hm hr
    generalize offB 33554432 65536 pa _ = b1 at *
    cases b1
    rotate_left
    · go_wp2
      go_ret2
      have hF : F = 1 := HF.out
      refine ⟨_, fun _ => ?_, by rw [hF]; rfl, HM.out⟩
      rw [hF]
      exact HO.out (by trivial)
    clear d0 d1 d2 HO
    have c0 : _ = some (Value.iface 36 (.pointer (some ⟨n + 3, 0, none⟩))) := HRR.out.cell (i := 6) (by omega)
    have c1 : _ = some (Value.int .u64 201326592) := HRR.out.cell (i := 7) (by omega)
    have c2 : _ = some (Value.int .u64 4194304) := HRR.out.cell (i := 8) (by omega)
    go_wp2_with (fail)
    rw [rounds_succ]
    go_wp2_with (fail)
    refine (H2 _).out.mono ?_
    rintro e v2 ⟨o, ho, rfl, m2⟩
    obtain ⟨hm, hr, d0, d1, d2⟩ := reg_copy HM.out HRR.out m2
    have HO := Lib.hid ho
    clear ho m2 c0 c1 c2 HM HRR
    have HM := Lib.hid hm
    have HRR := Lib.hid hr
    clear hm hr
    generalize offB 201326592 4194304 pa _ = b2 at *
    cases b2
    rotate_left
    · go_wp2
      go_ret2
      have hF : F = 2 := HF.out
      refine ⟨_, fun _ => ?_, by rw [hF]; rfl, HM.out⟩
      rw [hF]
      exact HO.out (by trivial)
    clear d0 d1 d2 HO
    have c0 : _ = some (Value.iface 37 (.pointer (some ⟨n + 4, 0, none⟩))) := HRR.out.cell (i := 9) (by omega)
    have c1 : _ = some (Value.int .u64 268435456) := HRR.out.cell (i := 10) (by omega)
    have c2 : _ = some (Value.int .u64 256) := HRR.out.cell (i := 11) (by omega)
    go_wp2_with (fail)
    rw [rounds_succ]
    go_wp2_with (fail)
    refine (H3 _).out.mono ?_
    rintro e v3 ⟨o, ho, rfl, m2⟩
    obtain ⟨hm, hr, d0, d1, d2⟩ := reg_copy HM.out HRR.out m2
    have HO := Lib.hid ho
    clear ho m2 c0 c1 c2 HM HRR
    have HM := Lib.hid hm
    have HRR := Lib.hid hr
    clear hm hr
    generalize offB 268435456 256 pa _ = b3 at *
    cases b3
    rotate_left
    · go_wp2
      go_ret2
      have hF : F = 3 := HF.out
      refine ⟨_, fun _ => ?_, by rw [hF]; rfl, HM.out⟩
      rw [hF]
      exact HO.out (by trivial)
    clear d0 d1 d2 HO
    have c0 : _ = some (Value.iface 38 (.pointer (some ⟨n + 5, 0, none⟩))) := HRR.out.cell (i := 12) (by omega)
    have c1 : _ = some (Value.int .u64 1048576) := HRR.out.cell (i := 13) (by omega)
    have c2 : _ = some (Value.int .u64 4096) := HRR.out.cell (i := 14) (by omega)
    go_wp2_with (fail)
    rw [rounds_succ]
    go_wp2_with (fail)
    refine (H4 _).out.mono ?_
    rintro e v4 ⟨o, ho, rfl, m2⟩
    obtain ⟨hm, hr, d0, d1, d2⟩ := reg_copy HM.out HRR.out m2
    have HO := Lib.hid ho
    clear ho m2 c0 c1 c2 HM HRR
    have HM := Lib.hid hm
    have HRR := Lib.hid hr
    clear hm hr
    generalize offB 1048576 4096 pa _ = b4 at *
    cases b4
    rotate_left
    · go_wp2
      go_ret2
      have hF : F = 4 := HF.out
      refine ⟨_, fun _ => ?_, by rw [hF]; rfl, HM.out⟩
      rw [hF]
      exact HO.out (by trivial)
    clear d0 d1 d2 HO
    go_wp2_with (fail)
    rw [rounds_succ]
    go_wp2
    go_ret2
    have hF : F = 5 := HF.out
    refine ⟨_, fun h => ?_, by rw [hF]; rfl, HM.out⟩
    rw [hF] at h
    omega

end Go.Proofs.Ytalhdcjnaknglaa
