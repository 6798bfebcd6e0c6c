/- The bus: numbers that are read and written: the device that stands there does it. Condition: a bus lies there. -/
import Derived.Test.YtalhdcjnaknglaaBusD
import Derived.Handy
namespace Go.Proofs.Ytalhdcjnaknglaa
open Go.RowKit
attribute [local go_sem ↓] Go.wp_at_zero Go.wp_at_succ

theorem fnd_ram {k pa : Nat} {size : Int} (h : inReg k pa size 0 = true) : fnd k pa size = 0 := by unfold fnd; rw [h]; rfl

set_option maxHeartbeats 4000000 in
theorem bus_load_ram {W w : World} {n : Nat} {M : Mem} {now alarm bell : Nat} {S : Plc.Pli} (h : Bus W w n M now alarm bell S) (pa : Nat) (k : Int) (hp : pa < 18446744073709551616) (hk : k = 1 ∨ k = 2 ∨ k = 4 ∨ k = 8) (hf : fnd M.n pa k = 0)
    {R : Value → Value → World → Prop} (hc : ∀ w', Mod Nil w w' → Calls Try.prog 63 #[.pointer (some ⟨n + 1, 0, none⟩), .int .i64 ((pa - 2147483648 : Nat) : Int), .int .i64 k] w' (fun e w'' => ∃ x y, Ends (.tuple #[x, y]) (R x y) e w'')) :
    Calls Try.prog 7 #[.pointer (some ⟨n + 6, 0, none⟩), .int .u64 (pa : Int), .int .i64 k] w (fun e w'' => ∃ x y, Ends (.tuple #[x, y]) (R x y) e w'') := by
  have HC := Lib.hid hc
  have HF := Lib.hid (find_at h pa k hp hk)
  rw [hf] at HF
  clear hc hf h
  go_enter Try.func7, Try.ntmps7
  go_wp2_with (fail)
  refine HF.out.mono ?_
  rintro e w1 ⟨o, ho, rfl, m1⟩
  obtain rfl : o = ((pa - 2147483648 : Nat) : Int) := ho (by omega)
  have hv : fndV n M.n 0 = .iface 69 (.agg #[.iface 34 (.pointer (some ⟨n + 1, 0, none⟩)), .int .u64 2147483648, .int .u64 (M.n : Int)]) := rfl
  rw [hv]
  have HH := Lib.hid (HC.out w1 m1)
  clear ho hv m1
  go_wp2_with (fail)
  refine HH.out.mono ?_
  rintro e w2 ⟨x, y, rfl, hr⟩
  have HR := Lib.hid hr
  clear hr
  go_wp2
  go_ret2
  exact ⟨x, y, rfl, HR.out⟩

set_option maxHeartbeats 4000000 in
theorem bus_load_uart {W w : World} {n : Nat} {M : Mem} {now alarm bell : Nat} {S : Plc.Pli} (h : Bus W w n M now alarm bell S) (pa : Nat) (k : Int) (hp : pa < 18446744073709551616) (hk : k = 1 ∨ k = 2 ∨ k = 4 ∨ k = 8) (hf : fnd M.n pa k = 3)
    {R : Value → Value → World → Prop} (hc : ∀ w', Mod Nil w w' → Calls Try.prog 81 #[.pointer (some ⟨n + 4, 0, none⟩), .int .i64 ((pa - 268435456 : Nat) : Int), .int .i64 k] w' (fun e w'' => ∃ x y, Ends (.tuple #[x, y]) (R x y) e w'')) :
    Calls Try.prog 7 #[.pointer (some ⟨n + 6, 0, none⟩), .int .u64 (pa : Int), .int .i64 k] w (fun e w'' => ∃ x y, Ends (.tuple #[x, y]) (R x y) e w'') := by
  have HC := Lib.hid hc
  have HF := Lib.hid (find_at h pa k hp hk)
  rw [hf] at HF
  clear hc hf h
  go_enter Try.func7, Try.ntmps7
  go_wp2_with (fail)
  refine HF.out.mono ?_
  rintro e w1 ⟨o, ho, rfl, m1⟩
  obtain rfl : o = ((pa - 268435456 : Nat) : Int) := ho (by omega)
  have hv : fndV n M.n 3 = .iface 69 (.agg #[.iface 37 (.pointer (some ⟨n + 4, 0, none⟩)), .int .u64 268435456, .int .u64 256]) := rfl
  rw [hv]
  have HH := Lib.hid (HC.out w1 m1)
  clear ho hv m1
  go_wp2_with (fail)
  refine HH.out.mono ?_
  rintro e w2 ⟨x, y, rfl, hr⟩
  have HR := Lib.hid hr
  clear hr
  go_wp2
  go_ret2
  exact ⟨x, y, rfl, HR.out⟩

set_option maxHeartbeats 4000000 in
theorem bus_store_ram {W w : World} {n : Nat} {M : Mem} {now alarm bell : Nat} {S : Plc.Pli} (h : Bus W w n M now alarm bell S) (pa v : Nat) (k : Int) (hp : pa < 18446744073709551616) (hk : k = 1 ∨ k = 2 ∨ k = 4 ∨ k = 8) (hf : fnd M.n pa k = 0)
    {R : Bool → World → Prop} (hc : ∀ w', Mod Nil w w' → Calls Try.prog 64 #[.pointer (some ⟨n + 1, 0, none⟩), .int .i64 ((pa - 2147483648 : Nat) : Int), .int .i64 k, .int .u64 (v : Int)] w' (fun e w'' => ∃ y, Ends (.bool y) (R y) e w'')) :
    Calls Try.prog 8 #[.pointer (some ⟨n + 6, 0, none⟩), .int .u64 (pa : Int), .int .i64 k, .int .u64 (v : Int)] w (fun e w'' => ∃ y, Ends (.bool y) (R y) e w'') := by
  have HC := Lib.hid hc
  have HF := Lib.hid (find_at h pa k hp hk)
  rw [hf] at HF
  clear hc hf h
  go_enter Try.func8, Try.ntmps8
  go_wp2_with (fail)
  refine HF.out.mono ?_
  rintro e w1 ⟨o, ho, rfl, m1⟩
  obtain rfl : o = ((pa - 2147483648 : Nat) : Int) := ho (by omega)
  have hv : fndV n M.n 0 = .iface 69 (.agg #[.iface 34 (.pointer (some ⟨n + 1, 0, none⟩)), .int .u64 2147483648, .int .u64 (M.n : Int)]) := rfl
  rw [hv]
  have HH := Lib.hid (HC.out w1 m1)
  clear ho hv m1
  go_wp2_with (fail)
  refine HH.out.mono ?_
  rintro e w2 ⟨y, rfl, hr⟩
  have HR := Lib.hid hr
  clear hr
  go_wp2
  go_ret
  exact ⟨y, rfl, HR.out⟩

set_option maxHeartbeats 4000000 in
theorem bus_store_clint {W w : World} {n : Nat} {M : Mem} {now alarm bell : Nat} {S : Plc.Pli} (h : Bus W w n M now alarm bell S) (pa v : Nat) (k : Int) (hp : pa < 18446744073709551616) (hk : k = 1 ∨ k = 2 ∨ k = 4 ∨ k = 8) (hf : fnd M.n pa k = 1)
    {R : Bool → World → Prop} (hc : ∀ w', Mod Nil w w' → Calls Try.prog 67 #[.pointer (some ⟨n + 2, 0, none⟩), .int .i64 ((pa - 33554432 : Nat) : Int), .int .i64 k, .int .u64 (v : Int)] w' (fun e w'' => ∃ y, Ends (.bool y) (R y) e w'')) :
    Calls Try.prog 8 #[.pointer (some ⟨n + 6, 0, none⟩), .int .u64 (pa : Int), .int .i64 k, .int .u64 (v : Int)] w (fun e w'' => ∃ y, Ends (.bool y) (R y) e w'') := by
  have HC := Lib.hid hc
  have HF := Lib.hid (find_at h pa k hp hk)
  rw [hf] at HF
  clear hc hf h
  go_enter Try.func8, Try.ntmps8
  go_wp2_with (fail)
  refine HF.out.mono ?_
  rintro e w1 ⟨o, ho, rfl, m1⟩
  obtain rfl : o = ((pa - 33554432 : Nat) : Int) := ho (by omega)
  have hv : fndV n M.n 1 = .iface 69 (.agg #[.iface 35 (.pointer (some ⟨n + 2, 0, none⟩)), .int .u64 33554432, .int .u64 65536]) := rfl
  rw [hv]
  have HH := Lib.hid (HC.out w1 m1)
  clear ho hv m1
  go_wp2_with (fail)
  refine HH.out.mono ?_
  rintro e w2 ⟨y, rfl, hr⟩
  have HR := Lib.hid hr
  clear hr
  go_wp2
  go_ret
  exact ⟨y, rfl, HR.out⟩

set_option maxHeartbeats 4000000 in
theorem bus_store_power {W w : World} {n : Nat} {M : Mem} {now alarm bell : Nat} {S : Plc.Pli} (h : Bus W w n M now alarm bell S) (pa v : Nat) (k : Int) (hp : pa < 18446744073709551616) (hk : k = 1 ∨ k = 2 ∨ k = 4 ∨ k = 8) (hf : fnd M.n pa k = 4)
    {R : Bool → World → Prop} (hc : ∀ w', Mod Nil w w' → Calls Try.prog 89 #[.pointer (some ⟨n + 5, 0, none⟩), .int .i64 ((pa - 1048576 : Nat) : Int), .int .i64 k, .int .u64 (v : Int)] w' (fun e w'' => ∃ y, Ends (.bool y) (R y) e w'')) :
    Calls Try.prog 8 #[.pointer (some ⟨n + 6, 0, none⟩), .int .u64 (pa : Int), .int .i64 k, .int .u64 (v : Int)] w (fun e w'' => ∃ y, Ends (.bool y) (R y) e w'') := by
  have HC := Lib.hid hc
  have HF := Lib.hid (find_at h pa k hp hk)
  rw [hf] at HF
  clear hc hf h
  go_enter Try.func8, Try.ntmps8
  go_wp2_with (fail)
  refine HF.out.mono ?_
  rintro e w1 ⟨o, ho, rfl, m1⟩
  obtain rfl : o = ((pa - 1048576 : Nat) : Int) := ho (by omega)
  have hv : fndV n M.n 4 = .iface 69 (.agg #[.iface 38 (.pointer (some ⟨n + 5, 0, none⟩)), .int .u64 1048576, .int .u64 4096]) := rfl
  rw [hv]
  have HH := Lib.hid (HC.out w1 m1)
  clear ho hv m1
  go_wp2_with (fail)
  refine HH.out.mono ?_
  rintro e w2 ⟨y, rfl, hr⟩
  have HR := Lib.hid hr
  clear hr
  go_wp2
  go_ret
  exact ⟨y, rfl, HR.out⟩

set_option maxHeartbeats 4000000 in
theorem bus_load_none {W w : World} {n : Nat} {M : Mem} {now alarm bell : Nat} {S : Plc.Pli} (h : Bus W w n M now alarm bell S) (pa : Nat) (k : Int) (hp : pa < 18446744073709551616) (hk : k = 1 ∨ k = 2 ∨ k = 4 ∨ k = 8) (hf : fnd M.n pa k = 5) :
    Calls Try.prog 7 #[.pointer (some ⟨n + 6, 0, none⟩), .int .u64 (pa : Int), .int .i64 k] w (Ends (.tuple #[.int .u64 0, .bool false]) fun w' => Mod Nil w w') := by
  have HF := Lib.hid (find_at h pa k hp hk)
  rw [hf] at HF
  clear hf h
  go_enter Try.func7, Try.ntmps7
  go_wp2_with (fail)
  refine HF.out.mono ?_
  rintro e w1 ⟨o, ho, rfl, m1⟩
  have hv : fndV n M.n 5 = .nilIface := rfl
  rw [hv]
  have M1 := Lib.hid m1
  clear ho hv m1
  go_wp2
  go_ret2
  exact ⟨rfl, M1.out⟩

set_option maxHeartbeats 4000000 in
theorem bus_store_none {W w : World} {n : Nat} {M : Mem} {now alarm bell : Nat} {S : Plc.Pli} (h : Bus W w n M now alarm bell S) (pa v : Nat) (k : Int) (hp : pa < 18446744073709551616) (hk : k = 1 ∨ k = 2 ∨ k = 4 ∨ k = 8) (hf : fnd M.n pa k = 5) :
    Calls Try.prog 8 #[.pointer (some ⟨n + 6, 0, none⟩), .int .u64 (pa : Int), .int .i64 k, .int .u64 (v : Int)] w (Ends (.bool false) fun w' => Mod Nil w w') := by
  have HF := Lib.hid (find_at h pa k hp hk)
  rw [hf] at HF
  clear hf h
  go_enter Try.func8, Try.ntmps8
  go_wp2_with (fail)
  refine HF.out.mono ?_
  rintro e w1 ⟨o, ho, rfl, m1⟩
  have hv : fndV n M.n 5 = .nilIface := rfl
  rw [hv]
  have M1 := Lib.hid m1
  clear ho hv m1
  go_wp2
  go_ret
  exact ⟨rfl, M1.out⟩

end Go.Proofs.Ytalhdcjnaknglaa
