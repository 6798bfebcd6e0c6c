/- Atomic words of 32 bits, in one goroutine; bits of words. Condition: the cell holds such a number. -/
import Derived.Test.YtalhdcjnaknglaaProg
import Derived.Test.YtalhdcjnaknglaaPlicP
import Derived.Laws.LoneSync
namespace Go.Proofs.Ytalhdcjnaknglaa.Plc
open Go.RowKit

section
variable {P : Program} {f : FuncId} {fn : Func}
/-- sync/atomic.AndT, OrT: what comes of the cell's bits is stored, the elder number handed back. -/
theorem run_call_bits (op : BinOp) (hf : P.funcs[f]? = some fn) (hname : (fn.name == "runtime.NumGoroutine") = false) (hb : fn.body.isNone = true) (hn : Extern.findNext fn = none) (k : IntKind)
    (he : Extern.find fn = some (Extern.Atomic.update (Op.intBits op) k false)) {a : Addr} {x y s : Int} {w : World} (hc : w.cell? a = some (.int k x)) (hz : w.frozen? a = false)
    (hs : (Op.intBits op k x y).run P w = .ok (.int k s) w) :
    (callFunc f #[.pointer (some a), .int k y]).run P w = .ok (.value (.int k x)) (w.setCell a (.int k s)) := by
  rw [run_callFunc_extern hf hname hb hn he]
  change (Sem.run P (do
    let a' ← asAddr (.pointer (some a))
    let old ← Extern.Atomic.read (.int k) a'
    let new ← Op.intBits op k (← asInt old) (← asInt (.int k y))
    store a' new .atomic
    pure (if false = true then new else old)) w).andThen _ = _
  simp [Extern.Atomic.read, asAddr, asInt, asIntOf, hc, hz, hs, run_store P w a (.int k s) .atomic rfl, Result.andThen]
end

theorem word_and {x y : Nat} {f g : Nat → Bool} (hx : Word x f) (hy : Word y g) : Word (x &&& y) (fun k => f k && g k) :=
  ⟨Nat.lt_of_le_of_lt Nat.and_le_left hx.1, fun k hk => by rw [Nat.testBit_and, hx.2 k hk, hy.2 k hk]⟩
theorem word_or {x y : Nat} {f g : Nat → Bool} (hx : Word x f) (hy : Word y g) : Word (x ||| y) (fun k => f k || g k) :=
  ⟨Nat.or_lt_two_pow (n := 32) hx.1 hy.1, fun k hk => by rw [Nat.testBit_or, hx.2 k hk, hy.2 k hk]⟩
theorem word_not {x : Nat} {f : Nat → Bool} (hx : Word x f) : Word (4294967295 - x) (fun k => !f k) :=
  ⟨by omega, fun k hk => by rw [show 4294967295 - x = 2 ^ 32 - (x + 1) from by omega, Nat.testBit_two_pow_sub_succ hx.1, hx.2 k hk]; simp [hk]⟩
theorem word_bit {s : Nat} (hs : s < 32) : Word (2 ^ s) (fun k => k == s) :=
  ⟨(Nat.pow_lt_pow_iff_right (a := 2) (m := 32) (by decide)).2 hs, fun k _ => by
    rw [Nat.testBit_two_pow]
    by_cases e : s = k
    · subst e; simp
    · rw [decide_eq_false e]; exact (beq_eq_false_iff_ne.2 (Ne.symm e)).symm⟩
theorem w_and {x y : Nat} {f g : Nat → Bool} (hx : Word x f) (hy : Word y g) : bits .and .u32 (x : Int) (y : Int) = (wordOf (fun k => f k && g k) 32 : Nat) := by
  rw [u32_and_nat _ _ hx.1 hy.1, (word_and hx hy).eq]
theorem w_or {x y : Nat} {f g : Nat → Bool} (hx : Word x f) (hy : Word y g) : bits .or .u32 (x : Int) (y : Int) = (wordOf (fun k => f k || g k) 32 : Nat) := by
  rw [u32_or_nat _ _ hx.1 hy.1, (word_or hx hy).eq]
theorem w_andNot {x y : Nat} {f g : Nat → Bool} (hx : Word x f) (hy : Word y g) : bits .andNot .u32 (x : Int) (y : Int) = (wordOf (fun k => f k && !g k) 32 : Nat) := by
  rw [u32_andNot_nat _ _ hx.1 hy.1, (word_and hx (word_not hy)).eq]

theorem aload (a : Addr) (x : Int) (w : World) (hc : w.cell? a = some (.int .u32 x)) (ha : a.spot = none) :
    Calls Try.prog 38 #[.pointer (some a)] w (Ends (.int .u32 x) fun w' => w = w') := by
  obtain ⟨b, o, s⟩ := a
  dsimp only at ha
  subst ha
  have hl := run_call_load (P := Try.prog) Try.func46 (by kernel_rfl) (by kernel_rfl) (by kernel_rfl) .u32 (by kernel_rfl) hc
  go_enter Try.func38, Try.ntmps38
  go_wp2
  go_ret
  exact ⟨rfl, rfl⟩
theorem astore (a : Addr) (x y : Int) (w : World) (hc : w.cell? a = some (.int .u32 x)) (hz : w.frozen? a = false) (ha : a.spot = none) :
    Calls Try.prog 90 #[.pointer (some a), .int .u32 y] w (Ends (.tuple #[]) fun w' => w' = w.setCell a (.int .u32 y)) := by
  obtain ⟨b, o, s⟩ := a
  dsimp only at ha
  subst ha
  have hl := run_call_store (P := Try.prog) Try.func91 (by kernel_rfl) (by kernel_rfl) (by kernel_rfl) (by kernel_rfl) (k := .u32) (y := y) hc hz
  go_enter Try.func90, Try.ntmps90
  go_wp2
  go_end0
  exact ⟨rfl, rfl⟩
theorem aand (a : Addr) (x y s : Int) (w : World) (hc : w.cell? a = some (.int .u32 x)) (hz : w.frozen? a = false) (ha : a.spot = none) (hs : bits .and .u32 x y = s) :
    Calls Try.prog 77 #[.pointer (some a), .int .u32 y] w (Ends (.int .u32 x) fun w' => w' = w.setCell a (.int .u32 s)) := by
  obtain ⟨b, o, sp⟩ := a
  dsimp only at ha
  subst ha
  have hl := run_call_bits (P := Try.prog) .and Try.func79 (by kernel_rfl) (by kernel_rfl) (by kernel_rfl) .u32 (by kernel_rfl) (y := y) (s := s) hc hz (by rw [intBits_and, hs]; rfl)
  clear hs
  go_enter Try.func77, Try.ntmps77
  go_wp2
  go_ret
  exact ⟨rfl, rfl⟩
theorem aor (a : Addr) (x y s : Int) (w : World) (hc : w.cell? a = some (.int .u32 x)) (hz : w.frozen? a = false) (ha : a.spot = none) (hs : bits .or .u32 x y = s) :
    Calls Try.prog 78 #[.pointer (some a), .int .u32 y] w (Ends (.int .u32 x) fun w' => w' = w.setCell a (.int .u32 s)) := by
  obtain ⟨b, o, sp⟩ := a
  dsimp only at ha
  subst ha
  have hl := run_call_bits (P := Try.prog) .or Try.func80 (by kernel_rfl) (by kernel_rfl) (by kernel_rfl) .u32 (by kernel_rfl) (y := y) (s := s) hc hz (by rw [intBits_or, hs]; rfl)
  clear hs
  go_enter Try.func78, Try.ntmps78
  go_wp2
  go_ret
  exact ⟨rfl, rfl⟩

end Go.Proofs.Ytalhdcjnaknglaa.Plc
