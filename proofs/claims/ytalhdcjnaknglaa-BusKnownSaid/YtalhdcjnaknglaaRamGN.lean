/- The program's memory within a call: contracts over one abstract state. Condition: a memory lies there. -/
import Derived.Test.YtalhdcjnaknglaaRamFN
namespace Go.Proofs.Ytalhdcjnaknglaa
open Go.RowKit

/-- A memory of this call, at blocks r and rb. -/
structure Has (W w : World) (r rb : Nat) (M : Mem) : Prop where
  ram : RamAt w r rb M
  below : Below W.heap.size W w
  old : W.heap.size ≤ r ∧ W.heap.size ≤ rb

section
variable {W w w' : World} {r rb : Nat} {M : Mem} {F : Nat → Prop}
theorem Has.keep (h : Has W w r rb M) (hm : Mod F w w') (hF : ∀ k, F k → W.heap.size ≤ k) (h1 : ¬ F r) (h2 : ¬ F rb) : Has W w' r rb M :=
  ⟨h.ram.keep hm h1 h2, h.below.trans (hm.toBelow h.below.size hF), h.old⟩
theorem Has.nil (h : Has W w r rb M) (hm : Mod Nil w w') : Has W w' r rb M := h.keep hm (fun _ x => x.elim) (fun x => x) (fun x => x)
theorem Has.drew (h : Has W w r rb M) : Has W w.drew r rb M := h.nil (Mod.refl _ _).drew
theorem Has.drewN (h : Has W w r rb M) (n : Nat) : Has W (w.drewN n) r rb M := h.nil ((Mod.refl _ _).drewN n)
theorem Has.alloc (h : Has W w r rb M) (o : Obj) : Has W (w.alloc o) r rb M := h.nil ((Mod.refl _ _).alloc o)
theorem Has.lt (h : Has W w r rb M) : r < w.heap.size ∧ rb < w.heap.size := h.ram.lt
theorem Has.load (h : Has W w r rb M) (off size : Int) :
    Calls Try.prog 63 #[.pointer (some ⟨r, 0, none⟩), .int .i64 off, .int .i64 size] w (Ends (.tuple #[.int .u64 (((M.load off size).1 : Nat) : Int), .bool (M.load off size).2]) fun w' => w = w') := load_at h.ram off size
theorem Has.loadCap (h : Has W w r rb M) (off : Int) :
    Calls Try.prog 28 #[.pointer (some ⟨r, 0, none⟩), .int .i64 off] w (Ends (.tuple #[.bool (M.loadCap off).1, .int .u64 (((M.loadCap off).2.1 : Nat) : Int), .int .u64 (((M.loadCap off).2.2.1 : Nat) : Int), .bool (M.loadCap off).2.2.2]) fun w' => Has W w' r rb M ∧ Mod Nil w w') :=
  (loadCap_at h.ram off).mono fun _ _ ⟨he, hm⟩ => ⟨he, h.nil hm, hm⟩
theorem Has.store (h : Has W w r rb M) (off size : Int) (v : Nat) (hv : v < 18446744073709551616) :
    Calls Try.prog 64 #[.pointer (some ⟨r, 0, none⟩), .int .i64 off, .int .i64 size, .int .u64 (v : Int)] w (Ends (.bool (M.store off size v).1) fun w' => Has W w' r rb (M.store off size v).2 ∧ Mod (fun g => g = r ∨ g = rb) w w') :=
  (store_at h.ram off size v hv).mono fun _ _ ⟨he, hr, hm⟩ => ⟨he, ⟨hr, h.below.trans (hm.toBelow h.below.size (by rintro k (rfl | rfl); exact h.old.1; exact h.old.2)), h.old⟩, hm⟩
theorem Has.storeCap (h : Has W w r rb M) (off : Int) (tag : Bool) (x y : Nat) (hx : x < 18446744073709551616) (hy : y < 18446744073709551616) :
    Calls Try.prog 35 #[.pointer (some ⟨r, 0, none⟩), .int .i64 off, .bool tag, .int .u64 (x : Int), .int .u64 (y : Int)] w (Ends (.bool (M.storeCap off tag x y).1) fun w' => Has W w' r rb (M.storeCap off tag x y).2 ∧ Mod (fun g => g = r ∨ g = rb) w w') :=
  (storeCap_at h.ram off tag x y hx hy).mono fun _ _ ⟨he, hr, hm⟩ => ⟨he, ⟨hr, h.below.trans (hm.toBelow h.below.size (by rintro k (rfl | rfl); exact h.old.1; exact h.old.2)), h.old⟩, hm⟩
theorem Has.len (h : Has W w r rb M) : Calls Try.prog 39 #[.pointer (some ⟨r, 0, none⟩)] w (Ends (.int .i64 (M.n : Int)) fun w' => w = w') := len_at h.ram
end

theorem new_has {W w : World} (hb : Below W.heap.size W w) (n : Nat) (h1 : 4096 ≤ n) (h2 : n ≤ 65536) (h3 : n % 4096 = 0) :
    Calls Try.prog 17 #[.int .i64 (n : Int)] w (Ends (.tuple #[.pointer (some ⟨w.heap.size + 1, 0, none⟩), .int .i64 0]) fun w' => Has W w' (w.heap.size + 1) w.heap.size (Mem.zero n) ∧ Mod Nil w w') :=
  (new_yes n w h1 h2 h3).mono fun _ _ ⟨he, hr, hm, _⟩ => ⟨he, ⟨hr, hb.trans (hm.toBelow hb.size fun _ x => x.elim), by have := hb.size; omega⟩, hm⟩

end Go.Proofs.Ytalhdcjnaknglaa
