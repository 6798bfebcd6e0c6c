/- The reference's memory: New; program and reference within a call; what an act does with both. Condition: both lie there. -/
import Derived.Test.YthpjedbkdepglaaRamM
import Derived.Test.YthpjedbkdepglaaRamJ
namespace Go.Proofs.Ythpjedbkdepglaa
open Go.RowKit

theorem ref_two (bb tb n : Nat) : ∀ i, i < (#[Value.slice (some { block := bb, off := 0 }) n n, Value.slice (some { block := tb, off := 0 }) (n / 16) (n / 16)] : Array Value).size → (#[Value.slice (some { block := bb, off := 0 }) n n, Value.slice (some { block := tb, off := 0 }) (n / 16) (n / 16)] : Array Value)[i]? = some (refc bb tb n i) := by
  intro i hi
  have hi : i < 2 := hi
  rcases i with _ | _ | i
  · rfl
  · rfl
  · omega

set_option maxRecDepth 100000 in
theorem rnew_yes (n : Nat) (w : World) (h1 : 4096 ≤ n) (h2 : n ≤ 65536) (h3 : n % 4096 = 0) :
    Calls Try.prog 17 #[.int .i64 (n : Int)] w (fun e w' => ∃ m bb tb, w.heap.size ≤ bb ∧ w.heap.size ≤ tb ∧ w.heap.size ≤ m ∧ Ends (.tuple #[.pointer (some ⟨m, 0, none⟩), .int .i64 0]) (fun w' => RefAt w' m bb tb (Mem.zero n) ∧ Mod Nil w w') e w') := by
  have hmk1 := run_make_row' (P := Try.prog) 42 5 (.int .u8 0) 1 Try.underlying42 raminfo_u8 rfl .i64 .i64 n (by omega) (by omega)
  have hmk2 := run_make_row' (P := Try.prog) 27 4 (.bool false) 1 Try.underlying27 raminfo_bool rfl .i64 .i64 (n / 16) (by omega) (by omega)
  rw [show ((n / 16 : Nat) : Int) = (n : Int) / 16 from by omega] at hmk2
  go_enter Try.func17, Try.ntmps17
  go_wp2
  · exfalso
    rename_i h
    rcases h with (h | h) | h
    · omega
    · omega
    · simp at h; omega
  go_region
  · go_wp2
    go_ret2
    refine ⟨w.heap.size + 1 + 1, w.heap.size, w.heap.size + 1, by omega, by omega, by omega, rfl, ⟨h1, h2, h3, fun _ => by show (0 : Nat) < 256; decide, by omega, ((World.rowIs_made w (.int .u8 0) n _).alloc _).alloc _, ?_, ?_⟩, ((((Mod.refl Nil w).alloc _).alloc _).alloc _).drew⟩
    · have h := (World.rowIs_made (w.alloc (.cells (madeCells #[.int .u8 0] n) 5)) (.bool false) (n / 16) 4).alloc (.cells #[Value.slice (some { block := w.heap.size, off := 0 }) n n, Value.slice (some { block := w.heap.size + 1, off := 0 }) (n / 16) (n / 16)] 65)
      rw [World.size_alloc] at h
      exact h
    · have h := World.rowIs_alloc ((w.alloc (.cells (madeCells #[.int .u8 0] n) 5)).alloc (.cells (madeCells #[.bool false] (n / 16)) 4)) #[Value.slice (some { block := w.heap.size, off := 0 }) n n, Value.slice (some { block := w.heap.size + 1, off := 0 }) (n / 16) (n / 16)] 65 (refc w.heap.size (w.heap.size + 1) n) (ref_two _ _ _)
      rw [World.size_alloc, World.size_alloc] at h
      exact h
  · go_wp2
    go_ret2
    refine ⟨w.heap.size + 1 + 1, w.heap.size + 1, w.heap.size, by omega, by omega, by omega, rfl, ⟨h1, h2, h3, fun _ => by show (0 : Nat) < 256; decide, by omega, ?_, ((World.rowIs_made w (.bool false) (n / 16) _).alloc _).alloc _, ?_⟩, ((((Mod.refl Nil w).alloc _).alloc _).alloc _).drew⟩
    · have h := (World.rowIs_made (w.alloc (.cells (madeCells #[.bool false] (n / 16)) 4)) (.int .u8 0) n 5).alloc (.cells #[Value.slice (some { block := w.heap.size + 1, off := 0 }) n n, Value.slice (some { block := w.heap.size, off := 0 }) (n / 16) (n / 16)] 65)
      rw [World.size_alloc] at h
      exact h
    · have h := World.rowIs_alloc ((w.alloc (.cells (madeCells #[.bool false] (n / 16)) 4)).alloc (.cells (madeCells #[.int .u8 0] n) 5)) #[Value.slice (some { block := w.heap.size + 1, off := 0 }) n n, Value.slice (some { block := w.heap.size, off := 0 }) (n / 16) (n / 16)] 65 (refc (w.heap.size + 1) w.heap.size n) (ref_two _ _ _)
      rw [World.size_alloc, World.size_alloc] at h
      exact h

theorem rnew_no (n : Int) (w : World) (h : ¬ SizeOk n) :
    Calls Try.prog 17 #[.int .i64 n] w (Ends (.tuple #[.pointer none, .int .i64 3]) fun w' => w = w') := by
  unfold SizeOk at h
  by_cases h1 : n < 4096
  · go_enter Try.func17, Try.ntmps17
    go_wp2
    go_ret2
    exact ⟨rfl, rfl⟩
  · by_cases h2 : 65536 < n
    · go_enter Try.func17, Try.ntmps17
      go_wp2
      go_ret2
      exact ⟨rfl, rfl⟩
    · have hz : ((n.tmod 4096 == 0) : Bool) = false := by rw [Int.tmod_eq_emod_of_nonneg (by omega)]; simp; omega
      have hz2 : ((n % 4096 == 0) : Bool) = false := by simp; omega
      go_enter Try.func17, Try.ntmps17
      go_wp2
      go_ret2
      exact ⟨rfl, rfl⟩


/-- A reference's memory of this call. -/
structure RHas (W w : World) (m bb tb : Nat) (M : Mem) : Prop where
  ram : RefAt w m bb tb M
  old : W.heap.size ≤ m ∧ W.heap.size ≤ bb ∧ W.heap.size ≤ tb

/-- Program's and reference's memory over one state, and a block beside them that is kept. -/
structure Both (W w : World) (r rb m bb tb : Nat) (M : Mem) : Prop where
  one : Has W w r rb M
  two : RHas W w m bb tb M
  ne : r ≠ m ∧ r ≠ bb ∧ r ≠ tb ∧ rb ≠ m ∧ rb ≠ bb ∧ rb ≠ tb

section
variable {W w w' : World} {r rb m bb tb : Nat} {M M' : Mem}
theorem Both.nil (h : Both W w r rb m bb tb M) (hm : Mod Nil w w') : Both W w' r rb m bb tb M :=
  ⟨h.one.nil hm, ⟨h.two.ram.keep hm (fun x => x) (fun x => x) (fun x => x), h.two.old⟩, h.ne⟩

/-- Half done: the program's state is M', the reference's still M. -/
structure Half (W w : World) (r rb m bb tb : Nat) (M' M : Mem) : Prop where
  one : Has W w r rb M'
  two : RHas W w m bb tb M
  ne : r ≠ m ∧ r ≠ bb ∧ r ≠ tb ∧ rb ≠ m ∧ rb ≠ bb ∧ rb ≠ tb

theorem Both.store (h : Both W w r rb m bb tb M) (off size : Int) (v : Nat) (hv : v < 18446744073709551616) :
    Calls Try.prog 11 #[.pointer (some ⟨r, 0, none⟩), .int .i64 off, .int .i64 size, .int .u64 (v : Int)] w (Ends (.bool (M.store off size v).1) fun w' => Half W w' r rb m bb tb (M.store off size v).2 M ∧ Mod (fun g => g = r ∨ g = rb) w w') :=
  (h.one.store off size v hv).mono fun _ _ ⟨he, h1, hm⟩ => ⟨he, ⟨h1, ⟨h.two.ram.keep hm (by have := h.ne; omega) (by have := h.ne; omega) (by have := h.ne; omega), h.two.old⟩, h.ne⟩, hm⟩
theorem Both.storeCap (h : Both W w r rb m bb tb M) (off : Int) (tag : Bool) (x y : Nat) (hx : x < 18446744073709551616) (hy : y < 18446744073709551616) :
    Calls Try.prog 10 #[.pointer (some ⟨r, 0, none⟩), .int .i64 off, .bool tag, .int .u64 (x : Int), .int .u64 (y : Int)] w (Ends (.bool (M.storeCap off tag x y).1) fun w' => Half W w' r rb m bb tb (M.storeCap off tag x y).2 M ∧ Mod (fun g => g = r ∨ g = rb) w w') :=
  (h.one.storeCap off tag x y hx hy).mono fun _ _ ⟨he, h1, hm⟩ => ⟨he, ⟨h1, ⟨h.two.ram.keep hm (by have := h.ne; omega) (by have := h.ne; omega) (by have := h.ne; omega), h.two.old⟩, h.ne⟩, hm⟩
theorem Half.drewN (h : Half W w r rb m bb tb M' M) (n : Nat) : Half W (w.drewN n) r rb m bb tb M' M :=
  ⟨h.one.drewN n, ⟨h.two.ram.keep ((Mod.refl Nil _).drewN n) (fun x => x) (fun x => x) (fun x => x), h.two.old⟩, h.ne⟩
theorem Half.rstore (h : Half W w r rb m bb tb M' M) (off size : Int) (v : Nat) (hv : v < 18446744073709551616) (he : (M.store off size v).2 = M') :
    Calls Try.prog 28 #[.pointer (some ⟨m, 0, none⟩), .int .i64 off, .int .i64 size, .int .u64 (v : Int)] w (Ends (.bool (M.store off size v).1) fun w' => Both W w' r rb m bb tb M' ∧ Mod (fun g => g = bb ∨ g = tb) w w') :=
  (rstore_at h.two.ram off size v hv).mono fun _ _ ⟨h0, h1, hm⟩ => ⟨h0, ⟨h.one.keep hm (by have := h.two.old; rintro k (rfl | rfl) <;> omega) (by have := h.ne; omega) (by have := h.ne; omega), ⟨by rw [← he]; exact h1, h.two.old⟩, h.ne⟩, hm⟩
theorem Half.rstoreCap (h : Half W w r rb m bb tb M' M) (off : Int) (tag : Bool) (x y : Nat) (hx : x < 18446744073709551616) (hy : y < 18446744073709551616) (he : (M.storeCap off tag x y).2 = M') :
    Calls Try.prog 30 #[.pointer (some ⟨m, 0, none⟩), .int .i64 off, .bool tag, .int .u64 (x : Int), .int .u64 (y : Int)] w (Ends (.bool (M.storeCap off tag x y).1) fun w' => Both W w' r rb m bb tb M' ∧ Mod (fun g => g = bb ∨ g = tb) w w') :=
  (rstoreCap_at h.two.ram off tag x y hx hy).mono fun _ _ ⟨h0, h1, hm⟩ => ⟨h0, ⟨h.one.keep hm (by have := h.two.old; rintro k (rfl | rfl) <;> omega) (by have := h.ne; omega) (by have := h.ne; omega), ⟨by rw [← he]; exact h1, h.two.old⟩, h.ne⟩, hm⟩
end

end Go.Proofs.Ythpjedbkdepglaa
