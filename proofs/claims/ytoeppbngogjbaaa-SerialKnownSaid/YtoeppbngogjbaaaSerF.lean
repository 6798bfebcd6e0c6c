/- A new UART; the switch of the program and of the reference: what each call answers and leaves. No condition but that a switch lies there. -/
import Derived.Test.YtoeppbngogjbaaaSerE
namespace Go.Proofs.Ytoeppbngogjbaaa
open Go.RowKit

theorem rowIs_one {w : World} {b : Nat} {t : TypeId} {v : Value} (h : w.heap[b]? = some (.cells #[v] t (0, 0))) : w.rowIs b t 1 (fun _ => v) :=
  ⟨_, h, rfl, fun i hi => by obtain rfl : i = 0 := by omega
                             rfl⟩

theorem new_any (w : World) (D : Nat → Prop) (hD : D w.heap.size) (base : Nat) (hb : base ≤ w.heap.size) :
    Calls Try.prog 6 #[] w (Ends (.pointer (some ⟨w.heap.size, 0, none⟩)) fun w' => UartIn w' base w.heap.size D ⟨[], false, none⟩ ∧ Mod Nil w w' ∧ w'.heap.size = w.heap.size + 1) := by
  go_enter Try.func6, Try.ntmps6
  go_wp2
  go_ret
  refine ⟨rfl, ⟨hD, hb, fun _ => 0, 0, .slice none 0 0, (World.rowIs_alloc w _ _ _ ?_).congr (fun _ _ => rfl), by simp, by omega, by simp, by simp, rfl⟩, (Mod.refl Nil w).alloc _, by simp⟩
  intro i hi
  have hi : i < 20 := hi
  rcases i with _ | _ | _ | _ | _ | _ | _ | _ | _ | _ | _ | _ | _ | _ | _ | _ | _ | _ | _ | _ | i
  all_goals first | rfl | omega

/-- The program's switch. -/
def PowIn (w : World) (base b : Nat) (D : Nat → Prop) (off : Bool) : Prop := D b ∧ base ≤ b ∧ w.rowIs b 57 1 (fun _ => .bool off)
/-- The reference's switch. -/
def RPowIn (w : World) (base b : Nat) (D : Nat → Prop) (off : Bool) : Prop := D b ∧ base ≤ b ∧ w.rowIs b 59 1 (fun _ => .bool off)

theorem powIn_keep {w w' : World} {base b : Nat} {D D' F : Nat → Prop} {s : Bool} (h : PowIn w base b D s) (hm : Mod F w w')
    (hF : ∀ g, g < w.heap.size → D g → ¬ F g) (hD : ∀ g, g < w.heap.size → D g → D' g) : PowIn w' base b D' s :=
  ⟨hD b h.2.2.lt h.1, h.2.1, hm.row h.2.2 (hF b h.2.2.lt h.1)⟩
theorem rpowIn_keep {w w' : World} {base b : Nat} {D D' F : Nat → Prop} {s : Bool} (h : RPowIn w base b D s) (hm : Mod F w w')
    (hF : ∀ g, g < w.heap.size → D g → ¬ F g) (hD : ∀ g, g < w.heap.size → D g → D' g) : RPowIn w' base b D' s :=
  ⟨hD b h.2.2.lt h.1, h.2.1, hm.row h.2.2 (hF b h.2.2.lt h.1)⟩

theorem newPower_any (w : World) (D : Nat → Prop) (hD : D w.heap.size) (base : Nat) (hb : base ≤ w.heap.size) :
    Calls Try.prog 8 #[] w (Ends (.pointer (some ⟨w.heap.size, 0, none⟩)) fun w' => PowIn w' base w.heap.size D false ∧ Mod Nil w w' ∧ w'.heap.size = w.heap.size + 1) := by
  go_enter Try.func8, Try.ntmps8
  go_wp2
  go_ret
  exact ⟨rfl, ⟨hD, hb, rowIs_one (heap_alloc_new w _)⟩, (Mod.refl Nil w).alloc _, by simp⟩
theorem rnewPower_any (w : World) (D : Nat → Prop) (hD : D w.heap.size) (base : Nat) (hb : base ≤ w.heap.size) :
    Calls Try.prog 9 #[] w (Ends (.pointer (some ⟨w.heap.size, 0, none⟩)) fun w' => RPowIn w' base w.heap.size D false ∧ Mod Nil w w' ∧ w'.heap.size = w.heap.size + 1) := by
  go_enter Try.func9, Try.ntmps9
  go_wp2
  go_ret
  exact ⟨rfl, ⟨hD, hb, rowIs_one (heap_alloc_new w _)⟩, (Mod.refl Nil w).alloc _, by simp⟩

theorem off_any (base b : Nat) (D : Nat → Prop) (s : Bool) (w : World) (h : PowIn w base b D s) :
    Calls Try.prog 24 #[.pointer (some ⟨b, 0, none⟩)] w (Ends (.bool s) fun w' => w = w') := by
  have c0 := h.2.2.cell (i := 0) (by omega)
  clear h
  go_enter Try.func24, Try.ntmps24
  go_wp2
  go_ret
  exact ⟨rfl, rfl⟩
theorem roff_any (base b : Nat) (D : Nat → Prop) (s : Bool) (w : World) (h : RPowIn w base b D s) :
    Calls Try.prog 25 #[.pointer (some ⟨b, 0, none⟩)] w (Ends (.bool s) fun w' => w = w') := by
  have c0 := h.2.2.cell (i := 0) (by omega)
  clear h
  go_enter Try.func25, Try.ntmps25
  go_wp2
  go_ret
  exact ⟨rfl, rfl⟩

theorem pload_any (p : Value) (off size : Int) (w : World) :
    Calls Try.prog 18 #[p, .int .i64 off, .int .i64 size] w (Ends (.tuple #[.int .u64 0, .bool (decide (off = 0 ∧ size = 4))]) fun w' => w = w') := by
  by_cases h1 : off = 0 <;> by_cases h2 : size = 4
  all_goals
    go_enter Try.func18, Try.ntmps18
    go_wp2
    go_ret2
    exact ⟨by simp [h1, h2], rfl⟩
theorem rpload_any (p : Value) (off size : Int) (w : World) :
    Calls Try.prog 19 #[p, .int .i64 off, .int .i64 size] w (Ends (.tuple #[.int .u64 0, .bool (decide (off = 0 ∧ size = 4))]) fun w' => w = w') := by
  by_cases h1 : off = 0 <;> by_cases h2 : size = 4
  all_goals
    go_enter Try.func19, Try.ntmps19
    go_wp2
    go_ret2
    exact ⟨by simp [h1, h2], rfl⟩

/-- Whether the switch is off behind a store. -/
def powStore (off size v : Int) (s : Bool) : Bool × Bool := if off = 0 ∧ size = 4 then (true, s || decide (v % 4294967296 = 21845)) else (false, s)

set_option maxHeartbeats 400000 in
theorem pstore_any (base b : Nat) (D : Nat → Prop) (s : Bool) (off size v : Int) (w : World) (_hv0 : 0 ≤ v) (_hv1 : v < 18446744073709551616) (h : PowIn w base b D s) :
    Calls Try.prog 20 #[.pointer (some ⟨b, 0, none⟩), .int .i64 off, .int .i64 size, .int .u64 v] w
      (Ends (.bool (powStore off size v s).1) fun w' => PowIn w' base b D (powStore off size v s).2 ∧ Mod D w w') := by
  obtain ⟨hD, hb, hrow⟩ := h
  by_cases h1 : off = 0 ∧ size = 4
  · obtain ⟨rfl, rfl⟩ := h1
    have c0 := hrow.cell (i := 0) (by omega)
    have fr := hrow.frozen 0
    have H4 := Lib.hid hrow
    clear hrow
    cases s
    all_goals
      go_enter Try.func20, Try.ntmps20
      go_wp2
      go_ret
      refine ⟨rfl, ⟨hD, hb, (H4.out.set _ _).congr ?_⟩, (Mod.refl D w).setCell (.inl hD) _⟩
      intro i hi
      obtain rfl : i = 0 := by omega
      rw [if_pos rfl]
      simp only [powStore]
      first | rfl | (by_cases e : v % 4294967296 = 21845 <;> simp [e])
  · have he : powStore off size v s = (false, s) := if_neg h1
    have hE := Lib.hid he
    clear he
    by_cases e0 : off = 0
    · subst e0
      have e4 : (size != 4) = true := by rw [bne_iff_ne]; exact fun h => h1 ⟨rfl, h⟩
      go_enter Try.func20, Try.ntmps20
      go_wp2
      go_ret
      rw [hE.out]
      exact ⟨rfl, ⟨hD, hb, hrow⟩, Mod.refl _ _⟩
    · go_enter Try.func20, Try.ntmps20
      go_wp2
      go_ret
      rw [hE.out]
      exact ⟨rfl, ⟨hD, hb, hrow⟩, Mod.refl _ _⟩

set_option maxHeartbeats 400000 in
theorem rpstore_any (base b : Nat) (D : Nat → Prop) (s : Bool) (off size v : Int) (w : World) (_hv0 : 0 ≤ v) (_hv1 : v < 18446744073709551616) (h : RPowIn w base b D s) :
    Calls Try.prog 21 #[.pointer (some ⟨b, 0, none⟩), .int .i64 off, .int .i64 size, .int .u64 v] w
      (Ends (.bool (powStore off size v s).1) fun w' => RPowIn w' base b D (powStore off size v s).2 ∧ Mod D w w') := by
  obtain ⟨hD, hb, hrow⟩ := h
  by_cases h1 : off = 0 ∧ size = 4
  · obtain ⟨rfl, rfl⟩ := h1
    have c0 := hrow.cell (i := 0) (by omega)
    have fr := hrow.frozen 0
    have H4 := Lib.hid hrow
    clear hrow
    by_cases hv : v % 4294967296 = 21845
    · have hq : (v % 4294967296 == 21845) = true := by simpa using hv
      have he : powStore 0 4 v s = (true, true) := by simp [powStore, hv]
      have hE := Lib.hid he
      clear hv he
      go_enter Try.func21, Try.ntmps21
      go_wp2
      go_ret
      rw [hE.out]
      refine ⟨rfl, ⟨hD, hb, (H4.out.set _ _).congr ?_⟩, (Mod.refl D w).setCell (.inl hD) _⟩
      intro i hi
      obtain rfl : i = 0 := by omega
      rfl
    · have hq : (v % 4294967296 == 21845) = false := by simpa using hv
      have he : powStore 0 4 v s = (true, s) := by simp [powStore, hv]
      have hE := Lib.hid he
      clear hv he
      go_enter Try.func21, Try.ntmps21
      go_wp2
      go_ret
      rw [hE.out]
      exact ⟨rfl, ⟨hD, hb, H4.out⟩, Mod.refl _ _⟩
  · have he : powStore off size v s = (false, s) := if_neg h1
    have hE := Lib.hid he
    clear he
    by_cases e0 : off = 0
    · subst e0
      have e4 : (size != 4) = true := by rw [bne_iff_ne]; exact fun h => h1 ⟨rfl, h⟩
      go_enter Try.func21, Try.ntmps21
      go_wp2
      go_ret
      rw [hE.out]
      exact ⟨rfl, ⟨hD, hb, hrow⟩, Mod.refl _ _⟩
    · go_enter Try.func21, Try.ntmps21
      go_wp2
      go_ret
      rw [hE.out]
      exact ⟨rfl, ⟨hD, hb, hrow⟩, Mod.refl _ _⟩

end Go.Proofs.Ytoeppbngogjbaaa
