/- The program's memory within a call: contracts over one abstract state; SameInts is true of like rows; the law's known() returns true. No condition. -/
import Derived.Test.YthpjedbkdepglaaRamF
import Derived.Test.YthpjedbkdepglaaInts
import Derived.Test.YthpjedbkdepglaaKit
namespace Go.Proofs.Ythpjedbkdepglaa
open Go.RowKit

theorem same_ints (va vb : Value) (n : Nat) (f : Nat → Int) (w : World) (ha : Ints w .i64 va n f) (hb : Ints w .i64 vb n f) :
    Calls Try.prog 13 #[va, vb] w (Ends (.bool true) fun w' => Mod Nil w w') := by
  obtain ⟨A, cA, rfl, _, hmax, hA⟩ := ha
  obtain ⟨B, cB, rfl, _, _, hB⟩ := hb
  simp only [maxLen] at hmax
  rcases Nat.eq_zero_or_pos n with rfl | h0
  · go_enter Try.func13, Try.ntmps13
    go_wp2
    refine wp_loop_rounds 1 ?_
    rw [rounds_succ]
    go_wp2
    go_ret
    exact ⟨rfl, Mod.refl _ _⟩
  · obtain ⟨a, oa, rfl, hla, hca⟩ := hA h0
    obtain ⟨b, ob, rfl, hlb, hcb⟩ := hB h0
    have Ha := Lib.hid hca
    have Hb := Lib.hid hcb
    clear hA hB hca hcb
    go_enter Try.func13, Try.ntmps13
    go_wp2
    go_loopw [5] (fun i wr => ∃ k : Nat, k ≤ n ∧ i = .int .i64 (k : Int) ∧ Mod Nil w wr) (fun i _ => n - (intOf i).toNat)
    case atStart => exact ⟨0, Nat.zero_le _, rfl, Mod.refl _ _⟩
    case round =>
      obtain ⟨k, hk, rfl, hm⟩ := hrel
      by_cases hkn : k < n
      · have c1 := (hm.cell (p := ⟨a, oa + k, none⟩) hla id).trans (Ha.out k hkn)
        have c2 := (hm.cell (p := ⟨b, ob + k, none⟩) hlb id).trans (Hb.out k hkn)
        have i1 : (0 : Int) ≤ (k : Int) := by omega
        have i2 : (k : Int) < (n : Int) := by omega
        have Hm := Lib.hid hm
        clear hm
        go_wp2
        go_quiet (fail)
        go_wp2
        go_roundw
        case rel => exact ⟨k + 1, by omega, by go_num, Hm.out.drewN _⟩
        case measure => simp [intOf]; omega
      · obtain rfl : k = n := by omega
        have Hm := Lib.hid hm
        clear hm
        go_wp2
        go_ret
        exact ⟨rfl, Hm.out⟩

/-- A literal's numbers. -/
theorem lit_ints {w : World} {k : IntKind} {L : List Int} {t : TypeId} {b : Nat} (h : w.heap[b]? = some (.cells (L.map (Value.int k)).toArray t (0, 0))) (hl : L.length ≤ 1000) : Ints w k (.slice (some ⟨b, 0, none⟩) L.length L.length) L.length (fun i => L.getD i 0) := by
  refine ⟨_, _, rfl, Nat.le_refl _, by simp only [maxLen]; omega, fun _ => ⟨b, 0, rfl, (Array.getElem?_eq_some_iff.1 h).1, fun i hi => ?_⟩⟩
  rw [Nat.zero_add, cell_of_row _ _ _ _ _ _ h]
  simp [List.getElem?_eq_getElem hi]

/-- A memory of this call, at blocks r and rb. -/
structure Has (W w : World) (r rb : Nat) (M : Mem) : Prop where
  ram : RamAt w r rb M
  below : Below W.heap.size W w
  old : W.heap.size ≤ r ∧ W.heap.size ≤ rb

section
variable {W w w' : World} {r rb : Nat} {M : Mem} {F : Nat → Prop}
theorem Has.keep (h : Has W w r rb M) (hm : Mod F w w') (hF : ∀ k, F k → W.heap.size ≤ k) (h1 : ¬ F r) (h2 : ¬ F rb) : Has W w' r rb M :=
  ⟨h.ram.keep hm h1 h2, h.below.trans (hm.toBelow h.below.size hF), h.old⟩
theorem Has.nil (h : Has W w r rb M) (hm : Mod Nil w w') : Has W w' r rb M := h.keep hm (fun _ x => x.elim) (fun x => x) (fun x => x)
theorem Has.drew (h : Has W w r rb M) : Has W w.drew r rb M := h.nil (Mod.refl _ _).drew
theorem Has.drewN (h : Has W w r rb M) (n : Nat) : Has W (w.drewN n) r rb M := h.nil ((Mod.refl _ _).drewN n)
theorem Has.alloc (h : Has W w r rb M) (o : Obj) : Has W (w.alloc o) r rb M := h.nil ((Mod.refl _ _).alloc o)
theorem Has.lt (h : Has W w r rb M) : r < w.heap.size ∧ rb < w.heap.size := h.ram.lt
theorem Has.load (h : Has W w r rb M) (off size : Int) :
    Calls Try.prog 16 #[.pointer (some ⟨r, 0, none⟩), .int .i64 off, .int .i64 size] w (Ends (.tuple #[.int .u64 (((M.load off size).1 : Nat) : Int), .bool (M.load off size).2]) fun w' => w = w') := load_at h.ram off size
theorem Has.loadCap (h : Has W w r rb M) (off : Int) :
    Calls Try.prog 12 #[.pointer (some ⟨r, 0, none⟩), .int .i64 off] w (Ends (.tuple #[.bool (M.loadCap off).1, .int .u64 (((M.loadCap off).2.1 : Nat) : Int), .int .u64 (((M.loadCap off).2.2.1 : Nat) : Int), .bool (M.loadCap off).2.2.2]) fun w' => Has W w' r rb M ∧ Mod Nil w w') :=
  (loadCap_at h.ram off).mono fun _ _ ⟨he, hm⟩ => ⟨he, h.nil hm, hm⟩
theorem Has.store (h : Has W w r rb M) (off size : Int) (v : Nat) (hv : v < 18446744073709551616) :
    Calls Try.prog 11 #[.pointer (some ⟨r, 0, none⟩), .int .i64 off, .int .i64 size, .int .u64 (v : Int)] w (Ends (.bool (M.store off size v).1) fun w' => Has W w' r rb (M.store off size v).2 ∧ Mod (fun g => g = r ∨ g = rb) w w') :=
  (store_at h.ram off size v hv).mono fun _ _ ⟨he, hr, hm⟩ => ⟨he, ⟨hr, h.below.trans (hm.toBelow h.below.size (by rintro k (rfl | rfl); exact h.old.1; exact h.old.2)), h.old⟩, hm⟩
theorem Has.storeCap (h : Has W w r rb M) (off : Int) (tag : Bool) (x y : Nat) (hx : x < 18446744073709551616) (hy : y < 18446744073709551616) :
    Calls Try.prog 10 #[.pointer (some ⟨r, 0, none⟩), .int .i64 off, .bool tag, .int .u64 (x : Int), .int .u64 (y : Int)] w (Ends (.bool (M.storeCap off tag x y).1) fun w' => Has W w' r rb (M.storeCap off tag x y).2 ∧ Mod (fun g => g = r ∨ g = rb) w w') :=
  (storeCap_at h.ram off tag x y hx hy).mono fun _ _ ⟨he, hr, hm⟩ => ⟨he, ⟨hr, h.below.trans (hm.toBelow h.below.size (by rintro k (rfl | rfl); exact h.old.1; exact h.old.2)), h.old⟩, hm⟩
theorem Has.len (h : Has W w r rb M) : Calls Try.prog 19 #[.pointer (some ⟨r, 0, none⟩)] w (Ends (.int .i64 (M.n : Int)) fun w' => w = w') := len_at h.ram
theorem tagged_len (M : Mem) (h : M.n ≤ 65536) : M.tagged.length ≤ maxLen := by
  have h1 := tagsTo_le M.T (M.n / 16)
  have h2 : M.tagged = tagsTo M.T (M.n / 16) := rfl
  rw [h2]
  simp only [maxLen]
  omega
theorem Has.tagged (h : Has W w r rb M) :
    Calls Try.prog 14 #[.pointer (some ⟨r, 0, none⟩)] w fun e w' => ∃ v, e = .returned v ∧ Ints w' .i64 v M.tagged.length (fun i => M.tagged.getD i 0) ∧ (∀ g, v.ownBlock = some g → w.heap.size ≤ g) ∧ Has W w' r rb M ∧ Mod Nil w w' :=
  (tagged_at h.ram).mono fun _ _ ⟨v, he, ho, hm⟩ => ⟨v, he, Ints.of_own ho (tagged_len M h.ram.2.1), fun g hg => (ho.lt g hg).1, h.nil hm, hm⟩
end

theorem new_has {W w : World} (hb : Below W.heap.size W w) (n : Nat) (h1 : 4096 ≤ n) (h2 : n ≤ 65536) (h3 : n % 4096 = 0) :
    Calls Try.prog 8 #[.int .i64 (n : Int)] w (Ends (.tuple #[.pointer (some ⟨w.heap.size + 1, 0, none⟩), .int .i64 0]) fun w' => Has W w' (w.heap.size + 1) w.heap.size (Mem.zero n) ∧ Mod Nil w w') :=
  (new_yes n w h1 h2 h3).mono fun _ _ ⟨he, hr, hm, _⟩ => ⟨he, ⟨hr, hb.trans (hm.toBelow hb.size fun _ x => x.elim), by have := hb.size; omega⟩, hm⟩

def kM1 : Mem := ((Mem.zero 4096).store 14 4 16909060).2
def kM2 : Mem := (kM1.storeCap 32 true 5 6).2
theorem k_1 : ((Mem.zero 4096).store 14 4 16909060).1 = true := by decide +kernel
theorem k_2 : (kM1.storeCap 32 true 5 6).1 = true := by decide +kernel
theorem k_3 : kM2.load 16 2 = (258, true) := by decide +kernel
theorem k_4 : kM2.loadCap 32 = (true, 5, 6, true) := by decide +kernel
theorem k_5 : kM2.tagged = [32] := by decide +kernel

theorem known_any (w : World) : Calls Try.prog 15 #[] w (Ends (.bool true) fun w' => Below w.heap.size w w') := by
  go_enter Try.func15, Try.ntmps15
  go_wp2_with (fail)
  refine (new_has (Below.refl _ w) 4096 (by omega) (by omega) (by omega)).mono ?_
  rintro e w1 ⟨rfl, h1, _⟩
  go_wp2_with (fail)
  refine (h1.store 14 4 16909060 (by decide)).mono ?_
  rw [k_1]
  rintro e w2 ⟨rfl, h2, _⟩
  clear h1
  go_wp2_with (fail)
  refine (h2.storeCap 32 true 5 6 (by decide) (by decide)).mono ?_
  change (∀ e w', Ends (.bool (kM1.storeCap 32 true 5 6).1) (fun w' => Has w w' (w.heap.size + 1) w.heap.size kM2 ∧ Mod (fun g => g = w.heap.size + 1 ∨ g = w.heap.size) w2 w') e w' → _)
  rw [k_2]
  rintro e w3 ⟨rfl, h3, _⟩
  clear h2
  go_wp2_with (fail)
  refine (h3.load 16 2).mono ?_
  rw [k_3]
  rintro e w4 ⟨rfl, rfl⟩
  go_wp2_with (fail)
  refine (h3.loadCap 32).mono ?_
  rw [k_4]
  rintro e w4 ⟨rfl, h4, _⟩
  clear h3
  go_wp2_with (fail)
  refine h4.tagged.mono ?_
  rw [k_5]
  rintro e w5 ⟨v, rfl, hi, hv, h5, _⟩
  clear h4
  go_wp2_with (fail)
  refine (same_ints _ _ 1 _ _ (hi.keep ((Mod.refl Nil w5).alloc _) fun _ _ x => x) (lit_ints (L := [32]) (heap_alloc_new w5 _) (by decide))).mono ?_
  rintro e w6 ⟨rfl, hm6⟩
  have h6 := (h5.alloc _).nil hm6
  go_wp2
  go_ret
  exact ⟨rfl, h6.below⟩

end Go.Proofs.Ythpjedbkdepglaa
