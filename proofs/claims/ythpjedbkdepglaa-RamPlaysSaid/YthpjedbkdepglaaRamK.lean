/- The reference's memory over the same abstract state: what each method answers and leaves. Condition: such a memory lies there. -/
import Derived.Test.YthpjedbkdepglaaRamG
namespace Go.Proofs.Ythpjedbkdepglaa
open Go.RowKit

def refc (bb tb n : Nat) (i : Nat) : Value := if i = 0 then .slice (some ⟨bb, 0, none⟩) n n else .slice (some ⟨tb, 0, none⟩) (n / 16) (n / 16)
def tagRow (T : Nat → Bool) : Nat → Value := fun g => .bool (T g)

/-- The reference's memory at blocks m, bb, tb. -/
structure RefAt (w : World) (m bb tb : Nat) (M : Mem) : Prop where
  lo : 4096 ≤ M.n
  hi : M.n ≤ 65536
  page : M.n % 4096 = 0
  byte : ∀ i, M.B i < 256
  ne : m ≠ bb ∧ m ≠ tb ∧ bb ≠ tb
  bytes : w.rowIs bb 5 M.n (byteRow M.B)
  tags : w.rowIs tb 4 (M.n / 16) (tagRow M.T)
  own : w.rowIs m 65 2 (refc bb tb M.n)

theorem RefAt.keep {w w' : World} {m bb tb : Nat} {M : Mem} {F : Nat → Prop} (h : RefAt w m bb tb M) (hm : Mod F w w') (h1 : ¬ F m) (h2 : ¬ F bb) (h3 : ¬ F tb) : RefAt w' m bb tb M :=
  ⟨h.lo, h.hi, h.page, h.byte, h.ne, hm.row h.bytes h2, hm.row h.tags h3, hm.row h.own h1⟩
theorem RefAt.lt {w : World} {m bb tb : Nat} {M : Mem} (h : RefAt w m bb tb M) : m < w.heap.size ∧ bb < w.heap.size ∧ tb < w.heap.size := ⟨h.own.lt, h.bytes.lt, h.tags.lt⟩
theorem RefAt.c0 {w : World} {m bb tb : Nat} {M : Mem} (h : RefAt w m bb tb M) : w.cell? ⟨m, 0, none⟩ = some (.slice (some ⟨bb, 0, none⟩) M.n M.n) := h.own.cell (i := 0) (by omega)
theorem RefAt.c1 {w : World} {m bb tb : Nat} {M : Mem} (h : RefAt w m bb tb M) : w.cell? ⟨m, 1, none⟩ = some (.slice (some ⟨tb, 0, none⟩) (M.n / 16) (M.n / 16)) := h.own.cell (i := 1) (by omega)

theorem rlen_at {w : World} {m bb tb : Nat} {M : Mem} (h : RefAt w m bb tb M) : Calls Try.prog 20 #[.pointer (some ⟨m, 0, none⟩)] w (Ends (.int .i64 (M.n : Int)) fun w' => w = w') := by
  have c0 := h.c0
  clear h
  go_enter Try.func20, Try.ntmps20
  go_wp2
  go_ret
  exact ⟨rfl, rfl⟩

theorem rsized_yes (size : Int) (w : World) (h : Sized size) : Calls Try.prog 31 #[.int .i64 size] w (Ends (.bool true) fun w' => w = w') := by
  unfold Sized at h
  rcases h with rfl | rfl | rfl | rfl
  all_goals
    go_enter Try.func31, Try.ntmps31
    go_wp2
    go_ret
    exact ⟨rfl, rfl⟩
theorem rsized_no (size : Int) (w : World) (h : ¬ Sized size) : Calls Try.prog 31 #[.int .i64 size] w (Ends (.bool false) fun w' => w = w') := by
  unfold Sized at h
  have e1 : (size == 1) = false := by rw [beq_eq_false_iff_ne]; omega
  have e2 : (size == 2) = false := by rw [beq_eq_false_iff_ne]; omega
  have e4 : (size == 4) = false := by rw [beq_eq_false_iff_ne]; omega
  have e8 : (size == 8) = false := by rw [beq_eq_false_iff_ne]; omega
  clear h
  go_enter Try.func31, Try.ntmps31
  go_wp2
  go_ret
  exact ⟨rfl, rfl⟩

theorem rthere_yes (m bb n : Nat) (off : Int) (k : Nat) (w : World) (hk : k ≤ 16) (hn : n ≤ 65536) (h0 : 0 ≤ off) (h1 : off + k ≤ n) (c0 : w.cell? ⟨m, 0, none⟩ = some (.slice (some ⟨bb, 0, none⟩) n n)) :
    Calls Try.prog 32 #[.pointer (some ⟨m, 0, none⟩), .int .i64 off, .int .i64 (k : Int)] w (Ends (.bool true) fun w' => w = w') := by
  have h2 : off ≤ (n : Int) - k := by omega
  go_enter Try.func32, Try.ntmps32
  go_wp2
  go_ret
  exact ⟨rfl, rfl⟩
theorem rthere_no (m bb n : Nat) (off : Int) (k : Nat) (w : World) (hk : k ≤ 16) (hn : n ≤ 65536) (h : ¬ (0 ≤ off ∧ off + k ≤ n)) (c0 : w.cell? ⟨m, 0, none⟩ = some (.slice (some ⟨bb, 0, none⟩) n n)) :
    Calls Try.prog 32 #[.pointer (some ⟨m, 0, none⟩), .int .i64 off, .int .i64 (k : Int)] w (Ends (.bool false) fun w' => w = w') := by
  by_cases h0 : 0 ≤ off
  · have h2 : ¬ off ≤ (n : Int) - k := by omega
    go_enter Try.func32, Try.ntmps32
    go_wp2
    go_ret
    exact ⟨rfl, rfl⟩
  · clear h
    go_enter Try.func32, Try.ntmps32
    go_wp2
    go_ret
    exact ⟨rfl, rfl⟩

theorem rload_at {w : World} {m bb tb : Nat} {M : Mem} (h : RefAt w m bb tb M) (off size : Int) :
    Calls Try.prog 22 #[.pointer (some ⟨m, 0, none⟩), .int .i64 off, .int .i64 size] w (Ends (.tuple #[.int .u64 (((M.load off size).1 : Nat) : Int), .bool (M.load off size).2]) fun w' => w = w') := by
  have c0 := h.c0
  by_cases hs : Sized size ∧ There M off size
  · have he : M.load off size = (num (fun i => M.B (off.toNat + i)) size.toNat, true) := if_pos hs
    rw [he]
    obtain ⟨hsz, h0, h1⟩ := hs
    have hY := rsized_yes size w hsz
    unfold Sized at hsz
    obtain ⟨o, rfl⟩ : ∃ o : Nat, off = (o : Int) := ⟨off.toNat, by omega⟩
    obtain ⟨k, rfl⟩ : ∃ k : Nat, size = (k : Int) := ⟨size.toNat, by omega⟩
    simp only [Int.toNat_natCast]
    have hT := rthere_yes m bb M.n o k w (by omega) h.hi h0 h1 c0
    have HY := Lib.hid hY
    have HT := Lib.hid hT
    have H := Lib.hid h
    have hk8 : k ≤ 8 := by omega
    have hk1 : 1 ≤ k := by omega
    have hok : o + k ≤ M.n := by omega
    have hn := h.hi
    clear hY hT h hsz he h1 h0
    go_enter Try.func22, Try.ntmps22
    go_wp2_with (first | (go_at_call 31; refine HY.out.mono ?_; rintro e w' ⟨rfl, rfl⟩) | (go_at_call 32; refine HT.out.mono ?_; rintro e w' ⟨rfl, rfl⟩))
    have hb := H.out.byte
    have hcell : ∀ i, i < M.n → w.cell? ⟨bb, i, none⟩ = some (.int .u8 (M.B i : Nat)) := fun i hi => H.out.bytes.cell hi
    have HB := Lib.hid hb
    have HC := Lib.hid hcell
    clear hb hcell
    go_loop [8, 9] (fun v i => ∃ j : Int, -1 ≤ j ∧ j < k ∧ i = .int .i64 j ∧ v = .int .u64 (num (fun t => M.B (o + ((j + 1).toNat + t))) (k - (j + 1).toNat) : Nat)) (fun _ i => (intOf i + 1).toNat)
    case atStart => exact ⟨(k : Int) - 1, by omega, by omega, rfl, by rw [show k - ((k : Int) - 1 + 1).toNat = 0 from by omega]; rfl⟩
    case round =>
      obtain ⟨j, hj1, hj2, rfl, rfl⟩ := hrel
      by_cases hj0 : 0 ≤ j
      · obtain ⟨q, rfl⟩ : ∃ q : Nat, j = (q : Int) := ⟨j.toNat, by omega⟩
        have cq := HC.out (o + q) (by omega)
        have hbq := HB.out (o + q)
        have hv : num (fun t => M.B (o + (((q : Int) + 1).toNat + t))) (k - ((q : Int) + 1).toNat) < 256 ^ 7 := Nat.lt_of_lt_of_le (num_lt _ (fun t => HB.out _) _) (Nat.pow_le_pow_right (by decide) (by omega))
        have hst : (num (fun t => M.B (o + (((q : Int) - 1 + 1).toNat + t))) (k - ((q : Int) - 1 + 1).toNat) : Nat) = num (fun t => M.B (o + (((q : Int) + 1).toNat + t))) (k - ((q : Int) + 1).toNat) * 256 + M.B (o + q) := by
          rw [show ((q : Int) - 1 + 1).toNat = q from by omega, show ((q : Int) + 1).toNat = q + 1 from by omega, show k - q = (k - (q + 1)) + 1 from by omega, num_top, Nat.add_comm (M.B (o + (q + 0))), Nat.mul_comm]
          congr 2
          refine num_congr _ fun i _ => ?_
          rw [show q + (i + 1) = q + 1 + i from by omega]
        generalize num (fun t => M.B (o + (((q : Int) + 1).toNat + t))) (k - ((q : Int) + 1).toNat) = V at hv hst
        have hV : V < 72057594037927936 := hv
        have HS := Lib.hid hst
        clear hv hst
        go_wp2
        go_round
        case rel => exact ⟨(q : Int) - 1, by omega, by omega, by go_num, congrArg (Value.int .u64) (by rw [HS.out, Int.natCast_add, Int.natCast_mul]; rfl)⟩
        case measure => simp [intOf]
      · obtain rfl : j = -1 := by omega
        go_wp2
        go_ret2
        refine ⟨?_, rfl⟩
        simp
  · have he : M.load off size = (0, false) := if_neg hs
    rw [he]
    by_cases hz : Sized size
    · have hY := rsized_yes size w hz
      unfold Sized at hz
      obtain ⟨k, rfl⟩ : ∃ k : Nat, size = (k : Int) := ⟨size.toNat, by omega⟩
      have hT := rthere_no m bb M.n off k w (by omega) h.hi (fun x => hs ⟨by unfold Sized; omega, x⟩) c0
      have HY := Lib.hid hY
      have HT := Lib.hid hT
      clear hY hT h hs hz he c0
      go_enter Try.func22, Try.ntmps22
      go_wp2_with (first | (go_at_call 31; refine HY.out.mono ?_; rintro e w' ⟨rfl, rfl⟩) | (go_at_call 32; refine HT.out.mono ?_; rintro e w' ⟨rfl, rfl⟩))
      go_ret2
      exact ⟨rfl, rfl⟩
    · have hY := rsized_no size w hz
      have HY := Lib.hid hY
      clear hY h hs hz he c0
      go_enter Try.func22, Try.ntmps22
      go_wp2_with (first | (go_at_call 31; refine HY.out.mono ?_; rintro e w' ⟨rfl, rfl⟩))
      go_ret2
      exact ⟨rfl, rfl⟩

/-- Tags of the reference after q bytes. -/
def rubR (T : Nat → Bool) (o q : Nat) : Nat → Bool := fun g => if 1 ≤ q ∧ o / 16 ≤ g ∧ g ≤ (o + q - 1) / 16 then false else T g
theorem rubR_zero (T : Nat → Bool) (o : Nat) : rubR T o 0 = T := by
  funext g
  exact if_neg (by omega)
theorem rubR_step (T : Nat → Bool) (o q g : Nat) : (if g = (o + q) / 16 then false else rubR T o q g) = rubR T o (q + 1) g := by
  unfold rubR
  by_cases h : 1 ≤ q + 1 ∧ o / 16 ≤ g ∧ g ≤ (o + (q + 1) - 1) / 16
  · rw [if_pos h]
    by_cases h2 : g = (o + q) / 16
    · rw [if_pos h2]
    · rw [if_neg h2, if_pos (by omega)]
  · rw [if_neg h, if_neg (by omega), if_neg (by omega)]
theorem rubR_all (T : Nat → Bool) (o k : Nat) (h1 : 1 ≤ k) (h8 : k ≤ 8) : rubR T o k = fun g => if g = o / 16 ∨ g = (o + k - 1) / 16 then false else T g := by
  funext g
  unfold rubR
  by_cases h : g = o / 16 ∨ g = (o + k - 1) / 16
  · rw [if_pos h, if_pos (by omega)]
  · rw [if_neg h, if_neg (by omega)]

theorem rstore_at {w : World} {m bb tb : Nat} {M : Mem} (h : RefAt w m bb tb M) (off size : Int) (v : Nat) (_hv : v < 18446744073709551616) :
    Calls Try.prog 28 #[.pointer (some ⟨m, 0, none⟩), .int .i64 off, .int .i64 size, .int .u64 (v : Int)] w (Ends (.bool (M.store off size v).1) fun w' => RefAt w' m bb tb (M.store off size v).2 ∧ Mod (fun g => g = bb ∨ g = tb) w w') := by
  have c0 := h.c0
  have c1 := h.c1
  by_cases hs : Sized size ∧ There M off size
  · obtain ⟨hsz, h0, h1⟩ := hs
    have hY := rsized_yes size w hsz
    have he : M.store off size v = (true, { M with B := lay M.B off.toNat size.toNat v, T := rubR M.T off.toNat size.toNat }) := by
      unfold Sized at hsz
      rw [show M.store off size v = (true, { M with B := lay M.B off.toNat size.toNat v, T := fun g => if g = off.toNat / 16 ∨ g = (off.toNat + size.toNat - 1) / 16 then false else M.T g }) from if_pos ⟨hsz, h0, h1⟩, rubR_all _ _ _ (by omega) (by omega)]
    rw [he]
    unfold Sized at hsz
    obtain ⟨o, rfl⟩ : ∃ o : Nat, off = (o : Int) := ⟨off.toNat, by omega⟩
    obtain ⟨k, rfl⟩ : ∃ k : Nat, size = (k : Int) := ⟨size.toNat, by omega⟩
    simp only [Int.toNat_natCast]
    have hT := rthere_yes m bb M.n o k w (by omega) h.hi h0 h1 c0
    have HY := Lib.hid hY
    have HT := Lib.hid hT
    have H := Lib.hid h
    have hk8 : k ≤ 8 := by omega
    have hk1 : 1 ≤ k := by omega
    have hok : o + k ≤ M.n := by omega
    have hn := h.hi
    clear hY hT h hsz he h1 h0
    go_enter Try.func28, Try.ntmps28
    go_wp2_with (first | (go_at_call 31; refine HY.out.mono ?_; rintro e w' ⟨rfl, rfl⟩) | (go_at_call 32; refine HT.out.mono ?_; rintro e w' ⟨rfl, rfl⟩))
    have C0 := Lib.hid c0
    have C1 := Lib.hid c1
    clear c0 c1
    go_loopw [9] (fun i wr => ∃ q : Nat, q ≤ k ∧ i = .int .i64 (q : Int) ∧ wr.rowIs bb 5 M.n (byteRow (lay M.B o q v)) ∧ wr.rowIs tb 4 (M.n / 16) (tagRow (rubR M.T o q)) ∧ Mod (fun g => g = bb ∨ g = tb) w wr) (fun i _ => k - (intOf i).toNat)
    case atStart => exact ⟨0, Nat.zero_le _, rfl, by rw [lay_zero]; exact H.out.bytes, by rw [rubR_zero]; exact H.out.tags, Mod.refl _ _⟩
    case round =>
      obtain ⟨q, hq, rfl, hb, ht, hm⟩ := hrel
      have hne := H.out.ne
      have hlt := H.out.lt
      have c0 := (hm.cell (p := ⟨m, 0, none⟩) hlt.1 (by show ¬ (m = bb ∨ m = tb); omega)).trans C0.out
      have c1 := (hm.cell (p := ⟨m, 1, none⟩) hlt.1 (by show ¬ (m = bb ∨ m = tb); omega)).trans C1.out
      by_cases hqk : q < k
      · have cq := hb.cell (i := o + q) (by omega)
        have fq := hb.frozen (o + q)
        have ct := ht.cell (i := (o + q) / 16) (by have := H.out.page; omega)
        have ft := ht.frozen ((o + q) / 16)
        have hg1 : ((o : Int) + (q : Int)) / 16 < (M.n : Int) / 16 := by have := H.out.page; omega
        have hg0 : (0 : Int) ≤ ((o : Int) + (q : Int)) / 16 := by omega
        have ho1 : (o : Int) + (q : Int) < M.n := by omega
        have HB := Lib.hid hb
        have HTg := Lib.hid ht
        have HM := Lib.hid hm
        have d1 : ∀ u, (World.setCell wr ⟨bb, o + q, none⟩ u).cell? ⟨m, 1, none⟩ = some (.slice (some ⟨tb, 0, none⟩) (M.n / 16) (M.n / 16)) := fun u => (World.cell?_setCell_other _ _ _ _ (by simp <;> omega)).trans c1
        have d2 : ∀ u, (World.setCell wr ⟨bb, o + q, none⟩ u).cell? ⟨tb, (o + q) / 16, none⟩ = some (tagRow (rubR M.T o q) ((o + q) / 16)) := fun u => (World.cell?_setCell_other _ _ _ _ (by simp <;> omega)).trans ct
        have d3 : ∀ u, (World.setCell wr ⟨bb, o + q, none⟩ u).frozen? ⟨tb, (o + q) / 16, none⟩ = false := fun u => (ht.setOther (a := ⟨bb, o + q, none⟩) (by show tb ≠ bb; omega) u).frozen _
        clear hb ht hm
        go_wp2
        go_roundw
        case rel =>
          refine ⟨q + 1, by omega, by go_num, ((HB.out.set _ _).setOther (by show bb ≠ tb; omega) _).congr fun i hi => ?_, ((HTg.out.setOther (by show tb ≠ bb; omega) _).set _ _).congr fun g hg => ?_, (HM.out.setCell (.inl (.inl rfl)) _).setCell (.inl (.inr rfl)) _⟩
          · rw [lay_succ]
            simp only [byteRow]
            by_cases e : i = o + q
            · rw [if_pos e, if_pos e, byte_cast]
            · rw [if_neg e, if_neg e]
          · have hs := rubR_step M.T o q g
            simp only [tagRow]
            rw [← hs]
            by_cases e : g = (o + q) / 16
            · rw [if_pos e, if_pos e]
            · rw [if_neg e, if_neg e]
        case measure => simp [intOf]; omega
      · obtain rfl : q = k := by omega
        go_wp2
        go_ret
        exact ⟨rfl, ⟨H.out.lo, H.out.hi, H.out.page, lay_lt H.out.byte _ _ _, hne, hb, ht, hm.row H.out.own (by omega)⟩, hm⟩
  · have he : M.store off size v = (false, M) := if_neg hs
    rw [he]
    by_cases hz : Sized size
    · have hY := rsized_yes size w hz
      unfold Sized at hz
      obtain ⟨k, rfl⟩ : ∃ k : Nat, size = (k : Int) := ⟨size.toNat, by omega⟩
      have hT := rthere_no m bb M.n off k w (by omega) h.hi (fun x => hs ⟨by unfold Sized; omega, x⟩) c0
      have HY := Lib.hid hY
      have HT := Lib.hid hT
      have H := Lib.hid h
      clear hY hT h hs hz he c0 c1
      go_enter Try.func28, Try.ntmps28
      go_wp2_with (first | (go_at_call 31; refine HY.out.mono ?_; rintro e w' ⟨rfl, rfl⟩) | (go_at_call 32; refine HT.out.mono ?_; rintro e w' ⟨rfl, rfl⟩))
      go_ret
      exact ⟨rfl, H.out, Mod.refl _ _⟩
    · have hY := rsized_no size w hz
      have HY := Lib.hid hY
      have H := Lib.hid h
      clear hY h hs hz he c0 c1
      go_enter Try.func28, Try.ntmps28
      go_wp2_with (first | (go_at_call 31; refine HY.out.mono ?_; rintro e w' ⟨rfl, rfl⟩))
      go_ret
      exact ⟨rfl, H.out, Mod.refl _ _⟩

end Go.Proofs.Ythpjedbkdepglaa
