/- The reference's memory: LoadCap, StoreCap, Tagged, New: what each answers and leaves. Condition: such a memory lies there. -/
import Derived.Test.YthpjedbkdepglaaRamK
import Derived.Test.YthpjedbkdepglaaRamH
namespace Go.Proofs.Ythpjedbkdepglaa
open Go.RowKit

theorem load_8 (M : Mem) (o : Nat) (h : o + 8 ≤ M.n) : M.load (o : Int) 8 = (num (fun i => M.B (o + i)) 8, true) := if_pos ⟨by unfold Sized; omega, by unfold There; omega⟩

theorem rloadCap_at {w : World} {m bb tb : Nat} {M : Mem} (h : RefAt w m bb tb M) (off : Int) :
    Calls Try.prog 29 #[.pointer (some ⟨m, 0, none⟩), .int .i64 off] w (Ends (.tuple #[.bool (M.loadCap off).1, .int .u64 (((M.loadCap off).2.1 : Nat) : Int), .int .u64 (((M.loadCap off).2.2.1 : Nat) : Int), .bool (M.loadCap off).2.2.2]) fun w' => Mod Nil w w') := by
  have c0 := h.c0
  have c1 := h.c1
  by_cases ht : There M off 16
  · have hT := rthere_yes m bb M.n off 16 w (by omega) h.hi ht.1 ht.2 c0
    obtain ⟨h0, h1⟩ := ht
    obtain ⟨o, rfl⟩ : ∃ o : Nat, off = (o : Int) := ⟨off.toNat, by omega⟩
    have ho : o + 16 ≤ M.n := by omega
    have hn := h.hi
    have HT := Lib.hid hT
    by_cases hm : o % 16 = 0
    · have he : M.loadCap (o : Int) = (M.T (o / 16), num (fun i => M.B (o + i)) 8, num (fun i => M.B (o + 8 + i)) 8, true) := if_pos ⟨⟨h0, h1⟩, by omega⟩
      rw [he]
      have hz : (((o : Int) % 16 == 0) : Bool) = true := by simp; omega
      have hA := rload_at h (o : Int) 8
      rw [load_8 M o (by omega)] at hA
      have hB := rload_at h ((o : Int) + 8) 8
      have hl8 := load_8 M (o + 8) (by omega)
      rw [show (((o + 8 : Nat)) : Int) = (o : Int) + 8 from by omega] at hl8
      rw [hl8] at hB
      have ct := h.tags.cell (i := o / 16) (by have := h.page; omega)
      have hg1 : (o : Int) / 16 < (M.n : Int) / 16 := by have := h.page; omega
      have hg0 : (0 : Int) ≤ (o : Int) / 16 := by omega
      have HA := Lib.hid hA
      have HB := Lib.hid hB
      clear hA hB hl8 he hT h h1 c0 hm
      go_enter Try.func29, Try.ntmps29
      go_wp2_with (first | (go_at_call 32; refine HT.out.mono ?_; rintro e w' ⟨rfl, rfl⟩))
      refine HA.out.mono ?_
      rintro e w' ⟨rfl, rfl⟩
      go_wp2_with (fail)
      refine HB.out.mono ?_
      rintro e w' ⟨rfl, rfl⟩
      go_wp2
      go_ret4
      exact ⟨rfl, Mod.refl _ _⟩
    · have he : M.loadCap (o : Int) = (false, 0, 0, false) := if_neg fun h => hm (by have := h.2; omega)
      rw [he]
      have hz : (((o : Int) % 16 == 0) : Bool) = false := by simp; omega
      clear hT he h1 h hm
      go_enter Try.func29, Try.ntmps29
      go_wp2_with (first | (go_at_call 32; refine HT.out.mono ?_; rintro e w' ⟨rfl, rfl⟩))
      go_ret4
      exact ⟨rfl, Mod.refl _ _⟩
  · have he : M.loadCap off = (false, 0, 0, false) := if_neg fun h => ht h.1
    rw [he]
    have hT := rthere_no m bb M.n off 16 w (by omega) h.hi ht c0
    have HT := Lib.hid hT
    clear hT he h ht
    go_enter Try.func29, Try.ntmps29
    go_wp2_with (first | (go_at_call 32; refine HT.out.mono ?_; rintro e w' ⟨rfl, rfl⟩))
    go_ret4
    exact ⟨rfl, Mod.refl _ _⟩

/-- Two numbers laid, a tag set. -/
theorem storeCap_two (M : Mem) (o : Nat) (t : Bool) (x y : Nat) (h : o + 16 ≤ M.n) (hm : o % 16 = 0) :
    ∃ P Q : Mem, M.store (o : Int) 8 x = (true, P) ∧ P.store ((o : Int) + 8) 8 y = (true, Q) ∧ M.storeCap (o : Int) t x y = (true, { Q with T := fun g => if g = o / 16 then t else Q.T g }) := by
  refine ⟨{ M with B := lay M.B o 8 x, T := fun g => if g = o / 16 ∨ g = (o + 8 - 1) / 16 then false else M.T g }, _, if_pos ⟨by unfold Sized; omega, by unfold There; omega⟩, if_pos ⟨by unfold Sized; omega, by unfold There; dsimp only; omega⟩, ?_⟩
  unfold Mem.storeCap
  rw [if_pos ⟨by unfold There; omega, by omega⟩]
  have e1 : ((o : Int) + 8).toNat = o + 8 := by omega
  simp only [e1, Int.toNat_natCast]
  congr 2
  funext g
  by_cases e : g = o / 16
  · rw [if_pos e, if_pos e]
  · rw [if_neg e, if_neg e, if_neg (by rw [show (8 : Int).toNat = 8 from rfl]; omega), if_neg (by omega)]

theorem rstoreCap_at {w : World} {m bb tb : Nat} {M : Mem} (h : RefAt w m bb tb M) (off : Int) (tag : Bool) (x y : Nat) (hx : x < 18446744073709551616) (hy : y < 18446744073709551616) :
    Calls Try.prog 30 #[.pointer (some ⟨m, 0, none⟩), .int .i64 off, .bool tag, .int .u64 (x : Int), .int .u64 (y : Int)] w (Ends (.bool (M.storeCap off tag x y).1) fun w' => RefAt w' m bb tb (M.storeCap off tag x y).2 ∧ Mod (fun g => g = bb ∨ g = tb) w w') := by
  have c0 := h.c0
  by_cases ht : There M off 16
  · have hT := rthere_yes m bb M.n off 16 w (by omega) h.hi ht.1 ht.2 c0
    obtain ⟨h0, h1⟩ := ht
    obtain ⟨o, rfl⟩ : ∃ o : Nat, off = (o : Int) := ⟨off.toNat, by omega⟩
    have ho : o + 16 ≤ M.n := by omega
    have hn := h.hi
    have HT := Lib.hid hT
    have H := Lib.hid h
    by_cases hm : o % 16 = 0
    · obtain ⟨P, Q, e1, e2, e3⟩ := storeCap_two M o tag x y ho hm
      rw [e3]
      have hz : (((o : Int) % 16 == 0) : Bool) = true := by simp; omega
      have hA := rstore_at h (o : Int) 8 x hx
      rw [e1] at hA
      have hnP : P.n = M.n := by have := store_n M (o : Int) 8 x; rw [e1] at this; exact this
      have hnQ : Q.n = M.n := by have := store_n P ((o : Int) + 8) 8 y; rw [e2] at this; exact this.trans hnP
      have HnQ := Lib.hid hnQ
      have HA := Lib.hid hA
      have E2 := Lib.hid e2
      have hpg := h.page
      clear hA e1 e2 e3 hT h h1 c0 hnP hnQ
      go_enter Try.func30, Try.ntmps30
      go_wp2_with (first | (go_at_call 32; refine HT.out.mono ?_; rintro e w' ⟨rfl, rfl⟩))
      refine HA.out.mono ?_
      rintro e w1 ⟨rfl, h1, m1⟩
      have H1 := Lib.hid h1
      have M1 := Lib.hid m1
      clear h1 m1
      go_wp2_with (fail)
      refine (rstore_at H1.out ((o : Int) + 8) 8 y hy).mono ?_
      rw [E2.out]
      rintro e w2 ⟨rfl, h2, m2⟩
      have hg1 : (o : Int) / 16 < (M.n : Int) / 16 := by omega
      have hg0 : (0 : Int) ≤ (o : Int) / 16 := by omega
      have c1 := h2.c1
      rw [HnQ.out] at c1
      have ct := h2.tags.cell (i := o / 16) (by rw [HnQ.out]; omega)
      have ft := h2.tags.frozen (o / 16)
      have H2 := Lib.hid h2
      have M2 := Lib.hid m2
      clear h2 m2
      go_wp2
      go_ret
      have hne := H2.out.ne
      refine ⟨rfl, ⟨H2.out.lo, H2.out.hi, H2.out.page, H2.out.byte, hne, H2.out.bytes.setOther (by show bb ≠ tb; omega) _, (H2.out.tags.set _ _).congr fun g hg => ?_, H2.out.own.setOther (by show m ≠ tb; omega) _⟩, (M1.out.trans' M2.out).setCell (.inl (.inr rfl)) _⟩
      simp only [tagRow]
      by_cases e : g = o / 16
      · rw [if_pos e, if_pos e]
      · rw [if_neg e, if_neg e]
    · have he : M.storeCap (o : Int) tag x y = (false, M) := if_neg fun h => hm (by have := h.2; omega)
      rw [he]
      have hz : (((o : Int) % 16 == 0) : Bool) = false := by simp; omega
      clear hT he h1 h hm
      go_enter Try.func30, Try.ntmps30
      go_wp2_with (first | (go_at_call 32; refine HT.out.mono ?_; rintro e w' ⟨rfl, rfl⟩))
      go_ret
      exact ⟨rfl, H.out, Mod.refl _ _⟩
  · have he : M.storeCap off tag x y = (false, M) := if_neg fun h => ht h.1
    rw [he]
    have hT := rthere_no m bb M.n off 16 w (by omega) h.hi ht c0
    have HT := Lib.hid hT
    have H := Lib.hid h
    clear hT he h ht
    go_enter Try.func30, Try.ntmps30
    go_wp2_with (first | (go_at_call 32; refine HT.out.mono ?_; rintro e w' ⟨rfl, rfl⟩))
    go_ret
    exact ⟨rfl, H.out, Mod.refl _ _⟩

theorem rtagged_at {w : World} {m bb tb : Nat} {M : Mem} (h : RefAt w m bb tb M) :
    Calls Try.prog 21 #[.pointer (some ⟨m, 0, none⟩)] w fun e w' => ∃ v, e = .returned v ∧ w'.ownsRow w.heap.size 3 1 v M.tagged.length (M.tagged.map (Value.int .i64)) ∧ Mod Nil w w' := by
  have c1 := h.c1
  have hlt := h.lt
  obtain ⟨i0, hi, hz0, hz1, hz2⟩ := info_parts raminfo_int
  have he : M.tagged = tagsTo M.T (M.n / 16) := rfl
  rw [he]
  have H := Lib.hid h
  have hn := h.hi
  clear h he
  go_enter Try.func21, Try.ntmps21
  go_wp2
  go_loopw [3, 4] (fun v i wr => ∃ q : Nat, q ≤ M.n / 16 ∧ i = .int .i64 (q : Int) ∧ wr.ownsRow w.heap.size 3 1 v (tagsTo M.T q).length ((tagsTo M.T q).map (Value.int .i64)) ∧ Mod Nil w wr) (fun _ i _ => M.n / 16 - (intOf i).toNat)
  case atStart => exact ⟨0, Nat.zero_le _, rfl, World.ownsRow_nil _ _ _ _, Mod.refl _ _⟩
  case round =>
    obtain ⟨q, hq, rfl, ho, hm⟩ := hrel
    have c1r := (hm.cell (p := ⟨m, 1, none⟩) hlt.1 (fun x => x)).trans c1
    have HM := Lib.hid hm
    have HO := Lib.hid ho
    clear hm ho
    have hll := tagsTo_le M.T q
    by_cases hqn : q < M.n / 16
    · have ct := (HM.out.row H.out.tags (fun x => x)).cell hqn
      simp only [tagRow] at ct
      have q0 : (0 : Int) ≤ (q : Int) := by omega
      have q1 : (q : Int) < (M.n : Int) / 16 := by omega
      by_cases hT : M.T q = true
      · rw [hT] at ct
        have sz := HM.out.size
        go_wp2_with (at_builtin; refine wpList_append_lies _ rfl _ _ 34 rfl w.heap.size 3 i0 (.int .i64 0) 1 8 Try.underlying34 hi hz0 hz1 hz2 rfl (by decide) _ (tagsTo M.T q).length _ rfl (HO.out.alloc _) ⟨wr.heap.size, 0, none⟩ 1 1 [.int .i64 (16 * (q : Int))] rfl rfl ?c1 ?c2 (by decide) ?c3 ?c4 ?c5 _ rfl ?_; rotate_right; intro g' cap' w4 hown hgrow hat hlt')
        case c1 => exact cell_one_new _ _ _
        case c2 => intro u hu; rw [List.mem_singleton] at hu; subst hu; rfl
        case c3 => simp only [maxLen]; omega
        case c4 => omega
        case c5 => rw [World.size_alloc]; omega
        go_roundw
        case rel =>
          refine ⟨q + 1, by omega, by go_num, ?_, (HM.out.alloc _).grown hgrow fun k hk => .inr (HO.out.lt k hk).1⟩
          rw [tagsTo_yes hT, List.map_append, List.length_append, show (((16 * q : Nat)) : Int) = 16 * (q : Int) from by omega]
          exact hown
        case measure => simp [intOf]; omega
      · have hT := Bool.eq_false_iff.2 hT
        rw [hT] at ct
        go_wp2
        go_roundw
        case rel =>
          exact ⟨q + 1, by omega, by go_num, by rw [tagsTo_no hT]; exact HO.out, HM.out⟩
        case measure => simp [intOf]; omega
    · obtain rfl : q = M.n / 16 := by omega
      go_wp2
      go_ret
      exact ⟨_, rfl, HO.out, HM.out⟩

end Go.Proofs.Ythpjedbkdepglaa
