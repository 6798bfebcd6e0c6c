/- The program's memory over one abstract state: Store, StoreCap: what each answers and leaves. Condition: a memory lies there. -/
import Derived.Test.YtalhdcjnaknglaaRamD
namespace Go.Proofs.Ytalhdcjnaknglaa
open Go.RowKit

/-- One word anew. -/
theorem rfc_set {w : World} {r rb n : Nat} {tw : Nat → Nat} {t : TypeId} (h : w.rowIs r t 65 (rfc rb n tw)) (j x : Nat) : (w.setCell ⟨r, 1 + j, none⟩ (.int .u64 ((x : Nat) : Int))).rowIs r t 65 (rfc rb n fun i => if i = j then x else tw i) := by
  refine (h.set _ _).congr fun i _ => ?_
  unfold rfc
  by_cases e : i = 1 + j
  · rw [if_pos e, if_neg (by omega)]
    dsimp only
    rw [if_pos (by omega)]
  · rw [if_neg e]
    by_cases e2 : i = 0
    · rw [if_pos e2, if_pos e2]
    · rw [if_neg e2, if_neg e2]
      dsimp only
      rw [if_neg (by omega)]

/-- Tags after q rounds. -/
def rubbed (T : Nat → Bool) (o k q : Nat) : Nat → Bool := fun g => if (1 ≤ q ∧ g = o / 16) ∨ (2 ≤ q ∧ g = (o + k - 1) / 16) then false else T g
def spot (o k q : Nat) : Nat := if q = 0 then o else o + k - 1

theorem words_congr {tw : Nat → Nat} {T T' : Nat → Bool} (h : Words tw T) (e : ∀ g, T g = T' g) : Words tw T' := by
  obtain rfl : T = T' := funext e
  exact h

theorem two_cast (n : Nat) : ((2 ^ n : Nat) : Int) = (2 : Int) ^ n := by push_cast; rfl

theorem store_at {w : World} {r rb : Nat} {M : Mem} (h : RamAt w r rb M) (off size : Int) (v : Nat) (hv : v < 18446744073709551616) :
    Calls Try.prog 64 #[.pointer (some ⟨r, 0, none⟩), .int .i64 off, .int .i64 size, .int .u64 (v : Int)] w (Ends (.bool (M.store off size v).1) fun w' => RamAt w' r rb (M.store off size v).2 ∧ Mod (fun g => g = r ∨ g = rb) w w') := by
  have hall := h
  have c0 := h.c0
  obtain ⟨a, b, c, d, e, hb, tw, hr, hw⟩ := h
  by_cases hs : Sized size ∧ There M off size
  · obtain ⟨hsz, h0, h1⟩ := hs
    obtain ⟨o, rfl⟩ : ∃ o : Nat, off = (o : Int) := ⟨off.toNat, by omega⟩
    obtain ⟨k, rfl⟩ : ∃ k : Nat, size = (k : Int) := ⟨size.toNat, by unfold Sized at hsz; omega⟩
    have he : M.store (o : Int) (k : Int) v = (true, { M with B := lay M.B o k v, T := rubbed M.T o k 2 }) := by
      rw [show M.store (o : Int) (k : Int) v = (true, { M with B := lay M.B o k v, T := fun g => if g = o / 16 ∨ g = (o + k - 1) / 16 then false else M.T g }) from if_pos ⟨hsz, h0, h1⟩]
      congr 2
      funext g
      simp [rubbed]
    rw [he]
    unfold Sized at hsz
    have hk1 : 1 ≤ k := by omega
    have hk8 : k ≤ 8 := by omega
    have ho : o + k ≤ M.n := by omega
    have hN := number_yes r rb M.n o k w (by omega) (by omega) b c0
    have hP := put_any rb M.n o k (M.n - o) M.B v w hk8 ho b hv hb
    have HN := Lib.hid hN
    have HP := Lib.hid hP
    have HR := Lib.hid hr
    have HD := Lib.hid d
    clear hN hP hb hr d he hsz hall h1
    go_enter Try.func64, Try.ntmps64
    go_wp2_with (first | (go_at_call 65; refine HN.out.mono ?_; rintro e w' ⟨rfl, rfl⟩) | (go_at_call 44; refine HP.out.mono ?_; rintro e w2 ⟨rfl, hb2, hm2⟩))
    have hr2 := hm2.row HR.out e
    have s2 := hm2.size
    clear c0
    go_loopw [34] (fun i wr => ∃ (q : Nat) (tw' : Nat → Nat), q ≤ 2 ∧ i = .int .i64 (q : Int) ∧ wr.rowIs rb 5 M.n (byteRow (lay M.B o k v)) ∧ wr.rowIs r 89 65 (rfc rb M.n tw') ∧ Words tw' (rubbed M.T o k q) ∧ wr.rowIs w2.heap.size 3 2 (fun i => .int .i64 ((spot o k i : Nat) : Int)) ∧ Mod (fun g => g = r ∨ g = rb) w wr) (fun i _ => 2 - (intOf i).toNat)
    case atStart =>
      refine ⟨0, tw, Nat.zero_le _, rfl, hb2.alloc _, hr2.alloc _, words_congr hw fun g => by simp [rubbed], World.rowIs_alloc _ _ _ _ ?_, (hm2.mono fun i _ h => .inr h).alloc _⟩
      intro i hi
      have hi2 : i < 2 := hi
      rcases i with _ | _ | i
      · rfl
      · show some _ = some _
        rw [show spot o k (0 + 1) = o + k - 1 from rfl, show ((o + k - 1 : Nat) : Int) = (o : Int) + k - 1 from by omega]
        rfl
      · omega
    case round =>
      obtain ⟨q, tw', hq, rfl, hbq, hrq, hwq, hlq, hmq⟩ := hrel
      by_cases hqk : q < 2
      · have cl := hlq.cell (i := q) hqk
        have hsp : spot o k q < 65536 := by unfold spot; split <;> omega
        have fl := hlq.frozen q
        have HBq := Lib.hid hbq
        have HRq := Lib.hid hrq
        have HLq := Lib.hid hlq
        have HMq := Lib.hid hmq
        have HWq := Lib.hid hwq
        clear hbq hrq hlq hmq hwq
        go_wp2_with (fail)
        go_at_call 41
        refine (tag_any _ (spot o k q) _ hsp).mono ?_
        rintro e w3 ⟨rfl, hm3⟩
        have hr3 := hm3.row HRq.out (fun x => x)
        have c3 := hr3.cell (i := 1 + spot o k q / 16 / 64) (by omega)
        have f3 := hr3.frozen (1 + spot o k q / 16 / 64)
        rw [rfc_s] at c3
        obtain ⟨x, hx, hwx⟩ := words_clear HWq.out (spot o k q / 16)
        rw [two_cast] at hx
        have HR3 := Lib.hid hr3
        have HM3 := Lib.hid hm3
        have HWx := Lib.hid hwx
        clear hr3 hm3 hwx
        go_wp2
        go_roundw
        case rel =>
          refine ⟨q + 1, _, by omega, by go_num, (HM3.out.row HBq.out (fun x => x)).setOther (Ne.symm e) _, rfc_set HR3.out _ _, words_congr HWx.out fun g => ?_, (HM3.out.row HLq.out (fun x => x)).setOther (by show _ ≠ r; have := HR.out.lt; omega) _, (HMq.out.trans' (HM3.out.of_nil _)).setCell (.inl (.inl rfl)) _⟩
          unfold rubbed spot
          rcases q with _ | _ | q
          · simp
          · simp
            by_cases h1 : g = o / 16 <;> by_cases h2 : g = (o + k - 1) / 16 <;> simp [h1, h2]
          · omega
        case measure => simp [intOf]; omega
      · obtain rfl : q = 2 := by omega
        go_wp2
        go_ret
        exact ⟨rfl, ⟨a, b, c, lay_lt HD.out _ _ _, e, hbq, tw', hrq, hwq⟩, hmq⟩
  · have he : M.store off size v = (false, M) := if_neg hs
    rw [he]
    have hN := number_no r rb M.n off size w hs b c0
    have HN := Lib.hid hN
    have HA := Lib.hid hall
    clear hN hb hr d hs he hall hw
    go_enter Try.func64, Try.ntmps64
    go_wp2_with (go_at_call 65; refine HN.out.mono ?_; rintro e w' ⟨rfl, rfl⟩)
    go_ret
    exact ⟨rfl, HA.out, Mod.refl _ _⟩

theorem storeCap_at {w : World} {r rb : Nat} {M : Mem} (h : RamAt w r rb M) (off : Int) (tag : Bool) (x y : Nat) (hx : x < 18446744073709551616) (hy : y < 18446744073709551616) :
    Calls Try.prog 35 #[.pointer (some ⟨r, 0, none⟩), .int .i64 off, .bool tag, .int .u64 (x : Int), .int .u64 (y : Int)] w (Ends (.bool (M.storeCap off tag x y).1) fun w' => RamAt w' r rb (M.storeCap off tag x y).2 ∧ Mod (fun g => g = r ∨ g = rb) w w') := by
  have hall := h
  have c0 := h.c0
  obtain ⟨a, b, c, d, e, hb, tw, hr, hw⟩ := h
  by_cases ht : There M off 16
  · obtain ⟨h0, h1⟩ := ht
    obtain ⟨o, rfl⟩ : ∃ o : Nat, off = (o : Int) := ⟨off.toNat, by omega⟩
    have ho : o + 16 ≤ M.n := by omega
    have hP := part_yes r rb M.n o 16 w (by omega) (by omega) (by omega) b c0
    have HP := Lib.hid hP
    have HA := Lib.hid hall
    by_cases hm : o % 16 = 0
    · have he : M.storeCap (o : Int) tag x y = (true, { M with B := lay (lay M.B o 8 x) (o + 8) 8 y, T := fun g => if g = o / 16 then tag else M.T g }) := if_pos ⟨⟨h0, h1⟩, by omega⟩
      rw [he]
      have hz : (((o : Int) % 16 == 0) : Bool) = true := by simp; omega
      have HB := Lib.hid hb
      have HR := Lib.hid hr
      have HD := Lib.hid d
      have HW := Lib.hid hw
      clear hP hb hr d he hw h1 hall
      go_enter Try.func35, Try.ntmps35
      go_wp2_with (go_at_call 40; refine HP.out.mono ?_; rintro e w' ⟨rfl, rfl⟩)
      go_at_call 44
      refine (put_any rb M.n o 8 (M.n - o) M.B x _ (by omega) (by omega) b hx HB.out).mono ?_
      rintro e w1 ⟨rfl, hb1, hm1⟩
      go_wp2_with (fail)
      go_at_call 44
      refine (put_any rb M.n (o + 8) 8 (M.n - o - 8) _ y _ (by omega) (by omega) b hy hb1).mono ?_
      rintro e w2 ⟨rfl, hb2, hm2⟩
      have hm2 := hm1.trans' hm2
      clear hb1 hm1
      go_wp2_with (fail)
      go_at_call 41
      refine (tag_any _ o _ (by omega)).mono ?_
      rintro e w3 ⟨rfl, hm3⟩
      have hb3 := hm3.row hb2 (fun x => x)
      have hm3 := hm2.trans hm3 (fun _ _ x => x.elim)
      have hr3 := hm3.row HR.out e
      have c3 := hr3.cell (i := 1 + o / 16 / 64) (by omega)
      have f3 := hr3.frozen (1 + o / 16 / 64)
      rw [rfc_s] at c3
      obtain ⟨z, hz2, hwz⟩ := words_clear HW.out (o / 16)
      rw [two_cast] at hz2
      have hr4 := rfc_set hr3 (o / 16 / 64) z
      have hb4 : World.rowIs _ _ _ _ _ := hb3.setOther (a := ⟨r, 1 + o / 16 / 64, none⟩) (Ne.symm e) (.int .u64 ((z : Nat) : Int))
      have hm4 := (hm3.mono (G := fun g => g = r ∨ g = rb) fun i _ h => .inr h).setCell (p := ⟨r, 1 + o / 16 / 64, none⟩) (.inl (.inl rfl)) (.int .u64 ((z : Nat) : Int))
      have HR4 := Lib.hid hr4
      have HB4 := Lib.hid hb4
      have HM4 := Lib.hid hm4
      have HW4 := Lib.hid hwz
      clear hb2 hm2 hb3 hm3 hr4 hb4 hm4 hwz
      have c4 := HR4.out.cell (i := 1 + o / 16 / 64) (by omega)
      rw [rfc_s, if_pos rfl] at c4
      have f4 := HR4.out.frozen (1 + o / 16 / 64)
      rcases tag with _ | _
      · go_wp2
        go_ret
        refine ⟨rfl, ⟨a, b, c, lay_lt (lay_lt HD.out _ _ _) _ _ _, e, HB4.out, _, HR4.out, words_congr HW4.out fun g => ?_⟩, HM4.out⟩
        rfl
      · obtain ⟨z5, hz5, hw5⟩ := words_set HW4.out (o / 16)
        rw [two_cast, if_pos rfl] at hz5
        have HW5 := Lib.hid hw5
        clear hw5
        go_wp2
        go_ret
        refine ⟨rfl, ⟨a, b, c, lay_lt (lay_lt HD.out _ _ _) _ _ _, e, HB4.out.setOther (Ne.symm e) _, _, rfc_set HR4.out _ _, words_congr HW5.out fun g => ?_⟩, HM4.out.setCell (.inl (.inl rfl)) _⟩
        dsimp only
        by_cases h1 : g = o / 16
        · rw [if_pos h1, if_pos h1]
        · rw [if_neg h1, if_neg h1, if_neg h1]
    · have he : M.storeCap (o : Int) tag x y = (false, M) := if_neg fun h => hm (by have := h.2; omega)
      rw [he]
      have hz : (((o : Int) % 16 == 0) : Bool) = false := by simp; omega
      clear hP hb hr d he hw h1 hall
      go_enter Try.func35, Try.ntmps35
      go_wp2_with (go_at_call 40; refine HP.out.mono ?_; rintro e w' ⟨rfl, rfl⟩)
      go_ret
      exact ⟨rfl, HA.out, Mod.refl _ _⟩
  · have he : M.storeCap off tag x y = (false, M) := if_neg fun h => ht h.1
    rw [he]
    have hP := part_no r rb M.n off 16 w (by omega) (by unfold There at ht; omega) b c0
    have HP := Lib.hid hP
    have HA := Lib.hid hall
    clear hP hb hr d he hw ht hall
    go_enter Try.func35, Try.ntmps35
    go_wp2_with (go_at_call 40; refine HP.out.mono ?_; rintro e w' ⟨rfl, rfl⟩)
    go_ret
    exact ⟨rfl, HA.out, Mod.refl _ _⟩

end Go.Proofs.Ytalhdcjnaknglaa
