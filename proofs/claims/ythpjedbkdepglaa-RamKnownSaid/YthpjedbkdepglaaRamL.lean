/- RamKnown returns true. No condition. -/
import Derived.Test.YthpjedbkdepglaaRamG
import Derived.Deep.RegionHeld3
import Derived.Deep.DrawnRows
import Derived.Test.YthpjedbkdepglaaLook
namespace Go.Proofs.Ythpjedbkdepglaa
open Go.RowKit
attribute [local go_sem ↓] Go.wp_at_zero Go.wp_at_succ

def kSizes : List Int := [-9223372036854775808, -4096, 0, 1, 4095, 4096, 4097, 8192, 65536, 69632, 9223372036854775807]
def kPlaces : List Int := [-9223372036854775808, -16, -1, 4096, 4095, 9223372036854775807]
theorem sizes_kind : ∀ k, k < 11 → (kSizes.getD k 0 = 4096 ∨ kSizes.getD k 0 = 8192 ∨ kSizes.getD k 0 = 65536) ∨ ¬ (4096 ≤ kSizes.getD k 0 ∧ kSizes.getD k 0 ≤ 65536 ∧ kSizes.getD k 0 % 4096 = 0) := by decide
theorem places_kind : ∀ k, k < 6 → kPlaces.getD k 0 < 0 ∨ 4095 ≤ kPlaces.getD k 0 := by decide

theorem none_there (M : Mem) (hn : M.n = 4096) (p : Int) (h : p < 0 ∨ 4095 ≤ p) : M.loadCap p = (false, 0, 0, false) ∧ M.load p 2 = (0, false) ∧ M.store p 8 1 = (false, M) ∧ M.storeCap p true 1 1 = (false, M) := by
  have g : ¬ Gran M p := fun x => by unfold Gran There at x; omega
  have l : ¬ (Sized 2 ∧ There M p 2) := fun x => by unfold There at x; omega
  have s : ¬ (Sized 8 ∧ There M p 8) := fun x => by unfold There at x; omega
  exact ⟨if_neg g, if_neg l, if_neg s, if_neg g⟩

def nM1 : Mem := ((Mem.zero 4096).storeCap 16 true 5 6).2
def nM2 : Mem := (nM1.store 31 1 0).2
theorem n_1 : ((Mem.zero 4096).storeCap 16 true 5 6).1 = true := by decide +kernel
theorem n_2 : (nM1.store 31 1 0).1 = true := by decide +kernel
theorem n_3 : nM2.loadCap 16 = (false, 5, 6, true) := by decide +kernel
theorem n_4 : nM2.tagged = [] := by decide +kernel
theorem n_5 : nM2.n = 4096 := by decide +kernel
theorem n_6 : nM2.loadCap 8 = (false, 0, 0, false) := by decide +kernel
theorem n_7 : nM2.storeCap 8 true 1 1 = (false, nM2) := if_neg fun h => by unfold Gran at h; omega

set_option maxHeartbeats 8000000 in
set_option maxRecDepth 100000 in
theorem ram_known (W : World) : Calls Try.prog 7 #[] W (fun e w' => e = .returned (.bool true) ∧ Below W.heap.size W w') := by
  go_enter Try.func7, Try.ntmps7
  go_wp2_with (fail)
  have hl : (W.alloc (.cells (kSizes.map (Value.int .i64)).toArray 3)).rowIs W.heap.size 3 11 (fun i => .int .i64 (kSizes.getD i 0)) := World.rowIs_alloc _ _ _ _ fun i hi => by
    have hi : i < kSizes.length := by simpa using hi
    simp [List.getElem?_eq_getElem hi]
  have hb0 : Below W.heap.size W (W.alloc (.cells (kSizes.map (Value.int .i64)).toArray 3)) := (Below.refl _ W).alloc (Nat.le_refl _) _
  have HL := Lib.hid hl
  have HB0 := Lib.hid hb0
  clear hl hb0
  go_loopw [2] (fun i wr => ∃ k : Nat, k ≤ 11 ∧ i = .int .i64 (k : Int) ∧ wr.rowIs W.heap.size 3 11 (fun i => .int .i64 (kSizes.getD i 0)) ∧ Below W.heap.size W wr) (fun i _ => 11 - (intOf i).toNat)
  case atStart => exact ⟨0, Nat.zero_le _, rfl, HL.out, HB0.out⟩
  case round =>
    obtain ⟨k, hk, rfl, hr, hb⟩ := hrel
    have HR := Lib.hid hr
    have HB := Lib.hid hb
    by_cases hkn : k < 11
    · have ck := hr.cell hkn
      have sk := sizes_kind k hkn
      have k0 : (0 : Int) ≤ (k : Int) := by omega
      have k1 : (k : Int) < 11 := by omega
      obtain ⟨z, hz⟩ : ∃ z, kSizes.getD k 0 = z := ⟨_, rfl⟩
      rw [hz] at ck sk
      have HZ := Lib.hid hz
      clear hz
      clear hr hb
      rcases sk with (rfl | rfl | rfl) | hno
      all_goals go_wp2_with (fail)
      · refine (new_has HB.out 4096 (by omega) (by omega) (by omega)).mono ?_
        rintro e w2 ⟨rfl, h2, hm2⟩
        have ck2 := (hm2.row HR.out (fun x => x)).cell hkn
        rw [HZ.out] at ck2
        have HR2 := Lib.hid (hm2.row HR.out (fun x => x))
        have hL : ∀ n, Calls Try.prog 19 #[.pointer (some ⟨wr.heap.size + 1, 0, none⟩)] (w2.drewN n) fun e w'' => e = .returned (.int .i64 4096) ∧ ∃ m, w'' = w2.drewN m := fun n => quiet_same (h2.drewN n).len
        have HL2 := Lib.hid hL
        have H2 := Lib.hid h2
        clear hL h2 hm2
        go_wp2_with (fail)
        go_quiet ((go_at_call 19; exact HL2.out _))
        go_wp2
        go_roundw
        case rel => exact ⟨k + 1, by omega, by go_num, rowIs_drewN HR2.out _, below_drewN H2.out.below _⟩
        case measure => simp [intOf]; omega
      · refine (new_has HB.out 8192 (by omega) (by omega) (by omega)).mono ?_
        rintro e w2 ⟨rfl, h2, hm2⟩
        have ck2 := (hm2.row HR.out (fun x => x)).cell hkn
        rw [HZ.out] at ck2
        have HR2 := Lib.hid (hm2.row HR.out (fun x => x))
        have hL : ∀ n, Calls Try.prog 19 #[.pointer (some ⟨wr.heap.size + 1, 0, none⟩)] (w2.drewN n) fun e w'' => e = .returned (.int .i64 8192) ∧ ∃ m, w'' = w2.drewN m := fun n => quiet_same (h2.drewN n).len
        have HL2 := Lib.hid hL
        have H2 := Lib.hid h2
        clear hL h2 hm2
        go_wp2_with (fail)
        go_quiet ((go_at_call 19; exact HL2.out _))
        go_wp2
        go_roundw
        case rel => exact ⟨k + 1, by omega, by go_num, rowIs_drewN HR2.out _, below_drewN H2.out.below _⟩
        case measure => simp [intOf]; omega
      · refine (new_has HB.out 65536 (by omega) (by omega) (by omega)).mono ?_
        rintro e w2 ⟨rfl, h2, hm2⟩
        have ck2 := (hm2.row HR.out (fun x => x)).cell hkn
        rw [HZ.out] at ck2
        have HR2 := Lib.hid (hm2.row HR.out (fun x => x))
        have hL : ∀ n, Calls Try.prog 19 #[.pointer (some ⟨wr.heap.size + 1, 0, none⟩)] (w2.drewN n) fun e w'' => e = .returned (.int .i64 65536) ∧ ∃ m, w'' = w2.drewN m := fun n => quiet_same (h2.drewN n).len
        have HL2 := Lib.hid hL
        have H2 := Lib.hid h2
        clear hL h2 hm2
        go_wp2_with (fail)
        go_quiet ((go_at_call 19; exact HL2.out _))
        go_wp2
        go_roundw
        case rel => exact ⟨k + 1, by omega, by go_num, rowIs_drewN HR2.out _, below_drewN H2.out.below _⟩
        case measure => simp [intOf]; omega
      · have n1 : ((z == 4096) : Bool) = false := by rw [beq_eq_false_iff_ne]; omega
        have n2 : ((z == 8192) : Bool) = false := by rw [beq_eq_false_iff_ne]; omega
        have n3 : ((z == 65536) : Bool) = false := by rw [beq_eq_false_iff_ne]; omega
        refine (new_no z wr hno).mono ?_
        rintro e w2 ⟨rfl, rfl⟩
        clear hno
        go_wp2_with (fail)
        go_quiet (fail)
        go_wp2
        go_roundw
        case rel => exact ⟨k + 1, by omega, by go_num, rowIs_drewN HR.out _, below_drewN HB.out _⟩
        case measure => simp [intOf]; omega
    · obtain rfl : k = 11 := by omega
      clear hr hb
      go_wp2_with (fail)
      refine (new_has HB.out 4096 (by omega) (by omega) (by omega)).mono ?_
      rintro e w2 ⟨rfl, h2, _⟩
      go_wp2_with (fail)
      refine (h2.storeCap 16 true 5 6 (by decide) (by decide)).mono ?_
      change (∀ e w', Ends (.bool ((Mem.zero 4096).storeCap 16 true 5 6).1) (fun w' => Has W w' (wr.heap.size + 1) wr.heap.size nM1 ∧ Mod (fun g => g = wr.heap.size + 1 ∨ g = wr.heap.size) w2 w') e w' → _)
      rw [n_1]
      rintro e w3 ⟨rfl, h3, _⟩
      clear h2
      go_wp2_with (fail)
      refine (h3.store 31 1 0 (by decide)).mono ?_
      change (∀ e w', Ends (.bool (nM1.store 31 1 0).1) (fun w' => Has W w' (wr.heap.size + 1) wr.heap.size nM2 ∧ Mod (fun g => g = wr.heap.size + 1 ∨ g = wr.heap.size) w3 w') e w' → _)
      rw [n_2]
      rintro e w4 ⟨rfl, h4, _⟩
      clear h3
      go_wp2_with (fail)
      refine (h4.loadCap 16).mono ?_
      rw [n_3]
      rintro e w5 ⟨rfl, h5, _⟩
      clear h4
      go_wp2_with (fail)
      have hp : (w5.alloc (.cells (kPlaces.map (Value.int .i64)).toArray 3)).rowIs w5.heap.size 3 6 (fun i => .int .i64 (kPlaces.getD i 0)) := World.rowIs_alloc _ _ _ _ fun i hi => by
        have hi : i < kPlaces.length := by simpa using hi
        simp [List.getElem?_eq_getElem hi]
      have HP := Lib.hid hp
      have H5 := Lib.hid (h5.alloc (.cells (kPlaces.map (Value.int .i64)).toArray 3))
      have hl5 := h5.lt
      clear hp h5
      obtain ⟨r, hr⟩ : ∃ r, r = wr.heap.size + 1 := ⟨_, rfl⟩
      obtain ⟨rb, hrb⟩ : ∃ rb, rb = wr.heap.size := ⟨_, rfl⟩
      obtain ⟨pb, hpb⟩ : ∃ pb, pb = w5.heap.size := ⟨_, rfl⟩
      rw [← hr, ← hrb] at H5 hl5
      rw [← hpb] at HP hl5
      rw [← hr, ← hpb]
      clear hr hrb hpb
      clear HR HB HL HB0
      go_loopw [13] (fun i wr => ∃ k : Nat, k ≤ 6 ∧ i = .int .i64 (k : Int) ∧ wr.rowIs pb 3 6 (fun i => .int .i64 (kPlaces.getD i 0)) ∧ Has W wr r rb nM2) (fun i _ => 6 - (intOf i).toNat)
      case atStart => exact ⟨0, Nat.zero_le _, rfl, HP.out, H5.out⟩
      case round =>
        obtain ⟨k, hk, rfl, hp, hh⟩ := hrel
        obtain ⟨wx, rfl⟩ : ∃ wx : World, wx = wr := ⟨_, rfl⟩
        have HP := Lib.hid hp
        have HH := Lib.hid hh
        clear hp hh
        by_cases hkn : k < 6
        · have ck := HP.out.cell hkn
          have sk := places_kind k hkn
          have k0 : (0 : Int) ≤ (k : Int) := by omega
          have k1 : (k : Int) < 6 := by omega
          obtain ⟨z, hz⟩ : ∃ z, kPlaces.getD k 0 = z := ⟨_, rfl⟩
          rw [hz] at ck sk
          have HZ := Lib.hid hz
          clear hz
          obtain ⟨t1, t2, t3, t4⟩ := none_there nM2 n_5 z sk
          have hpr : pb ≠ r ∧ pb ≠ rb := by omega
          go_wp2_with (fail)
          refine (HH.out.loadCap z).mono ?_
          rw [t1]
          rintro e w6 ⟨rfl, h6, m6⟩
          have H6 := Lib.hid h6
          have HP6 := Lib.hid (m6.row HP.out (fun x => x))
          have ck6 := HP6.out.cell hkn
          rw [HZ.out] at ck6
          clear h6 m6
          have hL := H6.out.load z 2
          rw [t2] at hL
          have HL := Lib.hid hL
          clear hL
          go_wp2_with (fail)
          refine HL.out.mono ?_
          rintro e w7 ⟨rfl, rfl⟩
          go_wp2_with (fail)
          refine (H6.out.store z 8 1 (by decide)).mono ?_
          rw [t3]
          rintro e w8 ⟨rfl, h8, m8⟩
          have H8 := Lib.hid h8
          have HP8 := Lib.hid (m8.row HP6.out (by omega))
          have ck8 := HP8.out.cell hkn
          rw [HZ.out] at ck8
          clear h8 m8
          go_wp2_with (fail)
          refine (H8.out.storeCap z true 1 1 (by decide) (by decide)).mono ?_
          rw [t4]
          rintro e w9 ⟨rfl, h9, m9⟩
          have H9 := Lib.hid h9
          have HP9 := Lib.hid (m9.row HP8.out (by omega))
          clear h9 m9
          go_wp2
          go_roundw
          case rel => exact ⟨k + 1, by omega, by go_num, HP9.out, H9.out⟩
          case measure => simp [intOf]; omega
        · obtain rfl : k = 6 := by omega
          go_wp2_with (fail)
          refine (HH.out.loadCap 8).mono ?_
          rw [n_6]
          rintro e w6 ⟨rfl, h6, _⟩
          have H6 := Lib.hid h6
          clear h6
          go_wp2_with (fail)
          refine (H6.out.storeCap 8 true 1 1 (by decide) (by decide)).mono ?_
          rw [n_7]
          rintro e w7 ⟨rfl, h7, _⟩
          have H7 := Lib.hid h7
          clear h7
          go_wp2_with (fail)
          refine H7.out.tagged.mono ?_
          rw [n_4]
          rintro e w8 ⟨v, rfl, hi, hv, h8, _⟩
          obtain ⟨A, cap, rfl, _, _, _⟩ := hi
          have H8 := Lib.hid h8
          clear h8 hv
          go_wp2_with (fail)
          refine (known_any _).mono ?_
          rintro e w9 ⟨rfl, hb9⟩
          have hb := H8.out.below.trans (hb9.mono H8.out.below.size)
          go_wp2
          go_ret
          exact ⟨rfl, hb⟩

end Go.Proofs.Ythpjedbkdepglaa
