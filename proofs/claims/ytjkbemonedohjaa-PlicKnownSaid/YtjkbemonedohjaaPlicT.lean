/- The reference's interrupt controller: Load, Store, Pending; both are new. Condition: such a controller lies there. -/
import Derived.Test.YtjkbemonedohjaaPlicS
import Derived.Test.YtjkbemonedohjaaLook
namespace Go.Proofs.Ytjkbemonedohjaa
open Go.RowKit
attribute [local go_sem ↓] Go.wp_at_zero Go.wp_at_succ

/-- All offsets and sizes, by what stands there. -/
theorem which_cases (off size : Int) : (size ≠ 4 ∧ which off size = (0, 0)) ∨ (size = 4 ∧ ((0 ≤ off ∧ off < 128 ∧ off % 4 = 0 ∧ which off size = (1, off.toNat / 4)) ∨ (off = 4096 ∧ which off size = (2, 0)) ∨ (off = 8192 ∧ which off size = (3, 0)) ∨ (off = 8320 ∧ which off size = (3, 1)) ∨ (off = 2097152 ∧ which off size = (4, 0)) ∨ (off = 2101248 ∧ which off size = (4, 1)) ∨ (off = 2097156 ∧ which off size = (5, 0)) ∨ (off = 2101252 ∧ which off size = (5, 1)) ∨
    (¬ (0 ≤ off ∧ off < 128 ∧ off % 4 = 0) ∧ off ≠ 4096 ∧ off ≠ 8192 ∧ off ≠ 8320 ∧ off ≠ 2097152 ∧ off ≠ 2101248 ∧ off ≠ 2097156 ∧ off ≠ 2101252 ∧ which off size = (0, 0)))) := by
  by_cases hs : size = 4
  · refine .inr ⟨hs, ?_⟩
    subst hs
    by_cases h0 : 0 ≤ off
    · by_cases h1 : off < 128 ∧ off % 4 = 0
      · exact .inl ⟨h0, h1.1, h1.2, by unfold which; rw [if_pos ⟨rfl, h0⟩, if_pos h1]⟩
      · refine .inr ?_
        by_cases e0 : off = 4096
        · exact .inl ⟨e0, by subst e0; rfl⟩
        by_cases e1 : off = 8192
        · exact .inr (.inl ⟨e1, by subst e1; rfl⟩)
        by_cases e2 : off = 8320
        · exact .inr (.inr (.inl ⟨e2, by subst e2; rfl⟩))
        by_cases e3 : off = 2097152
        · exact .inr (.inr (.inr (.inl ⟨e3, by subst e3; rfl⟩)))
        by_cases e4 : off = 2101248
        · exact .inr (.inr (.inr (.inr (.inl ⟨e4, by subst e4; rfl⟩))))
        by_cases e5 : off = 2097156
        · exact .inr (.inr (.inr (.inr (.inr (.inl ⟨e5, by subst e5; rfl⟩)))))
        by_cases e6 : off = 2101252
        · exact .inr (.inr (.inr (.inr (.inr (.inr (.inl ⟨e6, by subst e6; rfl⟩))))))
        exact .inr (.inr (.inr (.inr (.inr (.inr (.inr ⟨fun x => h1 ⟨x.2.1, x.2.2⟩, e0, e1, e2, e3, e4, e5, e6, by unfold which; rw [if_pos ⟨rfl, h0⟩, if_neg h1, if_neg e0, if_neg e1, if_neg e2, if_neg e3, if_neg e4, if_neg e5, if_neg e6]⟩))))))
    · refine .inr (.inr (.inr (.inr (.inr (.inr (.inr (.inr ⟨fun x => h0 x.1, by omega, by omega, by omega, by omega, by omega, by omega, by omega, ?_⟩)))))))
      unfold which
      rw [if_neg fun x => h0 x.2]
  · exact .inl ⟨hs, by unfold which; rw [if_neg fun x => hs x.1]⟩

set_option maxHeartbeats 4000000 in
theorem rload_at (x : Nat) (S : Pli) (off size : Int) (w : World) (h : RPlicAt w x S) :
    Calls Try.prog 11 #[.pointer (some ⟨x, 0, none⟩), .int .i64 off, .int .i64 size] w (Ends (.tuple #[.int .u64 (((S.load off size).1.1 : Nat) : Int), .bool (S.load off size).1.2]) fun w' => RPlicAt w' x (S.load off size).2 ∧ Mod (fun g => g = x) w w') := by
  have H := Lib.hid h
  unfold Pli.load
  rcases which_cases off size with ⟨hs, hw⟩ | ⟨rfl, ⟨h0, h1, h2, hw⟩ | ⟨rfl, hw⟩ | ⟨rfl, hw⟩ | ⟨rfl, hw⟩ | ⟨rfl, hw⟩ | ⟨rfl, hw⟩ | ⟨rfl, hw⟩ | ⟨rfl, hw⟩ | ⟨hn, e0, e1, e2, e3, e4, e5, e6, hw⟩⟩
  all_goals rw [hw]; clear hw
  · have hz : ((size != 4) : Bool) = true := bne_iff_ne.2 hs
    clear hs h
    go_enter Try.func11, Try.ntmps11
    go_wp2_with (fail)
    go_ret2
    exact ⟨rfl, H.out, Mod.refl _ _⟩
  · obtain ⟨s, rfl⟩ : ∃ s : Nat, off = ((4 * s : Nat) : Int) := ⟨off.toNat / 4, by omega⟩
    have s32 : s < 32 := by omega
    have cn := h.2.cell (i := s * 5) (by omega)
    rw [rpc_pri _ _ s32] at cn
    have hz : ((((4 * s : Nat) : Int) % 4 == 0) : Bool) = true := by simp only [beq_iff_eq]; exact h2
    have hq : ((4 * s : Nat) : Int) / 4 = (s : Int) := by omega
    have hp := h.1.pri s
    have e : (((4 * s : Nat) : Int).toNat / 4) = s := by omega
    rw [e]
    have s1 : (s : Int) < 32 := by omega
    generalize ((4 * s : Nat) : Int) = off at *
    clear h h2 e
    go_enter Try.func11, Try.ntmps11
    go_wp2_with (fail)
    go_ret2
    exact ⟨rfl, H.out, Mod.refl _ _⟩
  · have hB := rbits_pend x S w h.2
    have HB := Lib.hid hB
    clear h hB
    go_enter Try.func11, Try.ntmps11
    go_wp2_with ((go_at_call 24; refine HB.out.mono ?_; rintro e w' ⟨rfl, rfl⟩))
    go_ret2
    exact ⟨rfl, H.out, Mod.refl _ _⟩
  · have hB := rbits_en x S 0 (by omega) w h.2
    have HB := Lib.hid hB
    clear h hB
    go_enter Try.func11, Try.ntmps11
    go_wp2_with ((go_at_call 24; refine HB.out.mono ?_; rintro e w' ⟨rfl, rfl⟩))
    go_ret2
    exact ⟨rfl, H.out, Mod.refl _ _⟩
  · have hB := rbits_en x S 1 (by omega) w h.2
    have HB := Lib.hid hB
    clear h hB
    go_enter Try.func11, Try.ntmps11
    go_wp2_with ((go_at_call 24; refine HB.out.mono ?_; rintro e w' ⟨rfl, rfl⟩))
    go_ret2
    exact ⟨rfl, H.out, Mod.refl _ _⟩
  · have cn := h.2.cell (i := 160 + 0) (by omega)
    rw [rpc_thr] at cn
    have hp := h.1.thr 0
    clear h
    go_enter Try.func11, Try.ntmps11
    go_wp2_with (fail)
    go_ret2
    exact ⟨rfl, H.out, Mod.refl _ _⟩
  · have cn := h.2.cell (i := 160 + 1) (by omega)
    rw [rpc_thr] at cn
    have hp := h.1.thr 1
    clear h
    go_enter Try.func11, Try.ntmps11
    go_wp2_with (fail)
    go_ret2
    exact ⟨rfl, H.out, Mod.refl _ _⟩
  · have hC := rclaim_at x S 0 w (by omega) h
    have HC := Lib.hid hC
    clear h hC
    change Calls Try.prog _ _ w (Ends (.tuple #[.int .u64 (((S.claim 0).1 : Nat) : Int), .bool true]) fun w' => RPlicAt w' x (S.claim 0).2 ∧ Mod (fun g => g = x) w w')
    go_enter Try.func11, Try.ntmps11
    go_wp2_with ((go_at_call 25; refine HC.out.mono ?_; rintro e w' ⟨rfl, hp', hm'⟩))
    go_ret2
    exact ⟨rfl, hp', hm'⟩
  · have hC := rclaim_at x S 1 w (by omega) h
    have HC := Lib.hid hC
    clear h hC
    change Calls Try.prog _ _ w (Ends (.tuple #[.int .u64 (((S.claim 1).1 : Nat) : Int), .bool true]) fun w' => RPlicAt w' x (S.claim 1).2 ∧ Mod (fun g => g = x) w w')
    go_enter Try.func11, Try.ntmps11
    go_wp2_with ((go_at_call 25; refine HC.out.mono ?_; rintro e w' ⟨rfl, hp', hm'⟩))
    go_ret2
    exact ⟨rfl, hp', hm'⟩
  · have f0 : ((off == 4096) : Bool) = false := beq_eq_false_iff_ne.2 e0
    have f1 : ((off == 8192) : Bool) = false := beq_eq_false_iff_ne.2 e1
    have f2 : ((off == 8320) : Bool) = false := beq_eq_false_iff_ne.2 e2
    have f3 : ((off == 2097152) : Bool) = false := beq_eq_false_iff_ne.2 e3
    have f4 : ((off == 2101248) : Bool) = false := beq_eq_false_iff_ne.2 e4
    have f5 : ((off == 2097156) : Bool) = false := beq_eq_false_iff_ne.2 e5
    have f6 : ((off == 2101252) : Bool) = false := beq_eq_false_iff_ne.2 e6
    clear e0 e1 e2 e3 e4 e5 e6 h
    by_cases h0 : 0 ≤ off
    · by_cases h1 : off < 128
      · have hz : ((off % 4 == 0) : Bool) = false := beq_eq_false_iff_ne.2 fun y => hn ⟨h0, h1, y⟩
        clear hn
        go_enter Try.func11, Try.ntmps11
        go_wp2_with (fail)
        go_ret2
        exact ⟨rfl, H.out, Mod.refl _ _⟩
      · clear hn
        go_enter Try.func11, Try.ntmps11
        go_wp2_with (fail)
        go_ret2
        exact ⟨rfl, H.out, Mod.refl _ _⟩
    · clear hn
      go_enter Try.func11, Try.ntmps11
      go_wp2_with (fail)
      go_ret2
      exact ⟨rfl, H.out, Mod.refl _ _⟩

set_option maxHeartbeats 4000000 in
theorem rstore_at (x : Nat) (S : Pli) (off size : Int) (v : Nat) (w : World) (hv : v < 18446744073709551616) (h : RPlicAt w x S) :
    Calls Try.prog 13 #[.pointer (some ⟨x, 0, none⟩), .int .i64 off, .int .i64 size, .int .u64 (v : Int)] w (Ends (.bool (S.store off size v).1) fun w' => RPlicAt w' x (S.store off size v).2 ∧ Mod (fun g => g = x) w w') := by
  have H := Lib.hid h
  have hokS := h.1.store off size v
  unfold Pli.store at hokS ⊢
  rcases which_cases off size with ⟨hs, hw⟩ | ⟨rfl, ⟨h0, h1, h2, hw⟩ | ⟨rfl, hw⟩ | ⟨rfl, hw⟩ | ⟨rfl, hw⟩ | ⟨rfl, hw⟩ | ⟨rfl, hw⟩ | ⟨rfl, hw⟩ | ⟨rfl, hw⟩ | ⟨hn, e0, e1, e2, e3, e4, e5, e6, hw⟩⟩
  all_goals rw [hw] at hokS ⊢; clear hw
  · have hz : ((size != 4) : Bool) = true := bne_iff_ne.2 hs
    clear hs h hokS
    go_enter Try.func13, Try.ntmps13
    go_wp2_with (fail)
    go_ret
    exact ⟨rfl, H.out, Mod.refl _ _⟩
  · obtain ⟨s, rfl⟩ : ∃ s : Nat, off = ((4 * s : Nat) : Int) := ⟨off.toNat / 4, by omega⟩
    have s32 : s < 32 := by omega
    have e : (((4 * s : Nat) : Int).toNat / 4) = s := by omega
    rw [e] at hokS ⊢
    change Pli.Ok (S.setPri s v) at hokS
    change Calls Try.prog _ _ w (Ends (.bool true) fun w' => RPlicAt w' x (S.setPri s v) ∧ Mod (fun g => g = x) w w')
    have HO := Lib.hid hokS
    have cn := h.2.cell (i := s * 5) (by omega)
    have fn := h.2.frozen (s * 5)
    have hz : ((((4 * s : Nat) : Int) % 4 == 0) : Bool) = true := by simp only [beq_iff_eq]; exact h2
    have hq : ((4 * s : Nat) : Int) / 4 = (s : Int) := by omega
    have s1 : (s : Int) < 32 := by omega
    have hv8 : v % 8 < 8 := Nat.mod_lt _ (by decide)
    have hm8 : (v : Int) % 8 = ((v % 8 : Nat) : Int) := by omega
    have hm8' : (v : Int).tmod 8 = ((v % 8 : Nat) : Int) := by rw [Int.tmod_eq_emod_of_nonneg (Int.natCast_nonneg _)]; exact hm8
    by_cases hs0 : 0 < s
    · have hso : (0 : Int) < ((4 * s : Nat) : Int) := by omega
      have hset : S.setPri s v = { S with pri := fun k => if k = s then v % 8 else S.pri k } := if_pos hs0
      rw [hset] at HO ⊢
      generalize ((4 * s : Nat) : Int) = off at *
      generalize v % 8 = y at *
      clear h h2 e hokS hset
      go_enter Try.func13, Try.ntmps13
      go_wp2_with (fail)
      go_ret
      exact ⟨rfl, ⟨HO.out, (H.out.2.set (s * 5) _).congr fun i hi => rpc_setPri S s y s32 i hi⟩, mod_set _ _ _ _⟩
    · have hso : ¬ (0 : Int) < ((4 * s : Nat) : Int) := by omega
      have hset : S.setPri s v = S := if_neg hs0
      rw [hset]
      generalize ((4 * s : Nat) : Int) = off at *
      clear h h2 e hokS hset HO hm8 hm8' 
      go_enter Try.func13, Try.ntmps13
      go_wp2_with (fail)
      go_ret
      exact ⟨rfl, H.out, Mod.refl _ _⟩
  · clear h hokS
    go_enter Try.func13, Try.ntmps13
    go_wp2_with (fail)
    go_ret
    exact ⟨rfl, H.out, Mod.refl _ _⟩
  · have hC := renable_at x S 0 v w (by omega) hv h
    have HC := Lib.hid hC
    clear h hC hokS
    change Calls Try.prog _ _ w (Ends (.bool true) fun w' => RPlicAt w' x (S.setEn 0 v) ∧ Mod (fun g => g = x) w w')
    go_enter Try.func13, Try.ntmps13
    go_wp2_with ((go_at_call 27; refine HC.out.mono ?_; rintro e w' ⟨rfl, hp', hm'⟩))
    go_ret
    exact ⟨rfl, hp', hm'⟩
  · have hC := renable_at x S 1 v w (by omega) hv h
    have HC := Lib.hid hC
    clear h hC hokS
    change Calls Try.prog _ _ w (Ends (.bool true) fun w' => RPlicAt w' x (S.setEn 1 v) ∧ Mod (fun g => g = x) w w')
    go_enter Try.func13, Try.ntmps13
    go_wp2_with ((go_at_call 27; refine HC.out.mono ?_; rintro e w' ⟨rfl, hp', hm'⟩))
    go_ret
    exact ⟨rfl, hp', hm'⟩
  · change Pli.Ok (S.setThr 0 v) at hokS
    change Calls Try.prog _ _ w (Ends (.bool true) fun w' => RPlicAt w' x (S.setThr 0 v) ∧ Mod (fun g => g = x) w w')
    have HO := Lib.hid hokS
    have cn := h.2.cell (i := 160 + 0) (by omega)
    have fn := h.2.frozen (160 + 0)
    have hv8 : v % 8 < 8 := Nat.mod_lt _ (by decide)
    have hm8 : (v : Int) % 8 = ((v % 8 : Nat) : Int) := by omega
    have hm8' : (v : Int).tmod 8 = ((v % 8 : Nat) : Int) := by rw [Int.tmod_eq_emod_of_nonneg (Int.natCast_nonneg _)]; exact hm8
    have hset : S.setThr 0 v = { S with thr := fun k => if k = 0 then v % 8 else S.thr k } := rfl
    rw [hset] at HO ⊢
    generalize v % 8 = y at *
    clear h hokS hset
    go_enter Try.func13, Try.ntmps13
    go_wp2_with (fail)
    go_ret
    exact ⟨rfl, ⟨HO.out, (H.out.2.set (160 + 0) _).congr fun i hi => rpc_setThr S 0 y i hi⟩, mod_set _ _ _ _⟩
  · change Pli.Ok (S.setThr 1 v) at hokS
    change Calls Try.prog _ _ w (Ends (.bool true) fun w' => RPlicAt w' x (S.setThr 1 v) ∧ Mod (fun g => g = x) w w')
    have HO := Lib.hid hokS
    have cn := h.2.cell (i := 160 + 1) (by omega)
    have fn := h.2.frozen (160 + 1)
    have hv8 : v % 8 < 8 := Nat.mod_lt _ (by decide)
    have hm8 : (v : Int) % 8 = ((v % 8 : Nat) : Int) := by omega
    have hm8' : (v : Int).tmod 8 = ((v % 8 : Nat) : Int) := by rw [Int.tmod_eq_emod_of_nonneg (Int.natCast_nonneg _)]; exact hm8
    have hset : S.setThr 1 v = { S with thr := fun k => if k = 1 then v % 8 else S.thr k } := rfl
    rw [hset] at HO ⊢
    generalize v % 8 = y at *
    clear h hokS hset
    go_enter Try.func13, Try.ntmps13
    go_wp2_with (fail)
    go_ret
    exact ⟨rfl, ⟨HO.out, (H.out.2.set (160 + 1) _).congr fun i hi => rpc_setThr S 1 y i hi⟩, mod_set _ _ _ _⟩
  · have hC := rcomplete_at x S 0 v w (by omega) hv h
    have HC := Lib.hid hC
    clear h hC hokS
    change Calls Try.prog _ _ w (Ends (.bool true) fun w' => RPlicAt w' x (S.complete 0 v) ∧ Mod (fun g => g = x) w w')
    go_enter Try.func13, Try.ntmps13
    go_wp2_with ((go_at_call 28; refine HC.out.mono ?_; rintro e w' ⟨rfl, hp', hm'⟩))
    go_ret
    exact ⟨rfl, hp', hm'⟩
  · have hC := rcomplete_at x S 1 v w (by omega) hv h
    have HC := Lib.hid hC
    clear h hC hokS
    change Calls Try.prog _ _ w (Ends (.bool true) fun w' => RPlicAt w' x (S.complete 1 v) ∧ Mod (fun g => g = x) w w')
    go_enter Try.func13, Try.ntmps13
    go_wp2_with ((go_at_call 28; refine HC.out.mono ?_; rintro e w' ⟨rfl, hp', hm'⟩))
    go_ret
    exact ⟨rfl, hp', hm'⟩
  · have f0 : ((off == 4096) : Bool) = false := beq_eq_false_iff_ne.2 e0
    have f1 : ((off == 8192) : Bool) = false := beq_eq_false_iff_ne.2 e1
    have f2 : ((off == 8320) : Bool) = false := beq_eq_false_iff_ne.2 e2
    have f3 : ((off == 2097152) : Bool) = false := beq_eq_false_iff_ne.2 e3
    have f4 : ((off == 2101248) : Bool) = false := beq_eq_false_iff_ne.2 e4
    have f5 : ((off == 2097156) : Bool) = false := beq_eq_false_iff_ne.2 e5
    have f6 : ((off == 2101252) : Bool) = false := beq_eq_false_iff_ne.2 e6
    clear e0 e1 e2 e3 e4 e5 e6 h hokS
    by_cases h0 : 0 ≤ off
    · by_cases h1 : off < 128
      · have hz : ((off % 4 == 0) : Bool) = false := beq_eq_false_iff_ne.2 fun y => hn ⟨h0, h1, y⟩
        clear hn
        go_enter Try.func13, Try.ntmps13
        go_wp2_with (fail)
        go_ret
        exact ⟨rfl, H.out, Mod.refl _ _⟩
      · clear hn
        go_enter Try.func13, Try.ntmps13
        go_wp2_with (fail)
        go_ret
        exact ⟨rfl, H.out, Mod.refl _ _⟩
    · clear hn
      go_enter Try.func13, Try.ntmps13
      go_wp2_with (fail)
      go_ret
      exact ⟨rfl, H.out, Mod.refl _ _⟩

end Go.Proofs.Ytjkbemonedohjaa
