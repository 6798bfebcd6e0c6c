/- SerialRuns returns true at a slice of one to 400 calls. Condition: the calls lie in memory. -/
import Derived.Test.YtoeppbngogjbaaaSerK
namespace Go.Proofs.Ytoeppbngogjbaaa
open Go.RowKit
attribute [local go_sem ↓] Go.wp_at_zero Go.wp_at_succ

set_option maxHeartbeats 8000000 in
set_option maxRecDepth 100000 in
theorem runs_some (W : World) (b off n cap : Nat) (L : Nat → OpV) (hb : b < W.heap.size) (hn : n ≤ 400) (hl : OpsAt W b off n L) :
    Calls Try.prog 3 #[.slice (some ⟨b, off, none⟩) n cap] W (Holds W) := by
  have hnew := new_any W (fun k => k = W.heap.size) rfl W.heap.size (Nat.le_refl _)
  have HN := Lib.hid hnew
  have HL := Lib.hid hl
  clear hnew hl
  go_enter Try.func3, Try.ntmps3
  go_wp2_with fail
  refine HN.out.mono ?_
  rintro e w1 ⟨rfl, hu1, hm1, hs1⟩
  have h2 := rnew_any w1 (fun k => k = W.heap.size + 1) hs1 W.heap.size (by omega)
  rw [hs1] at h2
  have H2 := Lib.hid h2
  have Hs1 := Lib.hid hs1
  clear h2 hs1
  go_wp2_with fail
  refine H2.out.mono ?_
  rintro e w2 ⟨rfl, hr2, hm2, hs2⟩
  have h3 := newPower_any w2 (fun k => k = W.heap.size + 2) (by rw [hs2]) W.heap.size (by omega)
  rw [hs2] at h3
  have H3 := Lib.hid h3
  have Hs2 := Lib.hid hs2
  clear h3 hs2
  go_wp2_with fail
  refine H3.out.mono ?_
  rintro e w3 ⟨rfl, hp3, hm3, hs3⟩
  have h4 := rnewPower_any w3 (fun k => k = W.heap.size + 3) (by rw [hs3]) W.heap.size (by omega)
  rw [hs3] at h4
  have H4 := Lib.hid h4
  have Hs3 := Lib.hid hs3
  clear h4 hs3
  go_wp2_with fail
  refine H4.out.mono ?_
  rintro e w4 ⟨rfl, hq4, hm4, hs4⟩
  have Hs4 := Lib.hid hs4
  clear hs4
  have hF : Four0 W w4 ⟨[], false, none⟩ ⟨[], false, none⟩ false false := by
    have z1 := Hs1.out
    have z2 := Hs2.out
    have z3 := Hs3.out
    have z4 := Hs4.out
    refine ⟨col0 W.heap.size, by omega, ⟨((((Below.refl W.heap.size W).trans (hm1.toBelow (Nat.le_refl _) fun _ h => h.elim)).trans (hm2.toBelow (by omega) fun _ h => h.elim)).trans (hm3.toBelow (by omega) fun _ h => h.elim)).trans (hm4.toBelow (by omega) fun _ h => h.elim), fun k hk => if_pos hk⟩,
      uartIn_keep (uartIn_keep (uartIn_keep hu1 hm2 (fun _ _ _ h => h) fun _ _ h => h) hm3 (fun _ _ _ h => h) fun _ _ h => h) hm4 (fun _ _ _ h => h) ?_,
      ruartIn_keep (ruartIn_keep hr2 hm3 (fun _ _ _ h => h) fun _ _ h => h) hm4 (fun _ _ _ h => h) ?_, powIn_keep hp3 hm4 (fun _ _ _ h => h) ?_, rpowIn_keep hq4 (Mod.refl Nil _) (fun _ _ _ h => h) ?_⟩
    all_goals
      intro g hg h
      have h : g = _ := h
      show col0 W.heap.size g = _
      rw [col0_ge (by omega)]
      omega
  clear hu1 hr2 hp3 hq4 hm1 hm2 hm3 hm4
  go_wp2_with fail
  have HF := Lib.hid hF
  clear hF
  go_loopw [7] (fun i wr => ∃ (k : Nat) (s : Ser) (o : Bool), k ≤ n ∧ i = .int .i64 (k : Int) ∧ Four0 W wr s s o o) (fun i _ => n - (intOf i).toNat)
  case atStart => exact ⟨0, _, _, Nat.zero_le _, rfl, HF.out⟩
  case round =>
    obtain ⟨k, s, o, hk, rfl, hF⟩ := hrel
    by_cases hkn : k < n
    · obtain ⟨hv0, hv1, c0, c1, c2, c3⟩ := HL.out k hkn
      have hbel := hF.below
      have f0 := (hbel.cell (p := ⟨b, off + k * 4, none⟩) hb).trans c0
      have f1 := (hbel.cell (p := ⟨b, off + k * 4 + 1, none⟩) hb).trans c1
      have f2 := (hbel.cell (p := ⟨b, off + k * 4 + 2, none⟩) hb).trans c2
      have f3 := (hbel.cell (p := ⟨b, off + k * 4 + 3, none⟩) hb).trans c3
      generalize (L k).K = K at *
      generalize (L k).O = O at *
      generalize (L k).S = S at *
      generalize (L k).V = V at *
      have hF1 := hF.alloc (.cells #[.int .i64 K, .int .i64 O, .int .i64 S, .int .u64 V] 34)
      clear c0 c1 c2 c3 hbel
      go_wp2_with fail
      all_goals generalize hB : wr.heap.size = B at *
      all_goals have hc0 : (wr.alloc (.cells #[.int .i64 K, .int .i64 O, .int .i64 S, .int .u64 V] 34)).cell? ⟨B, 0, none⟩ = some (.int .i64 K) := by rw [← hB]; simp
      all_goals have hc1 : (wr.alloc (.cells #[.int .i64 K, .int .i64 O, .int .i64 S, .int .u64 V] 34)).cell? ⟨B, 1, none⟩ = some (.int .i64 O) := by rw [← hB]; simp
      all_goals have hc2 : (wr.alloc (.cells #[.int .i64 K, .int .i64 O, .int .i64 S, .int .u64 V] 34)).cell? ⟨B, 2, none⟩ = some (.int .i64 S) := by rw [← hB]; simp
      all_goals have hc3 : (wr.alloc (.cells #[.int .i64 K, .int .i64 O, .int .i64 S, .int .u64 V] 34)).cell? ⟨B, 3, none⟩ = some (.int .u64 V) := by rw [← hB]; simp
      all_goals generalize wr.alloc (.cells #[.int .i64 K, .int .i64 O, .int .i64 S, .int .u64 V] 34) = v1 at *
      all_goals clear hB
      · skip
        go_region_held3 (fun w' => w'.cell? ⟨B, 3, none⟩ = some (.int .u64 V)) (first | exact (hk2.cell 3).trans ((hk1.cell 3).trans hc3) | exact (hk1.cell 3).trans hc3 | go_keep) (first | (go_at_call 10; refine (c_input _ (by rw [IntKind.wrap_u8']; omega) (by rw [IntKind.wrap_u8']; omega) hF1.drew).mono ?_; rintro e w1 ⟨rfl, hF2, hk1⟩) | (go_at_call 11; refine (c_rinput _ (by rw [IntKind.wrap_u8']; omega) (by rw [IntKind.wrap_u8']; omega) hF2).mono ?_; rintro e w2 ⟨rfl, hE, hk2⟩))
        go_wp2_with (first | (go_at_call 22; refine (c_waits hE).mono ?_; rintro e w' ⟨rfl, rfl⟩) | (go_at_call 23; refine (c_rwaits hE).mono ?_; rintro e w' ⟨rfl, rfl⟩) | (go_at_call 24; refine (c_off hE).mono ?_; rintro e w' ⟨rfl, rfl⟩) | (go_at_call 25; refine (c_roff hE).mono ?_; rintro e w' ⟨rfl, rfl⟩))
        go_roundw
        case rel => exact ⟨k + 1, _, _, by omega, by go_num, hE.zero⟩
        case measure => simp [intOf]; omega
      · refine (c_output hF1).mono ?_
        rintro e w1 ⟨rfl, hF2, hk1⟩
        go_wp2_with fail
        refine (c_routput hF2).mono ?_
        rintro e w2 ⟨rfl, hE, hk2⟩
        go_wp2_with (first | (go_at_call 22; refine (c_waits hE).mono ?_; rintro e w' ⟨rfl, rfl⟩) | (go_at_call 23; refine (c_rwaits hE).mono ?_; rintro e w' ⟨rfl, rfl⟩) | (go_at_call 24; refine (c_off hE).mono ?_; rintro e w' ⟨rfl, rfl⟩) | (go_at_call 25; refine (c_roff hE).mono ?_; rintro e w' ⟨rfl, rfl⟩))
        go_roundw
        case rel => exact ⟨k + 1, _, _, by omega, by go_num, hE.zero⟩
        case measure => simp [intOf]; omega
      · refine (c_load _ _ hF1).mono ?_
        rintro e w1 ⟨rfl, hF2, hk1⟩
        have hd1 := (hk1.cell 1).trans hc1
        have hd2 := (hk1.cell 2).trans hc2
        go_wp2_with fail
        refine (c_rload _ _ hF2).mono ?_
        rintro e w2 ⟨rfl, hE, hk2⟩
        go_wp2_with (first | (go_at_call 22; refine (c_waits hE).mono ?_; rintro e w' ⟨rfl, rfl⟩) | (go_at_call 23; refine (c_rwaits hE).mono ?_; rintro e w' ⟨rfl, rfl⟩) | (go_at_call 24; refine (c_off hE).mono ?_; rintro e w' ⟨rfl, rfl⟩) | (go_at_call 25; refine (c_roff hE).mono ?_; rintro e w' ⟨rfl, rfl⟩))
        go_roundw
        case rel => exact ⟨k + 1, _, _, by omega, by go_num, hE.zero⟩
        case measure => simp [intOf]; omega
      · skip
        go_region_held3 (fun w' => w'.cell? ⟨B, 1, none⟩ = some (.int .i64 O) ∧ w'.cell? ⟨B, 2, none⟩ = some (.int .i64 S) ∧ w'.cell? ⟨B, 3, none⟩ = some (.int .u64 V)) (first | exact ⟨(hk2.cell 1).trans ((hk1.cell 1).trans hc1), (hk2.cell 2).trans ((hk1.cell 2).trans hc2), (hk2.cell 3).trans ((hk1.cell 3).trans hc3)⟩ | exact ⟨(hk1.cell 1).trans hc1, (hk1.cell 2).trans hc2, (hk1.cell 3).trans hc3⟩ | go_keep) (first | (go_at_call 16; refine (c_store _ _ _ hv0 hv1 hF1.drew).mono ?_; rintro e w1 ⟨rfl, hF2, hk1⟩) | (go_at_call 17; refine (c_rstore _ _ _ hv0 hv1 hF2).mono ?_; rintro e w2 ⟨rfl, hE, hk2⟩))
        go_wp2_with (first | (go_at_call 22; refine (c_waits hE).mono ?_; rintro e w' ⟨rfl, rfl⟩) | (go_at_call 23; refine (c_rwaits hE).mono ?_; rintro e w' ⟨rfl, rfl⟩) | (go_at_call 24; refine (c_off hE).mono ?_; rintro e w' ⟨rfl, rfl⟩) | (go_at_call 25; refine (c_roff hE).mono ?_; rintro e w' ⟨rfl, rfl⟩))
        go_roundw
        case rel => exact ⟨k + 1, _, _, by omega, by go_num, hE.zero⟩
        case measure => simp [intOf]; omega
      · go_wp2_with (first | (go_at_call 18; refine (pload_any _ _ _ _).mono ?_; rintro e w' ⟨rfl, rfl⟩) | (go_at_call 19; refine (rpload_any _ _ _ _).mono ?_; rintro e w' ⟨rfl, rfl⟩) | (go_at_call 22; fail))
        have hE := hF1
        go_wp2_with (first | (go_at_call 22; refine (c_waits hE).mono ?_; rintro e w' ⟨rfl, rfl⟩) | (go_at_call 23; refine (c_rwaits hE).mono ?_; rintro e w' ⟨rfl, rfl⟩) | (go_at_call 24; refine (c_off hE).mono ?_; rintro e w' ⟨rfl, rfl⟩) | (go_at_call 25; refine (c_roff hE).mono ?_; rintro e w' ⟨rfl, rfl⟩))
        go_roundw
        case rel => exact ⟨k + 1, _, _, by omega, by go_num, hE.zero⟩
        case measure => simp [intOf]; omega
      · skip
        go_region_held3 (fun w' => w'.cell? ⟨B, 1, none⟩ = some (.int .i64 O) ∧ w'.cell? ⟨B, 2, none⟩ = some (.int .i64 S) ∧ w'.cell? ⟨B, 3, none⟩ = some (.int .u64 V)) (first | exact ⟨(hk2.cell 1).trans ((hk1.cell 1).trans hc1), (hk2.cell 2).trans ((hk1.cell 2).trans hc2), (hk2.cell 3).trans ((hk1.cell 3).trans hc3)⟩ | exact ⟨(hk1.cell 1).trans hc1, (hk1.cell 2).trans hc2, (hk1.cell 3).trans hc3⟩ | go_keep) (first | (go_at_call 20; refine (c_pstore _ _ _ hv0 hv1 hF1.drew).mono ?_; rintro e w1 ⟨rfl, hF2, hk1⟩) | (go_at_call 21; refine (c_rpstore _ _ _ hv0 hv1 hF2).mono ?_; rintro e w2 ⟨rfl, hE, hk2⟩))
        go_wp2_with (first | (go_at_call 22; refine (c_waits hE).mono ?_; rintro e w' ⟨rfl, rfl⟩) | (go_at_call 23; refine (c_rwaits hE).mono ?_; rintro e w' ⟨rfl, rfl⟩) | (go_at_call 24; refine (c_off hE).mono ?_; rintro e w' ⟨rfl, rfl⟩) | (go_at_call 25; refine (c_roff hE).mono ?_; rintro e w' ⟨rfl, rfl⟩))
        go_roundw
        case rel => exact ⟨k + 1, _, _, by omega, by go_num, hE.zero⟩
        case measure => simp [intOf]; omega
      · have hE := hF1
        go_wp2_with (first | (go_at_call 22; refine (c_waits hE).mono ?_; rintro e w' ⟨rfl, rfl⟩) | (go_at_call 23; refine (c_rwaits hE).mono ?_; rintro e w' ⟨rfl, rfl⟩) | (go_at_call 24; refine (c_off hE).mono ?_; rintro e w' ⟨rfl, rfl⟩) | (go_at_call 25; refine (c_roff hE).mono ?_; rintro e w' ⟨rfl, rfl⟩))
        go_roundw
        case rel => exact ⟨k + 1, _, _, by omega, by go_num, hE.zero⟩
        case measure => simp [intOf]; omega
    · obtain rfl : k = n := by omega
      have hbel := hF.below
      go_wp2_with fail
      refine (works_any wr).mono ?_
      rintro e w' ⟨rfl, hbw⟩
      go_wp2_with fail
      go_ret
      exact ⟨rfl, hbel.trans (hbw.mono hbel.size)⟩

end Go.Proofs.Ytoeppbngogjbaaa
