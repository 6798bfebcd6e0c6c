/- The reference's interrupt controller: Pending; both when new. Condition of Pending: such a controller lies there. -/
import Derived.Test.YtjkbemonedohjaaPlicT
namespace Go.Proofs.Ytjkbemonedohjaa
open Go.RowKit
attribute [local go_sem ↓] Go.wp_at_zero Go.wp_at_succ

/-- None of the sources up to q is above the threshold. -/
def NoneTo (S : Pli) (n q : Nat) : Prop := ∀ s, 1 ≤ s → s ≤ q → ¬ ((S.pend s && S.en n s) = true ∧ S.thr n < S.pri s)

set_option maxHeartbeats 8000000 in
theorem rpending_at (x : Nat) (S : Pli) (c : Int) (w : World) (h : RPlicAt w x S) :
    Calls Try.prog 15 #[.pointer (some ⟨x, 0, none⟩), .int .i64 c] w (Ends (.bool (S.pending c)) fun w' => Mod Nil w w') := by
  by_cases hc : c = 0 ∨ c = 1
  · rcases hc with rfl | rfl
    · have he : S.pending 0 = decide (0 < best (S.may 0) S.pri (S.thr 0)) := rfl
      rw [he]
      have H := Lib.hid h
      clear h he
      go_enter Try.func15, Try.ntmps15
      go_wp2
      go_loopw [5] (fun i wr => ∃ q : Nat, q ≤ 31 ∧ i = .int .i64 ((q : Int) + 1) ∧ NoneTo S 0 q ∧ Mod Nil w wr) (fun i _ => 32 - (intOf i).toNat)
      case atStart => exact ⟨0, by omega, rfl, fun s h1 h2 => by omega, Mod.refl _ _⟩
      case round =>
        obtain ⟨q, hq, rfl, hno, hm⟩ := hrel
        by_cases hqk : q < 31
        · obtain ⟨s, hs⟩ : ∃ s, q + 1 = s := ⟨_, rfl⟩
          have e : (q : Int) + 1 = (s : Int) := by omega
          rw [e]
          have hr := hm.row H.out.2 (fun x => x)
          have c0 := hr.cell (i := s * 5) (by omega)
          have c1 := hr.cell (i := s * 5 + 1) (by omega)
          have c2 := hr.cell (i := s * 5 + 2) (by omega)
          have c3 := hr.cell (i := s * 5 + 3) (by omega)
          have c4 := hr.cell (i := s * 5 + 4) (by omega)
          rw [rpc_pri _ _ (by omega)] at c0
          rw [rpc_pend _ _ (by omega)] at c1
          rw [rpc_serv _ _ (by omega)] at c2
          rw [rpc_en0 _ _ (by omega)] at c3
          rw [rpc_en1 _ _ (by omega)] at c4
          have s1 : (s : Int) < 32 := by omega
          have s2 : (1 : Int) ≤ (s : Int) := by omega
          have hsrc := src_born wr ((S.pri s : Nat) : Int) (S.pend s) (S.serv s) (S.en 0 s) (S.en 1 s) 55
          have hen := src_en wr ((S.pri s : Nat) : Int) (S.pend s) (S.serv s) (fun d => S.en d s) 0 (by omega) 55
          have ct := (hr.alloc (.cells #[.int .i64 ((S.pri s : Nat) : Int), .bool (S.pend s), .bool (S.serv s), .bool (S.en 0 s), .bool (S.en 1 s)] 55)).cell (i := 160 + 0) (by omega)
          rw [rpc_thr] at ct
          obtain ⟨g0, g1⟩ := hsrc
          have hyes : (S.pend s && S.en 0 s) = true → S.thr 0 < S.pri s → decide (0 < best (S.may 0) S.pri (S.thr 0)) = true := by
            intro h1 h2
            rw [decide_eq_true_eq]
            refine Nat.pos_of_ne_zero fun h3 => ?_
            have := best_zero (S.may 0) S.pri (S.thr 0) h3 s (by omega) (by omega) h1
            omega
          have hnot : ¬ ((S.pend s && S.en 0 s) = true ∧ S.thr 0 < S.pri s) → NoneTo S 0 s := by
            intro h1 k k1 k2
            by_cases ek : k = s
            · subst ek; exact h1
            · exact hno k k1 (by omega)
          have HY := Lib.hid hyes
          have HN := Lib.hid hnot
          have E := Lib.hid e
          have HS := Lib.hid hs
          have HM := Lib.hid hm
          clear hyes hnot e hs hm hr hno
          generalize hP : S.pend s = P at *
          generalize S.pri s = z at *
          obtain ⟨y, hy⟩ : ∃ y, S.thr 0 = y := ⟨_, rfl⟩
          rw [hy] at ct HY HN
          have HYE := Lib.hid hy
          clear hy
          generalize hE : S.en 0 s = E1 at *
          clear hP hE
          rcases P with _ | _
          · have hN := HN.out (by simp)
            clear HY HN
            go_wp2_with (fail)
            go_quiet (fail)
            go_wp2
            go_roundw
            case rel => exact ⟨q + 1, by omega, by have := E.out; go_num, by rw [HS.out]; exact hN, (HM.out.alloc _).drewN _⟩
            case measure => have := E.out; simp [intOf]; omega
          · rcases E1 with _ | _
            · have hN := HN.out (by simp)
              clear HY HN
              go_wp2_with (fail)
              go_quiet (fail)
              go_wp2
              go_roundw
              case rel => exact ⟨q + 1, by omega, by have := E.out; go_num, by rw [HS.out]; exact hN, (HM.out.alloc _).drewN _⟩
              case measure => have := E.out; simp [intOf]; omega
            · by_cases hz : y < z
              · have hY := HY.out rfl hz
                have HYY := Lib.hid hY
                clear HY HN hY
                go_wp2_with (fail)
                go_quiet (fail)
                go_wp2
                go_ret
                exact ⟨retb_of (by rw [HYE.out]; exact HYY.out.symm), (HM.out.alloc _).drewN _⟩
              · have hN := HN.out (by simp [hz])
                clear HY HN
                go_wp2_with (fail)
                go_quiet (fail)
                go_wp2
                go_roundw
                case rel => exact ⟨q + 1, by omega, by have := E.out; go_num, by rw [HS.out]; exact hN, (HM.out.alloc _).drewN _⟩
                case measure => have := E.out; simp [intOf]; omega
        · obtain rfl : q = 31 := by omega
          have HM := Lib.hid hm
          have hf : decide (0 < best (S.may 0) S.pri (S.thr 0)) = false := by
            rw [decide_eq_false_iff_not]
            intro h1
            obtain ⟨b1, b2, _, _⟩ := best_pos (S.may 0) S.pri (S.thr 0) h1
            exact hno _ h1 (best_lt _ _ _) ⟨b1, b2⟩
          have HF := Lib.hid hf
          clear hm hno hf
          go_wp2
          go_ret
          exact ⟨retb_of HF.out.symm, HM.out⟩
    · have he : S.pending 1 = decide (0 < best (S.may 1) S.pri (S.thr 1)) := rfl
      rw [he]
      have H := Lib.hid h
      clear h he
      go_enter Try.func15, Try.ntmps15
      go_wp2
      go_loopw [5] (fun i wr => ∃ q : Nat, q ≤ 31 ∧ i = .int .i64 ((q : Int) + 1) ∧ NoneTo S 1 q ∧ Mod Nil w wr) (fun i _ => 32 - (intOf i).toNat)
      case atStart => exact ⟨0, by omega, rfl, fun s h1 h2 => by omega, Mod.refl _ _⟩
      case round =>
        obtain ⟨q, hq, rfl, hno, hm⟩ := hrel
        by_cases hqk : q < 31
        · obtain ⟨s, hs⟩ : ∃ s, q + 1 = s := ⟨_, rfl⟩
          have e : (q : Int) + 1 = (s : Int) := by omega
          rw [e]
          have hr := hm.row H.out.2 (fun x => x)
          have c0 := hr.cell (i := s * 5) (by omega)
          have c1 := hr.cell (i := s * 5 + 1) (by omega)
          have c2 := hr.cell (i := s * 5 + 2) (by omega)
          have c3 := hr.cell (i := s * 5 + 3) (by omega)
          have c4 := hr.cell (i := s * 5 + 4) (by omega)
          rw [rpc_pri _ _ (by omega)] at c0
          rw [rpc_pend _ _ (by omega)] at c1
          rw [rpc_serv _ _ (by omega)] at c2
          rw [rpc_en0 _ _ (by omega)] at c3
          rw [rpc_en1 _ _ (by omega)] at c4
          have s1 : (s : Int) < 32 := by omega
          have s2 : (1 : Int) ≤ (s : Int) := by omega
          have hsrc := src_born wr ((S.pri s : Nat) : Int) (S.pend s) (S.serv s) (S.en 0 s) (S.en 1 s) 55
          have hen := src_en wr ((S.pri s : Nat) : Int) (S.pend s) (S.serv s) (fun d => S.en d s) 1 (by omega) 55
          have ct := (hr.alloc (.cells #[.int .i64 ((S.pri s : Nat) : Int), .bool (S.pend s), .bool (S.serv s), .bool (S.en 0 s), .bool (S.en 1 s)] 55)).cell (i := 160 + 1) (by omega)
          rw [rpc_thr] at ct
          obtain ⟨g0, g1⟩ := hsrc
          have hyes : (S.pend s && S.en 1 s) = true → S.thr 1 < S.pri s → decide (0 < best (S.may 1) S.pri (S.thr 1)) = true := by
            intro h1 h2
            rw [decide_eq_true_eq]
            refine Nat.pos_of_ne_zero fun h3 => ?_
            have := best_zero (S.may 1) S.pri (S.thr 1) h3 s (by omega) (by omega) h1
            omega
          have hnot : ¬ ((S.pend s && S.en 1 s) = true ∧ S.thr 1 < S.pri s) → NoneTo S 1 s := by
            intro h1 k k1 k2
            by_cases ek : k = s
            · subst ek; exact h1
            · exact hno k k1 (by omega)
          have HY := Lib.hid hyes
          have HN := Lib.hid hnot
          have E := Lib.hid e
          have HS := Lib.hid hs
          have HM := Lib.hid hm
          clear hyes hnot e hs hm hr hno
          generalize hP : S.pend s = P at *
          generalize S.pri s = z at *
          obtain ⟨y, hy⟩ : ∃ y, S.thr 1 = y := ⟨_, rfl⟩
          rw [hy] at ct HY HN
          have HYE := Lib.hid hy
          clear hy
          generalize hE : S.en 1 s = E1 at *
          clear hP hE
          rcases P with _ | _
          · have hN := HN.out (by simp)
            clear HY HN
            go_wp2_with (fail)
            go_quiet (fail)
            go_wp2
            go_roundw
            case rel => exact ⟨q + 1, by omega, by have := E.out; go_num, by rw [HS.out]; exact hN, (HM.out.alloc _).drewN _⟩
            case measure => have := E.out; simp [intOf]; omega
          · rcases E1 with _ | _
            · have hN := HN.out (by simp)
              clear HY HN
              go_wp2_with (fail)
              go_quiet (fail)
              go_wp2
              go_roundw
              case rel => exact ⟨q + 1, by omega, by have := E.out; go_num, by rw [HS.out]; exact hN, (HM.out.alloc _).drewN _⟩
              case measure => have := E.out; simp [intOf]; omega
            · by_cases hz : y < z
              · have hY := HY.out rfl hz
                have HYY := Lib.hid hY
                clear HY HN hY
                go_wp2_with (fail)
                go_quiet (fail)
                go_wp2
                go_ret
                exact ⟨retb_of (by rw [HYE.out]; exact HYY.out.symm), (HM.out.alloc _).drewN _⟩
              · have hN := HN.out (by simp [hz])
                clear HY HN
                go_wp2_with (fail)
                go_quiet (fail)
                go_wp2
                go_roundw
                case rel => exact ⟨q + 1, by omega, by have := E.out; go_num, by rw [HS.out]; exact hN, (HM.out.alloc _).drewN _⟩
                case measure => have := E.out; simp [intOf]; omega
        · obtain rfl : q = 31 := by omega
          have HM := Lib.hid hm
          have hf : decide (0 < best (S.may 1) S.pri (S.thr 1)) = false := by
            rw [decide_eq_false_iff_not]
            intro h1
            obtain ⟨b1, b2, _, _⟩ := best_pos (S.may 1) S.pri (S.thr 1) h1
            exact hno _ h1 (best_lt _ _ _) ⟨b1, b2⟩
          have HF := Lib.hid hf
          clear hm hno hf
          go_wp2
          go_ret
          exact ⟨retb_of HF.out.symm, HM.out⟩
  · have he : S.pending c = false := if_neg hc
    rw [he]
    have h0 : ((c != 0) : Bool) = true := bne_iff_ne.2 (by omega)
    have h1 : ((c != 1) : Bool) = true := bne_iff_ne.2 (by omega)
    clear hc he h
    go_enter Try.func15, Try.ntmps15
    go_wp2
    go_ret
    exact ⟨rfl, Mod.refl _ _⟩

theorem born_row (w : World) (t : TypeId) (n : Nat) (f : Nat → Value) : (w.alloc (.cells ((List.range n).map f).toArray t)).rowIs w.heap.size t n f := by
  have h := World.rowIs_alloc w ((List.range n).map f).toArray t f fun i hi => by
    have hi : i < n := by simpa using hi
    simp [List.getElem?_range hi]
  simpa using h

def rpZero : Array Value := ((List.range 162).map (rpc Pli.zero)).toArray
theorem info_rplic : (Try.prog.info? 59).map (fun i => i.zero) = some (some (.agg rpZero)) := by kernel_rfl
theorem rplic_zero (w : World) : Sem.run Try.prog (zeroValue 59) w = .ok (.agg rpZero) w := by
  obtain ⟨i, hi, hz⟩ := Option.map_eq_some_iff.1 info_rplic
  simp [zeroValue, typeInfo, hi, hz]
theorem rpZero_ne : ¬ rpZero = #[] := by
  intro h
  have := congrArg Array.size h
  simp [rpZero] at this

theorem new_plic (w : World) : Calls Try.prog 6 #[] w (Ends (.pointer (some ⟨w.heap.size, 0, none⟩)) fun w' => PlicAt w' w.heap.size Pli.zero ∧ Mod Nil w w' ∧ w'.heap.size = w.heap.size + 1) := by
  go_enter Try.func6, Try.ntmps6
  go_wp2
  go_ret
  refine ⟨rfl, ⟨Pli.Ok.zero, ?_⟩, (Mod.refl Nil w).alloc _, by simp⟩
  exact born_row w 52 38 (plc Pli.zero)

theorem new_rplic (w : World) : Calls Try.prog 7 #[] w (Ends (.pointer (some ⟨w.heap.size, 0, none⟩)) fun w' => RPlicAt w' w.heap.size Pli.zero ∧ Mod Nil w w' ∧ w'.heap.size = w.heap.size + 1) := by
  go_enter Try.func7, Try.ntmps7
  go_wp2
  rw [rplic_zero]
  have hne := rpZero_ne
  go_wp2
  go_ret
  refine ⟨rfl, ⟨Pli.Ok.zero, ?_⟩, (Mod.refl Nil w).alloc _, by simp⟩
  exact born_row w 59 162 (rpc Pli.zero)

end Go.Proofs.Ytjkbemonedohjaa
