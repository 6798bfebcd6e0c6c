/- RamPlays returns true at any size and any acts. No condition. -/
import Derived.Test.YthpjedbkdepglaaRamO
import Derived.Test.YthpjedbkdepglaaLook
namespace Go.Proofs.Ythpjedbkdepglaa
open Go.RowKit Go.ChangeShapes Go.WideShapes Go.Deep

theorem RHas.tagged {W w : World} {m bb tb : Nat} {M : Mem} (h : RHas W w m bb tb M) :
    Calls Try.prog 21 #[.pointer (some ⟨m, 0, none⟩)] w fun e w' => ∃ v, e = .returned v ∧ Ints w' .i64 v M.tagged.length (fun i => M.tagged.getD i 0) ∧ Mod Nil w w' :=
  (rtagged_at h.ram).mono fun _ _ ⟨v, he, ho, hm⟩ => ⟨v, he, Ints.of_own ho (tagged_len M h.ram.hi), hm⟩

/-- Both, and how many bytes. -/
def BothN (W w : World) (r rb m bb tb n : Nat) : Prop := ∃ M, Both W w r rb m bb tb M ∧ M.n = n

theorem load_some (M : Mem) (q : Nat) (h : 8 * q + 8 ≤ M.n) : ∃ v : Nat, M.load (8 * (q : Int)) 8 = (v, true) := by
  have := load_8 M (8 * q) h
  rw [show (((8 * q : Nat)) : Int) = 8 * (q : Int) from by omega] at this
  exact ⟨_, this⟩

set_option maxHeartbeats 8000000 in
set_option maxRecDepth 100000 in
theorem plays_any (z : Int) (A : Option Addr) (n cap : Nat) (L : Nat → ActV) (W : World) (_hn : n ≤ 9223372036854775807) (hL : ActsAt W A n L) :
    Calls Try.prog 6 #[.int .i64 z, .slice A n cap] W (fun e w' => e = .returned (.bool true) ∧ Below W.heap.size W w') := by
  have HL := Lib.hid hL
  clear hL
  by_cases hz : SizeOk z
  · obtain ⟨y, rfl⟩ : ∃ y : Nat, z = (y : Int) := ⟨z.toNat, by unfold SizeOk at hz; omega⟩
    unfold SizeOk at hz
    have y1 : 4096 ≤ y := by omega
    have y2 : y ≤ 65536 := by omega
    have y3 : y % 4096 = 0 := by omega
    have HY3 := Lib.hid y3
    clear hz y3
    go_enter Try.func6, Try.ntmps6
    go_wp2_with (fail)
    refine (new_has (Below.refl _ W) y y1 y2 HY3.out).mono ?_
    rintro e w1 ⟨rfl, h1, hm1⟩
    have H1 := Lib.hid h1
    have M1 := Lib.hid hm1
    clear h1 hm1
    go_wp2_with (fail)
    refine (rnew_yes y w1 y1 y2 HY3.out).mono ?_
    rintro e w2 ⟨m, bb, tb, hbb, htb, hm, rfl, h2, hm2⟩
    have hB : BothN W w2 (W.heap.size + 1) W.heap.size m bb tb y := by
      have l1 := H1.out.lt
      have sz := M1.out.size
      exact ⟨Mem.zero y, ⟨H1.out.nil hm2, ⟨h2, by omega⟩, by omega⟩, rfl⟩
    have HB := Lib.hid hB
    clear h2 hm2 hB hbb htb hm
    go_wp2_with (fail)
    go_loopw [9] (fun i wr => ∃ k : Nat, k ≤ n ∧ k ≤ 200 ∧ i = .int .i64 (k : Int) ∧ BothN W wr (W.heap.size + 1) W.heap.size m bb tb y) (fun i _ => n - (intOf i).toNat)
    case atStart => exact ⟨0, Nat.zero_le _, Nat.zero_le _, rfl, HB.out⟩
    case round =>
      obtain ⟨k, hk, hk2, rfl, hB⟩ := hrel
      obtain ⟨wo, rfl⟩ : ∃ wo : World, wo = wr := ⟨_, rfl⟩
      by_cases hkn : k < n ∧ k < 200
      · obtain ⟨hkn, hk200⟩ := hkn
        obtain ⟨M, hBo, hMn⟩ := hB
        obtain ⟨b, off, rfl, hb, hok, hc⟩ := HL.out k hkn
        obtain ⟨f0, f1, f2, f3, f4, f5⟩ := hc.below hBo.one.below hb
        obtain ⟨ha, hm⟩ := hok
        clear hc
        generalize (L k).K = K at *
        generalize (L k).O = O at *
        generalize (L k).S = S at *
        generalize (L k).T = T at *
        generalize (L k).A = A at *
        generalize (L k).M = V at *
        have HBo := Lib.hid hBo
        have HMn := Lib.hid hMn
        clear hBo hMn
        go_wp2_with (fail)
        refine (does_any HBo.out K O S T A V ha hm).mono ?_
        rintro e w3 ⟨rfl, M3, h3, hn3⟩
        have H3 := Lib.hid h3
        have HN3 := Lib.hid (hn3.trans HMn.out)
        clear h3 hn3
        have hl3 := H3.out.one.len
        rw [HN3.out] at hl3
        have hr3 := rlen_at H3.out.two.ram
        rw [HN3.out] at hr3
        have HL3 := Lib.hid hl3
        have HR3 := Lib.hid hr3
        clear hl3 hr3
        have hll : M3.tagged.length ≤ maxLen := tagged_len M3 H3.out.two.ram.hi
        by_cases hk20 : k % 20 = 0
        · have hz : (((k : Int) % 20 == 0) : Bool) = true := by simp only [beq_iff_eq]; omega
          go_wp2_with (first | (go_at_call 19; refine HL3.out.mono ?_; rintro e w' ⟨rfl, rfl⟩) | (go_at_call 20; refine HR3.out.mono ?_; rintro e w' ⟨rfl, rfl⟩))
          refine H3.out.one.tagged.mono ?_
          rintro e w4 ⟨v4, rfl, hi4, hv4, h4, m4⟩
          have HI4 := Lib.hid hi4
          have H4 := Lib.hid (H3.out.nil m4)
          clear hi4 hv4 h4 m4
          go_wp2_with (fail)
          refine H4.out.two.tagged.mono ?_
          rintro e w5 ⟨v5, rfl, hi5, m5⟩
          have HI5 := Lib.hid hi5
          have HI6 := Lib.hid (HI4.out.keep m5 fun _ _ x => x)
          have H5 := Lib.hid (H4.out.nil m5)
          clear hi5 m5
          go_wp2_with (fail)
          refine (same_ints _ _ _ _ _ HI6.out HI5.out).mono ?_
          rintro e w6 ⟨rfl, m6⟩
          have H6 := Lib.hid (H5.out.nil m6)
          clear m6
          go_wp2_with (fail)
          go_roundw
          case rel => exact ⟨k + 1, by omega, by omega, by go_num, M3, H6.out, HN3.out⟩
          case measure => simp [intOf]; omega
        · have hz : (((k : Int) % 20 == 0) : Bool) = false := by simp only [beq_eq_false_iff_ne, ne_eq]; omega
          go_wp2_with (first | (go_at_call 19; refine HL3.out.mono ?_; rintro e w' ⟨rfl, rfl⟩) | (go_at_call 20; refine HR3.out.mono ?_; rintro e w' ⟨rfl, rfl⟩))
          go_roundw
          case rel => exact ⟨k + 1, by omega, by omega, by go_num, M3, H3.out, HN3.out⟩
          case measure => simp [intOf]; omega
      · obtain ⟨M, hBo, hMn⟩ := hB
        have HBo := Lib.hid hBo
        have HMn := Lib.hid hMn
        clear hBo hMn
        go_wp2_with (fail)
        all_goals
          go_loopw [10] (fun i wr => ∃ q : Nat, q ≤ y / 8 ∧ i = .int .i64 (8 * (q : Int)) ∧ wr = wo) (fun i _ => y - (intOf i).toNat)
          case atStart => exact ⟨0, Nat.zero_le _, rfl, rfl⟩
          case round =>
            obtain ⟨q, hq, rfl, rfl⟩ := hrel
            have hr3 := rlen_at HBo.out.two.ram
            rw [HMn.out] at hr3
            have HR3 := Lib.hid hr3
            clear hr3
            by_cases hqn : q < y / 8
            · obtain ⟨v, hv⟩ := load_some M q (by rw [HMn.out]; omega)
              have hA := HBo.out.one.load (8 * (q : Int)) 8
              have hB := rload_at HBo.out.two.ram (8 * (q : Int)) 8
              rw [hv] at hA hB
              have HA := Lib.hid hA
              have HB2 := Lib.hid hB
              clear hA hB hv
              have hq8 : 8 * (q : Int) < (y : Int) := by omega
              go_wp2_with (first | (go_at_call 20; refine HR3.out.mono ?_; rintro e w' ⟨rfl, rfl⟩) | (go_at_call 16; refine HA.out.mono ?_; rintro e w' ⟨rfl, rfl⟩) | (go_at_call 22; refine HB2.out.mono ?_; rintro e w' ⟨rfl, rfl⟩))
              go_roundw
              case rel => exact ⟨q + 1, by omega, by go_num, trivial⟩
              case measure => simp [intOf]; omega
            · have hq8 : ¬ 8 * (q : Int) < (y : Int) := by have := HY3.out; omega
              go_wp2_with (first | (go_at_call 20; refine HR3.out.mono ?_; rintro e w' ⟨rfl, rfl⟩))
              refine HBo.out.one.tagged.mono ?_
              rintro e w4 ⟨v4, rfl, hi4, hv4, h4, m4⟩
              have HI4 := Lib.hid hi4
              have H4 := Lib.hid (HBo.out.nil m4)
              clear hi4 hv4 h4 m4
              go_wp2_with (fail)
              refine H4.out.two.tagged.mono ?_
              rintro e w5 ⟨v5, rfl, hi5, m5⟩
              have HI5 := Lib.hid hi5
              have HI6 := Lib.hid (HI4.out.keep m5 fun _ _ x => x)
              have H5 := Lib.hid (H4.out.nil m5)
              clear hi5 m5
              go_wp2_with (fail)
              refine (same_ints _ _ _ _ _ HI6.out HI5.out).mono ?_
              rintro e w6 ⟨rfl, m6⟩
              have H6 := Lib.hid (H5.out.nil m6)
              clear m6
              go_wp2_with (fail)
              refine (known_any _).mono ?_
              rintro e w7 ⟨rfl, hb7⟩
              have hb := H6.out.one.below.trans (hb7.mono H6.out.one.below.size)
              go_wp2
              go_ret
              exact ⟨rfl, hb⟩
  · go_enter Try.func6, Try.ntmps6
    go_wp2_with (fail)
    refine (new_no z W hz).mono ?_
    rintro e w1 ⟨rfl, rfl⟩
    go_wp2_with (fail)
    refine (rnew_no z W hz).mono ?_
    rintro e w1 ⟨rfl, rfl⟩
    go_wp2_with (fail)
    refine (known_any _).mono ?_
    rintro e w7 ⟨rfl, hb7⟩
    go_wp2
    go_ret
    exact ⟨rfl, hb7⟩

theorem plays_walk {H : Type} {enc : TypeId × Value → H} (W : World) {r : Reach} {b0 : Nat} (v : Value) {d : DataW H} {p : List MemPlace} (ok : Value.okWide Try.prog W r b0 3 v)
    (h : DataW.Trod enc Try.prog W 0 (fun _ => true) true 3 v d p) (v2 : Value) {d2 : DataW H} {p2 : List MemPlace} (ok2 : Value.okWide Try.prog W r b0 22 v2)
    (h2 : DataW.Trod enc Try.prog W 0 (fun _ => true) true 22 v2 d2 p2) :
    Calls Try.prog 6 #[v, v2] W (fun e w' => e = .returned (.bool true) ∧ Below W.heap.size W w') := by
  obtain ⟨z, rfl, _⟩ := read_arg Try.underlying3 ok h
  obtain ⟨A, n, cap, L, rfl, hn, hL⟩ := read_acts ok2 h2
  exact plays_any z A n cap L W hn hL

end Go.Proofs.Ythpjedbkdepglaa
