/- PlicClaims returns true at any calls. Condition: the calls lie in memory. -/
import Derived.Test.YtjkbemonedohjaaPlicX
namespace Go.Proofs.Ytjkbemonedohjaa
open Go.RowKit Go.ChangeShapes Go.WideShapes Go.Deep
attribute [local go_sem ↓] Go.wp_at_zero Go.wp_at_succ
attribute [local irreducible] wordOf

set_option maxHeartbeats 1000000 in
theorem claims_0 (A : Option Addr) (n cap : Nat) (L : Nat → OpV) (W : World) (hn : n ≤ 300) (hL : OpsAt W A n L) :
    Calls Try.prog 17 #[.slice A n cap, .bool false] W (Ends (.bool true) fun w' => Below W.heap.size W w') := by
  have hD := done_any A n cap L W hn hL
  have HD := Lib.hid hD
  clear hD hL
  go_enter Try.func17, Try.ntmps17
  go_wp2_with (fail)
  refine HD.out.mono ?_
  rintro e w1 ⟨S, rfl, h1⟩
  have HS := Lib.hid h1
  clear h1
  obtain ⟨p, hp⟩ : ∃ p, p = W.heap.size := ⟨_, rfl⟩
  rw [← hp] at HS
  rw [← hp]
  clear hp
  go_wp2_with (fail)
  have c1 := HS.out.of 4096
  rw [load_pend] at c1
  refine c1.mono ?_
  rintro e w2 ⟨rfl, h2, _⟩
  have H2 := Lib.hid h2
  clear h2 c1 HS
  have hand : bits BinOp.and IntKind.u64 ((wordOf S.pend 32 : Nat) : Int) ((wordOf (S.en 0) 32 : Nat) : Int) = ((wordOf (S.may 0) 32 : Nat) : Int) := w64_and (Word.self S.pend) (Word.self (S.en 0))
  have hwp := u32_lt S.pend
  have hwe := u32_lt (S.en 0)
  go_wp2_with (fail)
  have c1 : Calls Try.prog 19 #[.pointer (some ⟨p, 0, none⟩), .int .i64 8192] w2 (Ends (.int .u64 ((wordOf (S.en 0) 32 : Nat) : Int)) fun w' => PHas W w' p S ∧ Mod (fun g => g = p) w2 w') := H2.out.of 8192
  refine c1.mono ?_
  rintro e w3 ⟨rfl, h3, _⟩
  have H3 := Lib.hid h3
  clear h3 c1 H2
  go_wp2_with (fail)
  have c1 : Calls Try.prog 19 #[.pointer (some ⟨p, 0, none⟩), .int .i64 2097152] w3 (Ends (.int .u64 ((S.thr 0 : Nat) : Int)) fun w' => PHas W w' p S ∧ Mod (fun g => g = p) w3 w') := H3.out.of 2097152
  refine c1.mono ?_
  rintro e w4 ⟨rfl, h4, _⟩
  have H4 := Lib.hid h4
  clear h4 c1 H3
  have hmw := u32_lt (S.may 0)
  have HMT := Lib.hid (Word.self (S.may 0)).2
  have hth := H4.out.plic.1.thr 0
  clear hand
  go_wp2_with (fail)
  obtain ⟨x, hx⟩ : ∃ x, wordOf (S.may 0) 32 = x := ⟨_, rfl⟩
  rw [hx] at HMT hmw ⊢
  clear hx
  go_loopw [10, 11, 12] (fun b m i wr => ∃ q : Nat, q ≤ 31 ∧ i = .int .u64 ((q : Int) + 1) ∧ b = .int .u64 ((up (S.may 0) S.pri 0 q).1 : Nat) ∧ m = .int .u64 ((up (S.may 0) S.pri 0 q).2 : Nat) ∧ PHas W wr p S) (fun _ _ i _ => 32 - (intOf i).toNat)
  case atStart => exact ⟨0, by omega, rfl, rfl, rfl, H4.out⟩
  case round =>
    obtain ⟨q, hq, rfl, rfl, rfl, hP⟩ := hrel
    have HP := Lib.hid hP
    clear hP
    by_cases hqk : q < 31
    · have hb := bit_test64 x (q + 1) (by omega)
      rw [HMT.out (q + 1) (by omega)] at hb
      have hup : up (S.may 0) S.pri 0 (q + 1) = if S.may 0 (q + 1) && decide (S.pri (q + 1) > (up (S.may 0) S.pri 0 q).2) then (q + 1, S.pri (q + 1)) else up (S.may 0) S.pri 0 q := rfl
      have hpq := HP.out.plic.1.pri (q + 1)
      have q0 : (0 : Int) ≤ (q : Int) + 1 := by omega
      have q1 : (q : Int) + 1 < 32 := by omega
      have c1 := HP.out.of (4 * ((q + 1 : Nat) : Int))
      rw [load_pri S (q + 1) (by omega), show (4 * ((q + 1 : Nat) : Int)) = 4 * ((q : Int) + 1) from by omega] at c1
      have C1 := Lib.hid c1
      have HU := Lib.hid hup
      clear hup c1
      go_wp2_with (fail)
      refine C1.out.mono ?_
      rintro e w5 ⟨rfl, h5, _⟩
      have H5 := Lib.hid h5
      clear h5 C1 HP
      rcases hm : S.may 0 (q + 1) with _ | _
      · rw [hm] at hb HU
        have HM := Lib.hid hm
        clear hm
        go_wp2
        go_roundw
        case rel => exact ⟨q + 1, by omega, by go_num, by rw [HU.out]; rfl, by rw [HU.out]; rfl, H5.out⟩
        case measure => simp [intOf]; omega
      · rw [hm] at hb HU
        have HM := Lib.hid hm
        clear hm
        by_cases hlt : (up (S.may 0) S.pri 0 q).2 < S.pri (q + 1)
        · have e : up (S.may 0) S.pri 0 (q + 1) = (q + 1, S.pri (q + 1)) := by rw [HU.out, if_pos (by simpa using hlt)]
          have HE := Lib.hid e
          clear e HU
          generalize (up (S.may 0) S.pri 0 q).2 = ab at *
          generalize (up (S.may 0) S.pri 0 q).1 = be at *
          go_wp2
          go_roundw
          case rel => exact ⟨q + 1, by omega, by go_num, by rw [HE.out]; go_num, by rw [HE.out], H5.out⟩
          case measure => simp [intOf]; omega
        · have e : up (S.may 0) S.pri 0 (q + 1) = up (S.may 0) S.pri 0 q := by rw [HU.out, if_neg (by simpa using hlt)]
          have HE := Lib.hid e
          clear e HU
          generalize up (S.may 0) S.pri 0 q = ab at *
          go_wp2
          go_roundw
          case rel => exact ⟨q + 1, by omega, by go_num, by rw [HE.out], by rw [HE.out], H5.out⟩
          case measure => simp [intOf]; omega
    · obtain rfl : q = 31 := by omega
      have hcl : S.claim 0 = (S.best 0, if 0 < S.best 0 then { S with pend := fun s => S.pend s && s != S.best 0, serv := fun s => S.serv s || s == S.best 0 } else S) := rfl
      have hbe : S.best 0 = (up (S.may 0) S.pri 0 31).1 := rfl
      have hbl : S.best 0 ≤ 31 := best_lt _ _ _
      have hto : S.pending 0 = decide (S.thr 0 < (up (S.may 0) S.pri 0 31).2) := most_told _ _ _
      rw [← hbe]
      have HCL := Lib.hid hcl
      have HTO := Lib.hid hto
      clear hcl hbe hto
      generalize (up (S.may 0) S.pri 0 31).2 = most at *
      go_wp2_with (fail)
      have c1 := HP.out.pending 0
      rw [HTO.out] at c1
      refine c1.mono ?_
      rintro e w5 ⟨rfl, h5, _⟩
      have H5 := Lib.hid h5
      clear h5 c1 HP
      go_wp2_with (fail)
      have c1 := H5.out.of 2097156
      rw [load_claim0, HCL.out] at c1
      refine c1.mono ?_
      rintro e w6 ⟨rfl, h6, _⟩

      by_cases hb0 : 0 < S.best 0
      · skip
        rw [if_pos hb0] at h6
        have H6 := Lib.hid h6
        clear h6 c1 H5
        have h1 : IntKind.u64.wrap ((2 : Int) ^ S.best 0) = (2 : Int) ^ S.best 0 := by
          have h := (word_bit (s := S.best 0) (by omega)).1
          rw [IntKind.wrap_u64, ← two_cast]
          exact Int.emod_eq_of_lt (Int.natCast_nonneg _) (by omega)
        have han := w64_andNot (Word.self S.pend) (word_bit (s := S.best 0) (by omega))
        rw [two_cast] at han
        generalize S.best 0 = b at *
        obtain ⟨left, hleft⟩ : ∃ x, wordOf (fun k => S.pend k && !(k == b)) 32 = x := ⟨_, rfl⟩
        rw [hleft] at han
        have HLF := Lib.hid hleft
        clear hleft
        go_wp2_with (fail)
        have c1 := H6.out.of 4096
        rw [load_pend] at c1
        change Calls _ _ _ _ (Ends (.int .u64 ((wordOf (fun k => S.pend k && !(k == b)) 32 : Nat) : Int)) _) at c1
        rw [HLF.out] at c1
        refine c1.mono ?_
        rintro e w7 ⟨rfl, h7, _⟩
        have H7 := Lib.hid h7
        clear h7 c1 H6
        go_wp2_with (fail)
        refine (works_any _).mono ?_
        rintro e w8 ⟨rfl, hb8⟩
        have hb := H7.out.below.trans (hb8.mono H7.out.below.size)
        go_wp2
        go_ret
        exact ⟨rfl, hb⟩
      · rw [if_neg hb0] at h6
        have H6 := Lib.hid h6
        clear h6 c1 H5
        go_wp2_with (fail)
        have c1 := H6.out.of 4096
        rw [load_pend] at c1
        refine c1.mono ?_
        rintro e w7 ⟨rfl, h7, _⟩
        have H7 := Lib.hid h7
        clear h7 c1 H6
        go_wp2_with (fail)
        refine (works_any _).mono ?_
        rintro e w8 ⟨rfl, hb8⟩
        have hb := H7.out.below.trans (hb8.mono H7.out.below.size)
        go_wp2
        go_ret
        exact ⟨rfl, hb⟩

set_option maxHeartbeats 1000000 in
theorem claims_1 (A : Option Addr) (n cap : Nat) (L : Nat → OpV) (W : World) (hn : n ≤ 300) (hL : OpsAt W A n L) :
    Calls Try.prog 17 #[.slice A n cap, .bool true] W (Ends (.bool true) fun w' => Below W.heap.size W w') := by
  have hD := done_any A n cap L W hn hL
  have HD := Lib.hid hD
  clear hD hL
  go_enter Try.func17, Try.ntmps17
  go_wp2_with (fail)
  refine HD.out.mono ?_
  rintro e w1 ⟨S, rfl, h1⟩
  have HS := Lib.hid h1
  clear h1
  obtain ⟨p, hp⟩ : ∃ p, p = W.heap.size := ⟨_, rfl⟩
  rw [← hp] at HS
  rw [← hp]
  clear hp
  go_wp2_with (fail)
  have c1 := HS.out.of 4096
  rw [load_pend] at c1
  refine c1.mono ?_
  rintro e w2 ⟨rfl, h2, _⟩
  have H2 := Lib.hid h2
  clear h2 c1 HS
  have hand : bits BinOp.and IntKind.u64 ((wordOf S.pend 32 : Nat) : Int) ((wordOf (S.en 1) 32 : Nat) : Int) = ((wordOf (S.may 1) 32 : Nat) : Int) := w64_and (Word.self S.pend) (Word.self (S.en 1))
  have hwp := u32_lt S.pend
  have hwe := u32_lt (S.en 1)
  go_wp2_with (fail)
  have c1 : Calls Try.prog 19 #[.pointer (some ⟨p, 0, none⟩), .int .i64 8320] w2 (Ends (.int .u64 ((wordOf (S.en 1) 32 : Nat) : Int)) fun w' => PHas W w' p S ∧ Mod (fun g => g = p) w2 w') := H2.out.of 8320
  refine c1.mono ?_
  rintro e w3 ⟨rfl, h3, _⟩
  have H3 := Lib.hid h3
  clear h3 c1 H2
  go_wp2_with (fail)
  have c1 : Calls Try.prog 19 #[.pointer (some ⟨p, 0, none⟩), .int .i64 2101248] w3 (Ends (.int .u64 ((S.thr 1 : Nat) : Int)) fun w' => PHas W w' p S ∧ Mod (fun g => g = p) w3 w') := H3.out.of 2101248
  refine c1.mono ?_
  rintro e w4 ⟨rfl, h4, _⟩
  have H4 := Lib.hid h4
  clear h4 c1 H3
  have hmw := u32_lt (S.may 1)
  have HMT := Lib.hid (Word.self (S.may 1)).2
  have hth := H4.out.plic.1.thr 1
  clear hand
  go_wp2_with (fail)
  obtain ⟨x, hx⟩ : ∃ x, wordOf (S.may 1) 32 = x := ⟨_, rfl⟩
  rw [hx] at HMT hmw ⊢
  clear hx
  go_loopw [10, 11, 12] (fun b m i wr => ∃ q : Nat, q ≤ 31 ∧ i = .int .u64 ((q : Int) + 1) ∧ b = .int .u64 ((up (S.may 1) S.pri 0 q).1 : Nat) ∧ m = .int .u64 ((up (S.may 1) S.pri 0 q).2 : Nat) ∧ PHas W wr p S) (fun _ _ i _ => 32 - (intOf i).toNat)
  case atStart => exact ⟨0, by omega, rfl, rfl, rfl, H4.out⟩
  case round =>
    obtain ⟨q, hq, rfl, rfl, rfl, hP⟩ := hrel
    have HP := Lib.hid hP
    clear hP
    by_cases hqk : q < 31
    · have hb := bit_test64 x (q + 1) (by omega)
      rw [HMT.out (q + 1) (by omega)] at hb
      have hup : up (S.may 1) S.pri 0 (q + 1) = if S.may 1 (q + 1) && decide (S.pri (q + 1) > (up (S.may 1) S.pri 0 q).2) then (q + 1, S.pri (q + 1)) else up (S.may 1) S.pri 0 q := rfl
      have hpq := HP.out.plic.1.pri (q + 1)
      have q0 : (0 : Int) ≤ (q : Int) + 1 := by omega
      have q1 : (q : Int) + 1 < 32 := by omega
      have c1 := HP.out.of (4 * ((q + 1 : Nat) : Int))
      rw [load_pri S (q + 1) (by omega), show (4 * ((q + 1 : Nat) : Int)) = 4 * ((q : Int) + 1) from by omega] at c1
      have C1 := Lib.hid c1
      have HU := Lib.hid hup
      clear hup c1
      go_wp2_with (fail)
      refine C1.out.mono ?_
      rintro e w5 ⟨rfl, h5, _⟩
      have H5 := Lib.hid h5
      clear h5 C1 HP
      rcases hm : S.may 1 (q + 1) with _ | _
      · rw [hm] at hb HU
        have HM := Lib.hid hm
        clear hm
        go_wp2
        go_roundw
        case rel => exact ⟨q + 1, by omega, by go_num, by rw [HU.out]; rfl, by rw [HU.out]; rfl, H5.out⟩
        case measure => simp [intOf]; omega
      · rw [hm] at hb HU
        have HM := Lib.hid hm
        clear hm
        by_cases hlt : (up (S.may 1) S.pri 0 q).2 < S.pri (q + 1)
        · have e : up (S.may 1) S.pri 0 (q + 1) = (q + 1, S.pri (q + 1)) := by rw [HU.out, if_pos (by simpa using hlt)]
          have HE := Lib.hid e
          clear e HU
          generalize (up (S.may 1) S.pri 0 q).2 = ab at *
          generalize (up (S.may 1) S.pri 0 q).1 = be at *
          go_wp2
          go_roundw
          case rel => exact ⟨q + 1, by omega, by go_num, by rw [HE.out]; go_num, by rw [HE.out], H5.out⟩
          case measure => simp [intOf]; omega
        · have e : up (S.may 1) S.pri 0 (q + 1) = up (S.may 1) S.pri 0 q := by rw [HU.out, if_neg (by simpa using hlt)]
          have HE := Lib.hid e
          clear e HU
          generalize up (S.may 1) S.pri 0 q = ab at *
          go_wp2
          go_roundw
          case rel => exact ⟨q + 1, by omega, by go_num, by rw [HE.out], by rw [HE.out], H5.out⟩
          case measure => simp [intOf]; omega
    · obtain rfl : q = 31 := by omega
      have hcl : S.claim 1 = (S.best 1, if 0 < S.best 1 then { S with pend := fun s => S.pend s && s != S.best 1, serv := fun s => S.serv s || s == S.best 1 } else S) := rfl
      have hbe : S.best 1 = (up (S.may 1) S.pri 0 31).1 := rfl
      have hbl : S.best 1 ≤ 31 := best_lt _ _ _
      have hto : S.pending 1 = decide (S.thr 1 < (up (S.may 1) S.pri 0 31).2) := most_told _ _ _
      rw [← hbe]
      have HCL := Lib.hid hcl
      have HTO := Lib.hid hto
      clear hcl hbe hto
      generalize (up (S.may 1) S.pri 0 31).2 = most at *
      go_wp2_with (fail)
      have c1 := HP.out.pending 1
      rw [HTO.out] at c1
      refine c1.mono ?_
      rintro e w5 ⟨rfl, h5, _⟩
      have H5 := Lib.hid h5
      clear h5 c1 HP
      go_wp2_with (fail)
      have c1 := H5.out.of 2101252
      rw [load_claim1, HCL.out] at c1
      refine c1.mono ?_
      rintro e w6 ⟨rfl, h6, _⟩

      by_cases hb0 : 0 < S.best 1
      · skip
        rw [if_pos hb0] at h6
        have H6 := Lib.hid h6
        clear h6 c1 H5
        have h1 : IntKind.u64.wrap ((2 : Int) ^ S.best 1) = (2 : Int) ^ S.best 1 := by
          have h := (word_bit (s := S.best 1) (by omega)).1
          rw [IntKind.wrap_u64, ← two_cast]
          exact Int.emod_eq_of_lt (Int.natCast_nonneg _) (by omega)
        have han := w64_andNot (Word.self S.pend) (word_bit (s := S.best 1) (by omega))
        rw [two_cast] at han
        generalize S.best 1 = b at *
        obtain ⟨left, hleft⟩ : ∃ x, wordOf (fun k => S.pend k && !(k == b)) 32 = x := ⟨_, rfl⟩
        rw [hleft] at han
        have HLF := Lib.hid hleft
        clear hleft
        go_wp2_with (fail)
        have c1 := H6.out.of 4096
        rw [load_pend] at c1
        change Calls _ _ _ _ (Ends (.int .u64 ((wordOf (fun k => S.pend k && !(k == b)) 32 : Nat) : Int)) _) at c1
        rw [HLF.out] at c1
        refine c1.mono ?_
        rintro e w7 ⟨rfl, h7, _⟩
        have H7 := Lib.hid h7
        clear h7 c1 H6
        go_wp2_with (fail)
        refine (works_any _).mono ?_
        rintro e w8 ⟨rfl, hb8⟩
        have hb := H7.out.below.trans (hb8.mono H7.out.below.size)
        go_wp2
        go_ret
        exact ⟨rfl, hb⟩
      · rw [if_neg hb0] at h6
        have H6 := Lib.hid h6
        clear h6 c1 H5
        go_wp2_with (fail)
        have c1 := H6.out.of 4096
        rw [load_pend] at c1
        refine c1.mono ?_
        rintro e w7 ⟨rfl, h7, _⟩
        have H7 := Lib.hid h7
        clear h7 c1 H6
        go_wp2_with (fail)
        refine (works_any _).mono ?_
        rintro e w8 ⟨rfl, hb8⟩
        have hb := H7.out.below.trans (hb8.mono H7.out.below.size)
        go_wp2
        go_ret
        exact ⟨rfl, hb⟩

end Go.Proofs.Ytjkbemonedohjaa
