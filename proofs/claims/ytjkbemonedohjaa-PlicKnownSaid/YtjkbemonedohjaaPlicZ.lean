/- What was claimed is not claimed again, until it is completed (plain, and PlicOnce). Condition: the calls lie in memory. -/
import Derived.Test.YtjkbemonedohjaaPlicY
import Derived.Test.YtjkbemonedohjaaInts
namespace Go.Proofs.Ytjkbemonedohjaa
open Go.RowKit Go.ChangeShapes Go.WideShapes Go.Deep
attribute [local go_sem ↓] Go.wp_at_zero Go.wp_at_succ
attribute [local irreducible] wordOf

/-- Source s is served, is not pending, and is enabled for c. -/
structure Served (S : Pli) (s c : Nat) : Prop where
  serv : S.serv s = true
  pend : S.pend s = false
  en : S.en c s = true
  pos : 0 < s
  lt : s ≤ 31

theorem Served.lines {S : Pli} {s c : Nat} (h : Served S s c) (m : Nat) : Served (S.lines m) s c :=
  ⟨h.serv, by simp [Pli.lines, h.serv], h.en, h.pos, h.lt⟩
theorem Served.claim {S : Pli} {s c : Nat} (h : Served S s c) (d : Nat) : Served (S.claim d).2 s c ∧ (S.claim d).1 ≠ s := by
  constructor
  · unfold Pli.claim
    dsimp only
    split
    · exact ⟨by simp [h.serv], by simp [h.pend], h.en, h.pos, h.lt⟩
    · exact h
  · show S.best d ≠ s
    intro e
    have hp : 0 < S.best d := by rw [e]; exact h.pos
    obtain ⟨a, _⟩ := best_pos (S.may d) S.pri 0 hp
    have a : S.may d (S.best d) = true := a
    rw [e] at a
    unfold Pli.may at a
    rw [h.pend] at a
    simp at a
theorem served_born (S : Pli) (c : Nat) (h : 0 < (S.claim c).1) : Served (S.claim c).2 (S.claim c).1 c := by
  have hp : 0 < S.best c := h
  obtain ⟨a, _⟩ := best_pos (S.may c) S.pri 0 hp
  have a : S.may c (S.best c) = true := a
  unfold Pli.may at a
  rw [Bool.and_eq_true] at a
  have hcl : S.claim c = (S.best c, { S with pend := fun s => S.pend s && s != S.best c, serv := fun s => S.serv s || s == S.best c }) := by
    unfold Pli.claim
    rw [if_pos hp]
  rw [hcl]
  exact ⟨by simp, by simp, a.2, hp, best_lt _ _ _⟩
theorem served_done {S : Pli} {s c v : Nat} (h : Served S s c) (hv : v % 4294967296 = s) : ((S.complete c v).lines (2 ^ s)).pend s = true := by
  have h1 : (S.complete c v).serv s = false := by
    unfold Pli.complete
    rw [hv, if_pos (by have := h.lt; omega)]
    simp [h.en]
  show ((2 ^ s).testBit s && !(s == 0 || (S.complete c v).serv s)) = true
  rw [h1, Nat.testBit_two_pow_self, beq_eq_false_iff_ne.2 (Nat.pos_iff_ne_zero.1 h.pos)]
  rfl

set_option maxHeartbeats 2000000 in
set_option maxRecDepth 100000 in
theorem once_0 (A : Option Addr) (n cap : Nat) (L : Nat → OpV) (vb : Value) (n2 : Nat) (f : Nat → Int) (W : World) (hn : n ≤ 300) (hn2 : n2 ≤ 100) (hL : OpsAt W A n L) (hI : Ints W .u32 vb n2 f) (hf : ∀ i, i < n2 → 0 ≤ f i ∧ f i < 4294967296) :
    Calls Try.prog 18 #[.slice A n cap, .bool false, vb] W (Ends (.bool true) fun w' => Below W.heap.size W w') := by
  have hD := done_any A n cap L W hn hL
  have HD := Lib.hid hD
  have HI := Lib.hid hI
  have HF := Lib.hid hf
  obtain ⟨A2, cap2, rfl, _, _, _⟩ := hI
  clear hD hL hf
  go_enter Try.func18, Try.ntmps18
  go_wp2_with (fail)
  refine HD.out.mono ?_
  rintro e w1 ⟨S, rfl, h1⟩
  have HS := Lib.hid h1
  clear h1
  obtain ⟨p, hp⟩ : ∃ p, p = W.heap.size := ⟨_, rfl⟩
  rw [← hp] at HS
  rw [← hp]
  have HPW := Lib.hid hp
  clear hp
  go_wp2_with (fail)
  refine (HS.out.lines 4294967295 (by decide)).mono ?_
  rintro e w2 ⟨rfl, h2, _⟩
  have H2 := Lib.hid h2
  clear h2 HS
  generalize S.lines 4294967295 = S1 at *
  go_wp2_with (fail)
  have c1 := H2.out.of 2097156
  rw [load_claim0] at c1
  refine c1.mono ?_
  rintro e w3 ⟨rfl, h3, _⟩
  have H3 := Lib.hid h3
  clear h3 c1 H2
  have hlt := S1.claim_lt 0
  have hserved := served_born S1 0
  have HB := Lib.hid hserved
  clear hserved
  generalize (S1.claim 0).1 = s at *
  generalize (S1.claim 0).2 = S2 at *
  by_cases hs0 : s = 0
  · subst hs0
    go_wp2_with (fail)
    refine (works_any _).mono ?_
    rintro e w7 ⟨rfl, hb7⟩
    have hb := H3.out.below.trans (hb7.mono H3.out.below.size)
    go_wp2
    go_ret
    exact ⟨rfl, hb⟩
  · have hV : Served S2 s 0 := HB.out (by omega)
    have HV := Lib.hid hV
    have hs1 : ((s : Int) == 0) = false := by rw [beq_eq_false_iff_ne]; omega
    have hs31 : ¬ (31 : Int) < (s : Int) := by omega
    clear hV HB
    go_wp2_with (fail)
    go_loopw [10] (fun i wr => ∃ (q : Nat) (S' : Pli), q ≤ n2 ∧ i = .int .i64 (q : Int) ∧ PHas W wr p S' ∧ Served S' s 0) (fun i _ => n2 - (intOf i).toNat)
    case atStart => exact ⟨0, _, Nat.zero_le _, rfl, H3.out, HV.out⟩
    case round =>
      obtain ⟨q, S3, hq, rfl, hP, hV⟩ := hrel
      have HP := Lib.hid hP
      have HS3 := Lib.hid hV
      clear hP hV
      by_cases hqn : q < n2
      · obtain ⟨A3, cap3, he3, _, _, hc⟩ := HI.out
        injection he3 with e1 e2 e3
        subst e1 e3
        obtain ⟨b, o, rfl, hb, hcell⟩ := hc (by omega)
        obtain ⟨y, hy⟩ : ∃ y : Nat, f q = (y : Int) := ⟨(f q).toNat, by have := HF.out q hqn; omega⟩
        have hy2 : y < 4294967296 := by have := HF.out q hqn; omega
        have cq := (HP.out.below.cell (p := ⟨b, o + q, none⟩) hb).trans (hcell q hqn)
        rw [hy] at cq
        clear hc hcell hy
        go_wp2_with (fail)
        refine (HP.out.lines y hy2).mono ?_
        rintro e w4 ⟨rfl, h4, _⟩
        have H4 := Lib.hid h4
        have HS4 := Lib.hid (HS3.out.lines y)
        clear h4 HP HS3
        generalize S3.lines y = S4 at *
        have hw4 := u32_lt S4.pend
        have ht := bit_test64 (wordOf S4.pend 32) s (by omega)
        rw [(Word.self S4.pend).2 s (by omega), HS4.out.pend] at ht
        go_wp2_with (fail)
        have c1 := H4.out.of 4096
        rw [load_pend] at c1
        refine c1.mono ?_
        rintro e w5 ⟨rfl, h5, _⟩
        have H5 := Lib.hid h5
        clear h5 c1 H4
        have hne := (HS4.out.claim 0).2
        have HS5 := Lib.hid (HS4.out.claim 0).1
        go_wp2_with (fail)
        have c1 := H5.out.of 2097156
        rw [load_claim0] at c1
        refine c1.mono ?_
        rintro e w6 ⟨rfl, h6, _⟩
        have H6 := Lib.hid h6
        clear h6 c1 H5 ht HS4 hw4
        generalize (S4.claim 0).1 = b0 at *
        generalize (S4.claim 0).2 = S5 at *
        have hn0 : (b0 == s) = false := beq_eq_false_iff_ne.2 hne
        have hn1 : (((b0 : Nat) : Int) == ((s : Nat) : Int)) = false := beq_eq_false_iff_ne.2 (by omega)
        clear hne
        have hne := (HS5.out.claim 1).2
        have HS6 := Lib.hid (HS5.out.claim 1).1
        go_wp2_with (fail)
        have c1 := H6.out.of 2101252
        rw [load_claim1] at c1
        refine c1.mono ?_
        rintro e w7 ⟨rfl, h7, _⟩
        have H7 := Lib.hid h7
        clear h7 c1 H6 HS5
        generalize (S5.claim 1).1 = b1 at *
        generalize (S5.claim 1).2 = S6 at *
        have hm0 : (b1 == s) = false := beq_eq_false_iff_ne.2 hne
        have hm1 : (((b1 : Nat) : Int) == ((s : Nat) : Int)) = false := beq_eq_false_iff_ne.2 (by omega)
        clear hne
        go_wp2
        go_roundw
        case rel => exact ⟨q + 1, S6, by omega, by go_num, H7.out, HS6.out⟩
        case measure => simp [intOf]; omega
      · obtain rfl : q = n2 := by omega
        obtain ⟨v, hv⟩ : ∃ v, v = s + 1099511627776 := ⟨_, rfl⟩
        have hvs : (s : Int) + 1099511627776 = ((v : Nat) : Int) := by omega
        have hvm : v % 4294967296 = s := by omega
        have hvl : v < 18446744073709551616 := by omega
        clear hv
        have HVM := Lib.hid hvm
        clear hvm
        go_wp2_with (fail)
        refine (HP.out.store 2097156 4 v hvl).mono ?_
        rintro e w4 ⟨rfl, h4, _⟩
        change PHas W w4 p (S3.complete 0 v) at h4
        have H4 := Lib.hid h4
        clear h4 HP hvs
        have hd := served_done HS3.out HVM.out
        have HD2 := Lib.hid hd
        have h2s : 2 ^ s < 4294967296 := (word_bit (s := s) (by omega)).1
        have c1 := H4.out.lines (2 ^ s) h2s
        rw [two_cast] at c1
        have C1 := Lib.hid c1
        have h1 : IntKind.u32.wrap ((2 : Int) ^ s) = (2 : Int) ^ s := by rw [one_shl s (by omega), two_cast]
        clear hd c1 H4
        generalize (S3.complete 0 v).lines (2 ^ s) = S4 at *
        go_wp2_with (fail)
        refine C1.out.mono ?_
        rintro e w5 ⟨rfl, h5, _⟩
        have H5 := Lib.hid h5
        clear h5 C1 h1
        have hw4 := u32_lt S4.pend
        have ht := bit_test64 (wordOf S4.pend 32) s (by omega)
        rw [(Word.self S4.pend).2 s (by omega), HD2.out] at ht
        go_wp2_with (fail)
        have c1 := H5.out.of 4096
        rw [load_pend] at c1
        refine c1.mono ?_
        rintro e w6 ⟨rfl, h6, _⟩
        have H6 := Lib.hid h6
        clear h6 c1 H5
        go_wp2_with (fail)
        refine (works_any _).mono ?_
        rintro e w8 ⟨rfl, hb8⟩
        have hb := H6.out.below.trans (hb8.mono H6.out.below.size)
        go_wp2
        go_ret
        exact ⟨rfl, hb⟩

set_option maxHeartbeats 2000000 in
set_option maxRecDepth 100000 in
theorem once_1 (A : Option Addr) (n cap : Nat) (L : Nat → OpV) (vb : Value) (n2 : Nat) (f : Nat → Int) (W : World) (hn : n ≤ 300) (hn2 : n2 ≤ 100) (hL : OpsAt W A n L) (hI : Ints W .u32 vb n2 f) (hf : ∀ i, i < n2 → 0 ≤ f i ∧ f i < 4294967296) :
    Calls Try.prog 18 #[.slice A n cap, .bool true, vb] W (Ends (.bool true) fun w' => Below W.heap.size W w') := by
  have hD := done_any A n cap L W hn hL
  have HD := Lib.hid hD
  have HI := Lib.hid hI
  have HF := Lib.hid hf
  obtain ⟨A2, cap2, rfl, _, _, _⟩ := hI
  clear hD hL hf
  go_enter Try.func18, Try.ntmps18
  go_wp2_with (fail)
  refine HD.out.mono ?_
  rintro e w1 ⟨S, rfl, h1⟩
  have HS := Lib.hid h1
  clear h1
  obtain ⟨p, hp⟩ : ∃ p, p = W.heap.size := ⟨_, rfl⟩
  rw [← hp] at HS
  rw [← hp]
  have HPW := Lib.hid hp
  clear hp
  go_wp2_with (fail)
  refine (HS.out.lines 4294967295 (by decide)).mono ?_
  rintro e w2 ⟨rfl, h2, _⟩
  have H2 := Lib.hid h2
  clear h2 HS
  generalize S.lines 4294967295 = S1 at *
  go_wp2_with (fail)
  have c1 := H2.out.of 2101252
  rw [load_claim1] at c1
  refine c1.mono ?_
  rintro e w3 ⟨rfl, h3, _⟩
  have H3 := Lib.hid h3
  clear h3 c1 H2
  have hlt := S1.claim_lt 1
  have hserved := served_born S1 1
  have HB := Lib.hid hserved
  clear hserved
  generalize (S1.claim 1).1 = s at *
  generalize (S1.claim 1).2 = S2 at *
  by_cases hs0 : s = 0
  · subst hs0
    go_wp2_with (fail)
    refine (works_any _).mono ?_
    rintro e w7 ⟨rfl, hb7⟩
    have hb := H3.out.below.trans (hb7.mono H3.out.below.size)
    go_wp2
    go_ret
    exact ⟨rfl, hb⟩
  · have hV : Served S2 s 1 := HB.out (by omega)
    have HV := Lib.hid hV
    have hs1 : ((s : Int) == 0) = false := by rw [beq_eq_false_iff_ne]; omega
    have hs31 : ¬ (31 : Int) < (s : Int) := by omega
    clear hV HB
    go_wp2_with (fail)
    go_loopw [10] (fun i wr => ∃ (q : Nat) (S' : Pli), q ≤ n2 ∧ i = .int .i64 (q : Int) ∧ PHas W wr p S' ∧ Served S' s 1) (fun i _ => n2 - (intOf i).toNat)
    case atStart => exact ⟨0, _, Nat.zero_le _, rfl, H3.out, HV.out⟩
    case round =>
      obtain ⟨q, S3, hq, rfl, hP, hV⟩ := hrel
      have HP := Lib.hid hP
      have HS3 := Lib.hid hV
      clear hP hV
      by_cases hqn : q < n2
      · obtain ⟨A3, cap3, he3, _, _, hc⟩ := HI.out
        injection he3 with e1 e2 e3
        subst e1 e3
        obtain ⟨b, o, rfl, hb, hcell⟩ := hc (by omega)
        obtain ⟨y, hy⟩ : ∃ y : Nat, f q = (y : Int) := ⟨(f q).toNat, by have := HF.out q hqn; omega⟩
        have hy2 : y < 4294967296 := by have := HF.out q hqn; omega
        have cq := (HP.out.below.cell (p := ⟨b, o + q, none⟩) hb).trans (hcell q hqn)
        rw [hy] at cq
        clear hc hcell hy
        go_wp2_with (fail)
        refine (HP.out.lines y hy2).mono ?_
        rintro e w4 ⟨rfl, h4, _⟩
        have H4 := Lib.hid h4
        have HS4 := Lib.hid (HS3.out.lines y)
        clear h4 HP HS3
        generalize S3.lines y = S4 at *
        have hw4 := u32_lt S4.pend
        have ht := bit_test64 (wordOf S4.pend 32) s (by omega)
        rw [(Word.self S4.pend).2 s (by omega), HS4.out.pend] at ht
        go_wp2_with (fail)
        have c1 := H4.out.of 4096
        rw [load_pend] at c1
        refine c1.mono ?_
        rintro e w5 ⟨rfl, h5, _⟩
        have H5 := Lib.hid h5
        clear h5 c1 H4
        have hne := (HS4.out.claim 0).2
        have HS5 := Lib.hid (HS4.out.claim 0).1
        go_wp2_with (fail)
        have c1 := H5.out.of 2097156
        rw [load_claim0] at c1
        refine c1.mono ?_
        rintro e w6 ⟨rfl, h6, _⟩
        have H6 := Lib.hid h6
        clear h6 c1 H5 ht HS4 hw4
        generalize (S4.claim 0).1 = b0 at *
        generalize (S4.claim 0).2 = S5 at *
        have hn0 : (b0 == s) = false := beq_eq_false_iff_ne.2 hne
        have hn1 : (((b0 : Nat) : Int) == ((s : Nat) : Int)) = false := beq_eq_false_iff_ne.2 (by omega)
        clear hne
        have hne := (HS5.out.claim 1).2
        have HS6 := Lib.hid (HS5.out.claim 1).1
        go_wp2_with (fail)
        have c1 := H6.out.of 2101252
        rw [load_claim1] at c1
        refine c1.mono ?_
        rintro e w7 ⟨rfl, h7, _⟩
        have H7 := Lib.hid h7
        clear h7 c1 H6 HS5
        generalize (S5.claim 1).1 = b1 at *
        generalize (S5.claim 1).2 = S6 at *
        have hm0 : (b1 == s) = false := beq_eq_false_iff_ne.2 hne
        have hm1 : (((b1 : Nat) : Int) == ((s : Nat) : Int)) = false := beq_eq_false_iff_ne.2 (by omega)
        clear hne
        go_wp2
        go_roundw
        case rel => exact ⟨q + 1, S6, by omega, by go_num, H7.out, HS6.out⟩
        case measure => simp [intOf]; omega
      · obtain rfl : q = n2 := by omega
        obtain ⟨v, hv⟩ : ∃ v, v = s + 1099511627776 := ⟨_, rfl⟩
        have hvs : (s : Int) + 1099511627776 = ((v : Nat) : Int) := by omega
        have hvm : v % 4294967296 = s := by omega
        have hvl : v < 18446744073709551616 := by omega
        clear hv
        have HVM := Lib.hid hvm
        clear hvm
        go_wp2_with (fail)
        refine (HP.out.store 2101252 4 v hvl).mono ?_
        rintro e w4 ⟨rfl, h4, _⟩
        change PHas W w4 p (S3.complete 1 v) at h4
        have H4 := Lib.hid h4
        clear h4 HP hvs
        have hd := served_done HS3.out HVM.out
        have HD2 := Lib.hid hd
        have h2s : 2 ^ s < 4294967296 := (word_bit (s := s) (by omega)).1
        have c1 := H4.out.lines (2 ^ s) h2s
        rw [two_cast] at c1
        have C1 := Lib.hid c1
        have h1 : IntKind.u32.wrap ((2 : Int) ^ s) = (2 : Int) ^ s := by rw [one_shl s (by omega), two_cast]
        clear hd c1 H4
        generalize (S3.complete 1 v).lines (2 ^ s) = S4 at *
        go_wp2_with (fail)
        refine C1.out.mono ?_
        rintro e w5 ⟨rfl, h5, _⟩
        have H5 := Lib.hid h5
        clear h5 C1 h1
        have hw4 := u32_lt S4.pend
        have ht := bit_test64 (wordOf S4.pend 32) s (by omega)
        rw [(Word.self S4.pend).2 s (by omega), HD2.out] at ht
        go_wp2_with (fail)
        have c1 := H5.out.of 4096
        rw [load_pend] at c1
        refine c1.mono ?_
        rintro e w6 ⟨rfl, h6, _⟩
        have H6 := Lib.hid h6
        clear h6 c1 H5
        go_wp2_with (fail)
        refine (works_any _).mono ?_
        rintro e w8 ⟨rfl, hb8⟩
        have hb := H6.out.below.trans (hb8.mono H6.out.below.size)
        go_wp2
        go_ret
        exact ⟨rfl, hb⟩

end Go.Proofs.Ytjkbemonedohjaa
