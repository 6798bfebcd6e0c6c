/- PlicRegisters returns true at any calls, offset, size and number. Condition: the calls lie in memory. -/
import Derived.Test.YtjkbemonedohjaaPlicG
import Derived.Test.YtjkbemonedohjaaLook
namespace Go.Proofs.Ytjkbemonedohjaa
open Go.RowKit Go.ChangeShapes Go.WideShapes Go.Deep
attribute [local go_sem ↓] Go.wp_at_zero Go.wp_at_succ
attribute [local irreducible] wordOf

theorem info_int : (Try.prog.info? 3).map (fun i => (i.zero, i.size, i.bytes)) = some (some (.int .i64 0), 1, 8) := by kernel_rfl
theorem info_u64 : (Try.prog.info? 28).map (fun i => (i.zero, i.size, i.bytes)) = some (some (.int .u64 0), 1, 8) := by kernel_rfl

theorem PHas.grown {W w w' : World} {p : Nat} {S : Pli} (h : PHas W w p S) {row : Option Nat} (hg : w.grownBy w' row) (hr : ∀ k, row = some k → W.heap.size ≤ k ∧ k ≠ p) : PHas W w' p S :=
  h.keep (F := fun k => row = some k) ((Mod.refl _ w).grown hg fun _ hk => .inl hk) (fun k hk => (hr k hk).1) (fun hk => (hr p hk).2 rfl)

set_option maxHeartbeats 16000000 in
set_option maxRecDepth 100000 in
theorem regs_any (A : Option Addr) (n cap : Nat) (L : Nat → OpV) (off size : Int) (v : Nat) (W : World) (hn : n ≤ 300) (hv : v < 18446744073709551616) (hL : OpsAt W A n L) :
    Calls Try.prog 16 #[.slice A n cap, .int .i64 off, .int .i64 size, .int .u64 (v : Int)] W (Ends (.bool true) fun w' => Below W.heap.size W w') := by
  have hD := done_any A n cap L W hn hL
  obtain ⟨i0, hi, hz0, hz1, hz2⟩ := info_parts info_int
  obtain ⟨j0, hj, hy0, hy1, hy2⟩ := info_parts info_u64
  have HD := Lib.hid hD
  clear hD hL
  go_enter Try.func16, Try.ntmps16
  go_wp2_with (fail)
  refine HD.out.mono ?_
  rintro e w1 ⟨S, rfl, h1⟩
  have HS := Lib.hid h1
  have hplt := h1.plic.lt
  clear h1
  obtain ⟨p, hp⟩ : ∃ p, p = W.heap.size := ⟨_, rfl⟩
  rw [← hp] at HS hplt
  rw [← hp]
  have HPW := Lib.hid hp
  clear hp
  go_wp2_with (fail)
  have hrow : (w1.alloc (.cells #[.int .i64 4096, .int .i64 8192, .int .i64 8320, .int .i64 2097152, .int .i64 2101248] 3)).ownsRow (p + 1) 3 1 (.slice (some ⟨w1.heap.size, 0, none⟩) 5 5) 5 ((regL 5).map (Value.int .i64)) :=
    World.ownsRow_lit w1 #[.int .i64 4096, .int .i64 8192, .int .i64 8320, .int .i64 2097152, .int .i64 2101248] 5 (by omega) (by decide) rfl
  have HR := Lib.hid hrow
  have HS2 := Lib.hid (HS.out.nil ((Mod.refl Nil w1).alloc (.cells #[.int .i64 4096, .int .i64 8192, .int .i64 8320, .int .i64 2097152, .int .i64 2101248] 3)))
  clear hrow
  have hz1p : p + 1 ≤ w1.heap.size := by omega
  generalize w1.alloc (.cells #[.int .i64 4096, .int .i64 8192, .int .i64 8320, .int .i64 2097152, .int .i64 2101248] 3) = w2 at *
  go_loopw [11, 12] (fun vr i wr => ∃ q : Nat, q ≤ 32 ∧ i = .int .i64 (q : Int) ∧ wr.ownsRow (p + 1) 3 1 vr (5 + q) ((regL (5 + q)).map (Value.int .i64)) ∧ PHas W wr p S) (fun _ i _ => 32 - (intOf i).toNat)
  case atStart => exact ⟨0, Nat.zero_le _, rfl, HR.out, HS2.out⟩
  case round =>
    obtain ⟨q, hq, rfl, ho, hP⟩ := hrel
    have HO := Lib.hid ho
    have HP := Lib.hid hP
    clear ho hP
    by_cases hqn : q < 32
    · have hlw := HP.out.plic.lt
      go_wp2_with (at_builtin; refine wpList_append_lies _ rfl _ _ 38 rfl (p + 1) 3 i0 (.int .i64 0) 1 8 Try.underlying38 hi hz0 hz1 hz2 rfl (by decide) _ (5 + q) _ rfl (HO.out.alloc _) ⟨wr.heap.size, 0, none⟩ 1 1 [.int .i64 (4 * (q : Int))] rfl rfl ?c1 ?c2 (by decide) ?c3 ?c4 ?c5 _ rfl ?_; rotate_right; intro g' cap' w4 hown hgrow hat hlt')
      case c1 => exact cell_one_new _ _ _
      case c2 => intro u hu; rw [List.mem_singleton] at hu; subst hu; rfl
      case c3 => simp only [maxLen]; omega
      case c4 => omega
      case c5 => rw [World.size_alloc]; omega
      go_roundw
      case rel =>
        refine ⟨q + 1, by omega, by go_num, ?_, (HP.out.nil ((Mod.refl Nil _).alloc _)).grown hgrow fun k hk => ?_⟩
        · rw [show 5 + (q + 1) = 5 + q + 1 from by omega, regL_succ, List.map_append, regOf_s]
          exact hown
        · have := (HO.out.lt k hk).1
          have := HPW.out
          omega
      case measure => simp [intOf]; omega
    · rw [show ((q : Nat) : Int) = 32 from by omega]
      obtain rfl : q = 32 := by omega
      have ho := HO.out
      simp only [Nat.reduceAdd] at ho
      clear HO
      have HO := Lib.hid ho
      clear ho
      obtain ⟨g, capr, rfl, hg1, hg2⟩ := HO.out.form (by omega)
      obtain ⟨B2, hB2⟩ : ∃ B2, B2 = wr.heap.size := ⟨_, rfl⟩
      have hgB : g < B2 := by omega
      have hpB : p < B2 := by have := HP.out.plic.lt; omega
      have hpW : W.heap.size = p := HPW.out.symm
      have HPW2 := Lib.hid hpW
      have hBs : B2 ≤ wr.heap.size := by omega
      clear hpW hB2
      clear HS HS2 HR
      go_wp2_with (fail)
      go_loopw [10, 13] (fun vw i wx => ∃ q : Nat, q ≤ 37 ∧ i = .int .i64 (q : Int) ∧ wx.ownsRow B2 28 1 vw q ((hasL S q).map (Value.int .u64)) ∧ wx.ownsRow (p + 1) 3 1 (.slice (some ⟨g, 0, none⟩) 37 capr) 37 ((regL 37).map (Value.int .i64)) ∧ PHas W wx p S ∧ B2 ≤ wx.heap.size) (fun _ i _ => 37 - (intOf i).toNat)
      case atStart => exact ⟨0, Nat.zero_le _, rfl, World.ownsRow_nil _ _ _ _, HO.out, HP.out, hBs⟩
      case round =>
        obtain ⟨q, hq, rfl, ho, hreg, hP, hsz⟩ := hrel
        have HO2 := Lib.hid ho
        have HRg := Lib.hid hreg
        have HP2 := Lib.hid hP
        clear ho hreg hP
        by_cases hqn : q < 37
        · have cr := HRg.out.cellAt q (by omega)
          rw [show ((regL 37).map (Value.int .i64))[q]? = some (.int .i64 (regOf q)) from by simp [regL, List.getElem?_range hqn]] at cr
          have q0 : (0 : Int) ≤ (q : Int) := by omega
          have q1 : (q : Int) < 37 := by omega
          have c1 := HP2.out.of (regOf q)
          rw [reg_still S q hqn] at c1
          have hsu := hasL_succ S q
          have HSU := Lib.hid hsu
          clear hsu
          generalize (S.load (regOf q) 4).1.1 = y at *
          have C1 := Lib.hid c1
          clear c1
          go_wp2_with (fail)
          refine C1.out.mono ?_
          rintro e w5 ⟨rfl, h5, m5⟩
          have H5 := Lib.hid h5
          have HR5 := Lib.hid (m5.owns HRg.out (by intro k hk; have := (HRg.out.lt k hk).1; omega))
          have HO5 := Lib.hid (m5.owns HO2.out (by intro k hk; have := (HO2.out.lt _ hk).1; omega))
          have hs5 := m5.size
          clear h5 m5 C1
          go_wp2_with (at_builtin; refine wpList_append_lies _ rfl _ _ 69 rfl B2 28 j0 (.int .u64 0) 1 8 Try.underlying69 hj hy0 hy1 hy2 rfl (by decide) _ q _ rfl (HO5.out.alloc _) ⟨w5.heap.size, 0, none⟩ 1 1 [.int .u64 ((y : Nat) : Int)] rfl rfl ?d1 ?d2 (by decide) ?d3 ?d4 ?d5 _ rfl ?_; rotate_right; intro g' cap' w6 hown hgrow hat hlt')
          case d1 => exact cell_one_new _ _ _
          case d2 => intro u hu; rw [List.mem_singleton] at hu; subst hu; rfl
          case d3 => simp only [maxLen]; omega
          case d4 => omega
          case d5 => rw [World.size_alloc]; omega
          go_roundw
          case rel =>
            refine ⟨q + 1, by omega, by go_num, ?_, (HR5.out.alloc _).kept hgrow (.inr fun e => ?_), (H5.out.nil ((Mod.refl Nil _).alloc _)).grown hgrow fun k hk => ?_, ?_⟩
            · rw [HSU.out, List.map_append]
              exact hown
            · have := (HO5.out.lt g e.symm).1
              omega
            · have := (HO5.out.lt k hk).1
              have := HPW2.out
              omega
            · have := hgrow.size
              rw [World.size_alloc] at this
              omega
          case measure => simp [intOf]; omega
        · rw [show ((q : Nat) : Int) = 37 from by omega]
          obtain rfl : q = 37 := by omega
          obtain ⟨g2, cap2, rfl, hg3, hg4⟩ := HO2.out.form (by omega)
          have hst := stored_there S off size v
          have hra := reg_after S off size v
          have c1 := HP2.out.store off size v hv
          rw [hst] at c1
          obtain ⟨st, hst2⟩ : ∃ st, ((size == 4) && thereTo off size 37) = st := ⟨_, rfl⟩
          rw [hst2] at c1
          have HST := Lib.hid hst2
          clear hst2
          have HRA := Lib.hid hra
          have C1 := Lib.hid c1
          clear c1 hst hra
          generalize (S.store off size v).2 = S' at *
          go_wp2_with (fail)
          refine C1.out.mono ?_
          rintro e w5 ⟨rfl, h5, m5⟩
          have H5 := Lib.hid h5
          have HR5 := Lib.hid (m5.owns HRg.out (by intro k hk; have := (HRg.out.lt k hk).1; omega))
          have HO5 := Lib.hid (m5.owns HO2.out (by intro k hk; have := (HO2.out.lt k hk).1; omega))
          clear h5 m5 C1
          have ht0 := thereTo_zero off size
          have HT0 := Lib.hid ht0
          clear ht0
          by_cases e5 : off = 2097156
          · subst e5
            clear HT0
            go_wp2_with (fail)
            go_loopw [15, 16] (fun tb i wr => ∃ q : Nat, q ≤ 37 ∧ i = .int .i64 (q : Int) ∧ tb = .bool (thereTo 2097156 size q) ∧ wr.ownsRow (p + 1) 3 1 (.slice (some ⟨g, 0, none⟩) 37 capr) 37 ((regL 37).map (Value.int .i64)) ∧ wr.ownsRow B2 28 1 (.slice (some ⟨g2, 0, none⟩) 37 cap2) 37 ((hasL S 37).map (Value.int .u64)) ∧ PHas W wr p S') (fun _ i _ => 37 - (intOf i).toNat)
            case atStart => exact ⟨0, Nat.zero_le _, rfl, congrArg Value.bool (Eq.symm (by rw [thereTo_zero]; rfl)), HR5.out, HO5.out, H5.out⟩
            case round =>
              obtain ⟨q, hq, rfl, rfl, hreg, ho, hP⟩ := hrel
              have HRg := Lib.hid hreg
              have HOw := Lib.hid ho
              have HP3 := Lib.hid hP
              clear hreg ho hP
              by_cases hqn : q < 37
              · have cr := HRg.out.cellAt q (by omega)
                rw [show ((regL 37).map (Value.int .i64))[q]? = some (.int .i64 (regOf q)) from by simp [regL, List.getElem?_range hqn]] at cr
                have cw := HOw.out.cellAt q (by omega)
                rw [show ((hasL S 37).map (Value.int .u64))[q]? = some (.int .u64 (((S.load (regOf q) 4).1.1 : Nat) : Int)) from by simp [hasL, List.getElem?_range hqn]] at cw
                have q0 : (0 : Int) ≤ (q : Int) := by omega
                have q1 : (q : Int) < 37 := by omega
                have hc := HP3.out.of (regOf q)
                rw [HRA.out q hqn, reg_still S' q hqn] at hc
                have HC := Lib.hid hc
                have hwd : wantOf S q 2097156 size v = if size = 4 ∧ regOf q = 2097156 then (if (2097156 : Int) = 8192 ∨ (2097156 : Int) = 8320 then wordOf (fun k => v.testBit k && !(k == 0)) 32 else if (2097156 : Int) ≠ 0 ∧ (2097156 : Int) ≠ 4096 then v % 8 else (S.load (regOf q) 4).1.1) else (S.load (regOf q) 4).1.1 := rfl
                have hrk : regOf q ≠ 2097156 ∧ regOf q ≠ 2101252 := by rcases reg_kind q hqn with ⟨_, e⟩ | ⟨_, e⟩ | ⟨_, e⟩ | ⟨_, e⟩ | ⟨_, e⟩ | ⟨s, hs, _, e⟩ <;> omega
                clear hc
                obtain ⟨r, hr⟩ : ∃ r, regOf q = r := ⟨_, rfl⟩
                obtain ⟨y, hy⟩ : ∃ y, (S.load (regOf q) 4).1.1 = y := ⟨_, rfl⟩
                rw [hy] at cw hwd
                rw [hr] at cr hrk HC hwd
                have HRE := Lib.hid hr
                clear hr hy
                by_cases hs4 : size = 4
                · subst hs4
                  have hfact : (r == 2097156) = false := beq_eq_false_iff_ne.2 hrk.1
                  have hwa : wantOf S q 2097156 4 v = y := by rw [hwd]; exact if_neg (fun x => hrk.1 x.2)
                  rw [hwa] at HC
                  have C1 := HC
                  have HTH := Lib.hid (show thereTo 2097156 4 (q + 1) = thereTo 2097156 4 q from by rw [thereTo_succ, HRE.out]; simp [hfact])
                  clear hwa HC hwd
                  generalize thereTo 2097156 4 q = tb at *
                  go_wp2_with (fail)
                  refine C1.out.mono ?_
                  rintro e w6 ⟨rfl, h6, m6⟩
                  have H6 := Lib.hid h6
                  have HR6 := Lib.hid (m6.owns HRg.out (by intro k hk; have := (HRg.out.lt k hk).1; have := HPW2.out; omega))
                  have HO6 := Lib.hid (m6.owns HOw.out (by intro k hk; have := (HOw.out.lt k hk).1; omega))
                  clear h6 m6 C1
                  go_wp2
                  go_roundw
                  case rel => exact ⟨q + 1, by omega, by go_num, by rw [HTH.out], HR6.out, HO6.out, H6.out⟩
                  case measure => simp [intOf]; omega
                · skip
                  have hfact : (size == 4) = false := beq_eq_false_iff_ne.2 hs4
                  have hwa : wantOf S q 2097156 size v = y := by rw [hwd]; exact if_neg (fun x => hs4 x.1)
                  rw [hwa] at HC
                  have C1 := HC
                  have HTH := Lib.hid (show thereTo 2097156 size (q + 1) = thereTo 2097156 size q from by rw [thereTo_succ, HRE.out]; simp [hfact])
                  clear hwa HC hwd
                  generalize thereTo 2097156 size q = tb at *
                  go_wp2_with (fail)
                  refine C1.out.mono ?_
                  rintro e w6 ⟨rfl, h6, m6⟩
                  have H6 := Lib.hid h6
                  have HR6 := Lib.hid (m6.owns HRg.out (by intro k hk; have := (HRg.out.lt k hk).1; have := HPW2.out; omega))
                  have HO6 := Lib.hid (m6.owns HOw.out (by intro k hk; have := (HOw.out.lt k hk).1; omega))
                  clear h6 m6 C1
                  go_wp2
                  go_roundw
                  case rel => exact ⟨q + 1, by omega, by go_num, by rw [HTH.out], HR6.out, HO6.out, H6.out⟩
                  case measure => simp [intOf]; omega
              · rw [show ((q : Nat) : Int) = 37 from by omega]
                obtain rfl : q = 37 := by omega
                by_cases hs4 : size = 4
                · subst hs4
                  have hst3 : thereTo 2097156 4 37 = st := by have := HST.out; simpa using this
                  rw [hst3]
                  clear hst3 HST
                  rcases st with _ | _
                  all_goals
                    go_wp2_with (fail)
                    refine (works_any _).mono ?_
                    rintro e w8 ⟨rfl, hb8⟩
                    have hb := HP3.out.below.trans (hb8.mono HP3.out.below.size)
                    go_wp2
                    go_ret
                    exact ⟨rfl, hb⟩
                · have hfact : (size == 4) = false := beq_eq_false_iff_ne.2 hs4
                  obtain rfl : false = st := by have := HST.out; rw [hfact] at this; simpa using this
                  clear HST
                  go_wp2_with (fail)
                  refine (works_any _).mono ?_
                  rintro e w8 ⟨rfl, hb8⟩
                  have hb := HP3.out.below.trans (hb8.mono HP3.out.below.size)
                  go_wp2
                  go_ret
                  exact ⟨rfl, hb⟩
          · by_cases e6 : off = 2101252
            · subst e6
              clear HT0
              go_wp2_with (fail)
              go_loopw [15, 16] (fun tb i wr => ∃ q : Nat, q ≤ 37 ∧ i = .int .i64 (q : Int) ∧ tb = .bool (thereTo 2101252 size q) ∧ wr.ownsRow (p + 1) 3 1 (.slice (some ⟨g, 0, none⟩) 37 capr) 37 ((regL 37).map (Value.int .i64)) ∧ wr.ownsRow B2 28 1 (.slice (some ⟨g2, 0, none⟩) 37 cap2) 37 ((hasL S 37).map (Value.int .u64)) ∧ PHas W wr p S') (fun _ i _ => 37 - (intOf i).toNat)
              case atStart => exact ⟨0, Nat.zero_le _, rfl, congrArg Value.bool (Eq.symm (by rw [thereTo_zero]; rfl)), HR5.out, HO5.out, H5.out⟩
              case round =>
                obtain ⟨q, hq, rfl, rfl, hreg, ho, hP⟩ := hrel
                have HRg := Lib.hid hreg
                have HOw := Lib.hid ho
                have HP3 := Lib.hid hP
                clear hreg ho hP
                by_cases hqn : q < 37
                · have cr := HRg.out.cellAt q (by omega)
                  rw [show ((regL 37).map (Value.int .i64))[q]? = some (.int .i64 (regOf q)) from by simp [regL, List.getElem?_range hqn]] at cr
                  have cw := HOw.out.cellAt q (by omega)
                  rw [show ((hasL S 37).map (Value.int .u64))[q]? = some (.int .u64 (((S.load (regOf q) 4).1.1 : Nat) : Int)) from by simp [hasL, List.getElem?_range hqn]] at cw
                  have q0 : (0 : Int) ≤ (q : Int) := by omega
                  have q1 : (q : Int) < 37 := by omega
                  have hc := HP3.out.of (regOf q)
                  rw [HRA.out q hqn, reg_still S' q hqn] at hc
                  have HC := Lib.hid hc
                  have hwd : wantOf S q 2101252 size v = if size = 4 ∧ regOf q = 2101252 then (if (2101252 : Int) = 8192 ∨ (2101252 : Int) = 8320 then wordOf (fun k => v.testBit k && !(k == 0)) 32 else if (2101252 : Int) ≠ 0 ∧ (2101252 : Int) ≠ 4096 then v % 8 else (S.load (regOf q) 4).1.1) else (S.load (regOf q) 4).1.1 := rfl
                  have hrk : regOf q ≠ 2097156 ∧ regOf q ≠ 2101252 := by rcases reg_kind q hqn with ⟨_, e⟩ | ⟨_, e⟩ | ⟨_, e⟩ | ⟨_, e⟩ | ⟨_, e⟩ | ⟨s, hs, _, e⟩ <;> omega
                  clear hc
                  obtain ⟨r, hr⟩ : ∃ r, regOf q = r := ⟨_, rfl⟩
                  obtain ⟨y, hy⟩ : ∃ y, (S.load (regOf q) 4).1.1 = y := ⟨_, rfl⟩
                  rw [hy] at cw hwd
                  rw [hr] at cr hrk HC hwd
                  have HRE := Lib.hid hr
                  clear hr hy
                  by_cases hs4 : size = 4
                  · subst hs4
                    have hfact : (r == 2101252) = false := beq_eq_false_iff_ne.2 hrk.2
                    have hwa : wantOf S q 2101252 4 v = y := by rw [hwd]; exact if_neg (fun x => hrk.2 x.2)
                    rw [hwa] at HC
                    have C1 := HC
                    have HTH := Lib.hid (show thereTo 2101252 4 (q + 1) = thereTo 2101252 4 q from by rw [thereTo_succ, HRE.out]; simp [hfact])
                    clear hwa HC hwd
                    generalize thereTo 2101252 4 q = tb at *
                    go_wp2_with (fail)
                    refine C1.out.mono ?_
                    rintro e w6 ⟨rfl, h6, m6⟩
                    have H6 := Lib.hid h6
                    have HR6 := Lib.hid (m6.owns HRg.out (by intro k hk; have := (HRg.out.lt k hk).1; have := HPW2.out; omega))
                    have HO6 := Lib.hid (m6.owns HOw.out (by intro k hk; have := (HOw.out.lt k hk).1; omega))
                    clear h6 m6 C1
                    go_wp2
                    go_roundw
                    case rel => exact ⟨q + 1, by omega, by go_num, by rw [HTH.out], HR6.out, HO6.out, H6.out⟩
                    case measure => simp [intOf]; omega
                  · skip
                    have hfact : (size == 4) = false := beq_eq_false_iff_ne.2 hs4
                    have hwa : wantOf S q 2101252 size v = y := by rw [hwd]; exact if_neg (fun x => hs4 x.1)
                    rw [hwa] at HC
                    have C1 := HC
                    have HTH := Lib.hid (show thereTo 2101252 size (q + 1) = thereTo 2101252 size q from by rw [thereTo_succ, HRE.out]; simp [hfact])
                    clear hwa HC hwd
                    generalize thereTo 2101252 size q = tb at *
                    go_wp2_with (fail)
                    refine C1.out.mono ?_
                    rintro e w6 ⟨rfl, h6, m6⟩
                    have H6 := Lib.hid h6
                    have HR6 := Lib.hid (m6.owns HRg.out (by intro k hk; have := (HRg.out.lt k hk).1; have := HPW2.out; omega))
                    have HO6 := Lib.hid (m6.owns HOw.out (by intro k hk; have := (HOw.out.lt k hk).1; omega))
                    clear h6 m6 C1
                    go_wp2
                    go_roundw
                    case rel => exact ⟨q + 1, by omega, by go_num, by rw [HTH.out], HR6.out, HO6.out, H6.out⟩
                    case measure => simp [intOf]; omega
                · rw [show ((q : Nat) : Int) = 37 from by omega]
                  obtain rfl : q = 37 := by omega
                  by_cases hs4 : size = 4
                  · subst hs4
                    have hst3 : thereTo 2101252 4 37 = st := by have := HST.out; simpa using this
                    rw [hst3]
                    clear hst3 HST
                    rcases st with _ | _
                    all_goals
                      go_wp2_with (fail)
                      refine (works_any _).mono ?_
                      rintro e w8 ⟨rfl, hb8⟩
                      have hb := HP3.out.below.trans (hb8.mono HP3.out.below.size)
                      go_wp2
                      go_ret
                      exact ⟨rfl, hb⟩
                  · have hfact : (size == 4) = false := beq_eq_false_iff_ne.2 hs4
                    obtain rfl : false = st := by have := HST.out; rw [hfact] at this; simpa using this
                    clear HST
                    go_wp2_with (fail)
                    refine (works_any _).mono ?_
                    rintro e w8 ⟨rfl, hb8⟩
                    have hb := HP3.out.below.trans (hb8.mono HP3.out.below.size)
                    go_wp2
                    go_ret
                    exact ⟨rfl, hb⟩
            · have f5 : (off == 2097156) = false := beq_eq_false_iff_ne.2 e5
              have f6 : (off == 2101252) = false := beq_eq_false_iff_ne.2 e6
              clear e5 e6
              clear HT0
              go_wp2_with (fail)
              go_loopw [15, 16] (fun tb i wr => ∃ q : Nat, q ≤ 37 ∧ i = .int .i64 (q : Int) ∧ tb = .bool (thereTo off size q) ∧ wr.ownsRow (p + 1) 3 1 (.slice (some ⟨g, 0, none⟩) 37 capr) 37 ((regL 37).map (Value.int .i64)) ∧ wr.ownsRow B2 28 1 (.slice (some ⟨g2, 0, none⟩) 37 cap2) 37 ((hasL S 37).map (Value.int .u64)) ∧ PHas W wr p S') (fun _ i _ => 37 - (intOf i).toNat)
              case atStart => exact ⟨0, Nat.zero_le _, rfl, congrArg Value.bool (Eq.symm (by rw [thereTo_zero, f5, f6]; rfl)), HR5.out, HO5.out, H5.out⟩
              case round =>
                obtain ⟨q, hq, rfl, rfl, hreg, ho, hP⟩ := hrel
                have HRg := Lib.hid hreg
                have HOw := Lib.hid ho
                have HP3 := Lib.hid hP
                clear hreg ho hP
                by_cases hqn : q < 37
                · have cr := HRg.out.cellAt q (by omega)
                  rw [show ((regL 37).map (Value.int .i64))[q]? = some (.int .i64 (regOf q)) from by simp [regL, List.getElem?_range hqn]] at cr
                  have cw := HOw.out.cellAt q (by omega)
                  rw [show ((hasL S 37).map (Value.int .u64))[q]? = some (.int .u64 (((S.load (regOf q) 4).1.1 : Nat) : Int)) from by simp [hasL, List.getElem?_range hqn]] at cw
                  have q0 : (0 : Int) ≤ (q : Int) := by omega
                  have q1 : (q : Int) < 37 := by omega
                  have hc := HP3.out.of (regOf q)
                  rw [HRA.out q hqn, reg_still S' q hqn] at hc
                  have HC := Lib.hid hc
                  have hwd : wantOf S q off size v = if size = 4 ∧ regOf q = off then (if (off : Int) = 8192 ∨ (off : Int) = 8320 then wordOf (fun k => v.testBit k && !(k == 0)) 32 else if (off : Int) ≠ 0 ∧ (off : Int) ≠ 4096 then v % 8 else (S.load (regOf q) 4).1.1) else (S.load (regOf q) 4).1.1 := rfl
                  have hrk : regOf q ≠ 2097156 ∧ regOf q ≠ 2101252 := by rcases reg_kind q hqn with ⟨_, e⟩ | ⟨_, e⟩ | ⟨_, e⟩ | ⟨_, e⟩ | ⟨_, e⟩ | ⟨s, hs, _, e⟩ <;> omega
                  clear hc
                  obtain ⟨r, hr⟩ : ∃ r, regOf q = r := ⟨_, rfl⟩
                  obtain ⟨y, hy⟩ : ∃ y, (S.load (regOf q) 4).1.1 = y := ⟨_, rfl⟩
                  rw [hy] at cw hwd
                  rw [hr] at cr hrk HC hwd
                  have HRE := Lib.hid hr
                  clear hr hy
                  by_cases hs4 : size = 4
                  · subst hs4
                    by_cases hro : r = off
                    · subst hro
                      have hz : (v : Int) % 4294967296 = ((v % 4294967296 : Nat) : Int) := by omega
                      have hno : bits BinOp.andNot IntKind.u64 ((v % 4294967296 : Nat) : Int) 1 = ((wordOf (fun k => v.testBit k && !(k == 0)) 32 : Nat) : Int) := w64_andNot (word_mod v) word_one
                      have hm8 : (v : Int) % 8 = ((v % 8 : Nat) : Int) := by omega
                      generalize wordOf (fun k => v.testBit k && !(k == 0)) 32 = z at *
                      generalize v % 4294967296 = vm at *
                      generalize v % 8 = v8 at *
                      by_cases g1 : r = 8192
                      · subst g1
                        have hwa : wantOf S q 8192 4 v = z := by rw [hwd, if_pos ⟨rfl, rfl⟩, if_pos (.inl rfl)]
                        rw [hwa] at HC
                        have C1 := HC
                        have HTH := Lib.hid (show thereTo 8192 4 (q + 1) = true from by rw [thereTo_succ, HRE.out]; simp)
                        clear hwa HC hwd
                        generalize thereTo 8192 4 q = tb at *
                        go_wp2_with (fail)
                        refine C1.out.mono ?_
                        rintro e w6 ⟨rfl, h6, m6⟩
                        have H6 := Lib.hid h6
                        have HR6 := Lib.hid (m6.owns HRg.out (by intro k hk; have := (HRg.out.lt k hk).1; have := HPW2.out; omega))
                        have HO6 := Lib.hid (m6.owns HOw.out (by intro k hk; have := (HOw.out.lt k hk).1; omega))
                        clear h6 m6 C1
                        go_wp2
                        go_roundw
                        case rel => exact ⟨q + 1, by omega, by go_num, by rw [HTH.out], HR6.out, HO6.out, H6.out⟩
                        case measure => simp [intOf]; omega
                      · by_cases g2 : r = 8320
                        · subst g2
                          have hwa : wantOf S q 8320 4 v = z := by rw [hwd, if_pos ⟨rfl, rfl⟩, if_pos (.inr rfl)]
                          rw [hwa] at HC
                          have C1 := HC
                          have HTH := Lib.hid (show thereTo 8320 4 (q + 1) = true from by rw [thereTo_succ, HRE.out]; simp)
                          clear hwa HC hwd
                          generalize thereTo 8320 4 q = tb at *
                          go_wp2_with (fail)
                          refine C1.out.mono ?_
                          rintro e w6 ⟨rfl, h6, m6⟩
                          have H6 := Lib.hid h6
                          have HR6 := Lib.hid (m6.owns HRg.out (by intro k hk; have := (HRg.out.lt k hk).1; have := HPW2.out; omega))
                          have HO6 := Lib.hid (m6.owns HOw.out (by intro k hk; have := (HOw.out.lt k hk).1; omega))
                          clear h6 m6 C1
                          go_wp2
                          go_roundw
                          case rel => exact ⟨q + 1, by omega, by go_num, by rw [HTH.out], HR6.out, HO6.out, H6.out⟩
                          case measure => simp [intOf]; omega
                        · have b1 : (r == 8192) = false := beq_eq_false_iff_ne.2 g1
                          have b2 : (r == 8320) = false := beq_eq_false_iff_ne.2 g2
                          by_cases g3 : r = 0
                          · subst g3
                            have hwa : wantOf S q 0 4 v = y := by rw [hwd, if_pos ⟨rfl, rfl⟩, if_neg (by omega), if_neg (by omega)]
                            rw [hwa] at HC
                            have C1 := HC
                            have HTH := Lib.hid (show thereTo 0 4 (q + 1) = true from by rw [thereTo_succ, HRE.out]; simp)
                            clear hwa HC hwd
                            generalize thereTo 0 4 q = tb at *
                            go_wp2_with (fail)
                            refine C1.out.mono ?_
                            rintro e w6 ⟨rfl, h6, m6⟩
                            have H6 := Lib.hid h6
                            have HR6 := Lib.hid (m6.owns HRg.out (by intro k hk; have := (HRg.out.lt k hk).1; have := HPW2.out; omega))
                            have HO6 := Lib.hid (m6.owns HOw.out (by intro k hk; have := (HOw.out.lt k hk).1; omega))
                            clear h6 m6 C1
                            go_wp2
                            go_roundw
                            case rel => exact ⟨q + 1, by omega, by go_num, by rw [HTH.out], HR6.out, HO6.out, H6.out⟩
                            case measure => simp [intOf]; omega
                          · by_cases g4 : r = 4096
                            · subst g4
                              have hwa : wantOf S q 4096 4 v = y := by rw [hwd, if_pos ⟨rfl, rfl⟩, if_neg (by omega), if_neg (by omega)]
                              rw [hwa] at HC
                              have C1 := HC
                              have HTH := Lib.hid (show thereTo 4096 4 (q + 1) = true from by rw [thereTo_succ, HRE.out]; simp)
                              clear hwa HC hwd
                              generalize thereTo 4096 4 q = tb at *
                              go_wp2_with (fail)
                              refine C1.out.mono ?_
                              rintro e w6 ⟨rfl, h6, m6⟩
                              have H6 := Lib.hid h6
                              have HR6 := Lib.hid (m6.owns HRg.out (by intro k hk; have := (HRg.out.lt k hk).1; have := HPW2.out; omega))
                              have HO6 := Lib.hid (m6.owns HOw.out (by intro k hk; have := (HOw.out.lt k hk).1; omega))
                              clear h6 m6 C1
                              go_wp2
                              go_roundw
                              case rel => exact ⟨q + 1, by omega, by go_num, by rw [HTH.out], HR6.out, HO6.out, H6.out⟩
                              case measure => simp [intOf]; omega
                            · have b3 : (r != 0) = true := bne_iff_ne.2 g3
                              have b4 : (r != 4096) = true := bne_iff_ne.2 g4
                              have hwa : wantOf S q r 4 v = v8 := by rw [hwd, if_pos ⟨rfl, rfl⟩, if_neg (by omega), if_pos ⟨g3, g4⟩]
                              rw [hwa] at HC
                              have C1 := HC
                              have HTH := Lib.hid (show thereTo r 4 (q + 1) = true from by rw [thereTo_succ, HRE.out]; simp)
                              clear hwa HC hwd
                              generalize thereTo r 4 q = tb at *
                              clear g1 g2 g3 g4
                              go_wp2_with (fail)
                              refine C1.out.mono ?_
                              rintro e w6 ⟨rfl, h6, m6⟩
                              have H6 := Lib.hid h6
                              have HR6 := Lib.hid (m6.owns HRg.out (by intro k hk; have := (HRg.out.lt k hk).1; have := HPW2.out; omega))
                              have HO6 := Lib.hid (m6.owns HOw.out (by intro k hk; have := (HOw.out.lt k hk).1; omega))
                              clear h6 m6 C1
                              go_wp2
                              go_roundw
                              case rel => exact ⟨q + 1, by omega, by go_num, by rw [HTH.out], HR6.out, HO6.out, H6.out⟩
                              case measure => simp [intOf]; omega
                    · skip
                      have hfact : (r == off) = false := beq_eq_false_iff_ne.2 hro
                      have hwa : wantOf S q off 4 v = y := by rw [hwd]; exact if_neg (fun x => hro x.2)
                      rw [hwa] at HC
                      have C1 := HC
                      have HTH := Lib.hid (show thereTo off 4 (q + 1) = thereTo off 4 q from by rw [thereTo_succ, HRE.out]; simp [hfact])
                      clear hwa HC hwd
                      generalize thereTo off 4 q = tb at *
                      go_wp2_with (fail)
                      refine C1.out.mono ?_
                      rintro e w6 ⟨rfl, h6, m6⟩
                      have H6 := Lib.hid h6
                      have HR6 := Lib.hid (m6.owns HRg.out (by intro k hk; have := (HRg.out.lt k hk).1; have := HPW2.out; omega))
                      have HO6 := Lib.hid (m6.owns HOw.out (by intro k hk; have := (HOw.out.lt k hk).1; omega))
                      clear h6 m6 C1
                      go_wp2
                      go_roundw
                      case rel => exact ⟨q + 1, by omega, by go_num, by rw [HTH.out], HR6.out, HO6.out, H6.out⟩
                      case measure => simp [intOf]; omega
                  · skip
                    have hfact : (size == 4) = false := beq_eq_false_iff_ne.2 hs4
                    have hwa : wantOf S q off size v = y := by rw [hwd]; exact if_neg (fun x => hs4 x.1)
                    rw [hwa] at HC
                    have C1 := HC
                    have HTH := Lib.hid (show thereTo off size (q + 1) = thereTo off size q from by rw [thereTo_succ, HRE.out]; simp [hfact])
                    clear hwa HC hwd
                    generalize thereTo off size q = tb at *
                    go_wp2_with (fail)
                    refine C1.out.mono ?_
                    rintro e w6 ⟨rfl, h6, m6⟩
                    have H6 := Lib.hid h6
                    have HR6 := Lib.hid (m6.owns HRg.out (by intro k hk; have := (HRg.out.lt k hk).1; have := HPW2.out; omega))
                    have HO6 := Lib.hid (m6.owns HOw.out (by intro k hk; have := (HOw.out.lt k hk).1; omega))
                    clear h6 m6 C1
                    go_wp2
                    go_roundw
                    case rel => exact ⟨q + 1, by omega, by go_num, by rw [HTH.out], HR6.out, HO6.out, H6.out⟩
                    case measure => simp [intOf]; omega
                · rw [show ((q : Nat) : Int) = 37 from by omega]
                  obtain rfl : q = 37 := by omega
                  by_cases hs4 : size = 4
                  · subst hs4
                    have hst3 : thereTo off 4 37 = st := by have := HST.out; simpa using this
                    rw [hst3]
                    clear hst3 HST
                    rcases st with _ | _
                    all_goals
                      go_wp2_with (fail)
                      refine (works_any _).mono ?_
                      rintro e w8 ⟨rfl, hb8⟩
                      have hb := HP3.out.below.trans (hb8.mono HP3.out.below.size)
                      go_wp2
                      go_ret
                      exact ⟨rfl, hb⟩
                  · have hfact : (size == 4) = false := beq_eq_false_iff_ne.2 hs4
                    obtain rfl : false = st := by have := HST.out; rw [hfact] at this; simpa using this
                    clear HST
                    go_wp2_with (fail)
                    refine (works_any _).mono ?_
                    rintro e w8 ⟨rfl, hb8⟩
                    have hb := HP3.out.below.trans (hb8.mono HP3.out.below.size)
                    go_wp2
                    go_ret
                    exact ⟨rfl, hb⟩

end Go.Proofs.Ytjkbemonedohjaa
