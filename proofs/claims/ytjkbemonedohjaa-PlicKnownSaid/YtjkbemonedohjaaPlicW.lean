/- PlicRuns returns true at any calls. No condition. -/
import Derived.Test.YtjkbemonedohjaaPlicV
import Derived.Test.YtjkbemonedohjaaRead
namespace Go.Proofs.Ytjkbemonedohjaa
open Go.RowKit Go.ChangeShapes Go.WideShapes Go.Deep
attribute [local go_sem ↓] Go.wp_at_zero Go.wp_at_succ

/-- A call. -/
structure OpV where
  K : Int
  O : Int
  S : Int
  V : Nat
  M : Nat

def OpV.cells (a : OpV) : Array Value := #[.int .i64 a.K, .int .i64 a.O, .int .i64 a.S, .int .u64 (a.V : Int), .int .u32 (a.M : Int)]
def OpV.ok (a : OpV) : Prop := a.V < 18446744073709551616 ∧ a.M < 4294967296
def OpCells (w : World) (b off : Nat) (a : OpV) : Prop :=
  w.cell? ⟨b, off, none⟩ = some (.int .i64 a.K) ∧ w.cell? ⟨b, off + 1, none⟩ = some (.int .i64 a.O) ∧ w.cell? ⟨b, off + 2, none⟩ = some (.int .i64 a.S) ∧ w.cell? ⟨b, off + 3, none⟩ = some (.int .u64 (a.V : Int)) ∧ w.cell? ⟨b, off + 4, none⟩ = some (.int .u32 (a.M : Int))
def OpsAt (w : World) (A : Option Addr) (n : Nat) (L : Nat → OpV) : Prop :=
  ∀ k, k < n → ∃ b off, A = some ⟨b, off, none⟩ ∧ b < w.heap.size ∧ (L k).ok ∧ OpCells w b (off + k * 5) (L k)

theorem cells_op : Try.prog.cellsOf 31 = 5 := by kernel_rfl
theorem wf_u32 {n : Int} (h : (Lit.int .u32 n).wf = true) : 0 ≤ n ∧ n < 4294967296 := by
  have := bounds_u32 h
  omega
theorem read_op {H : Type} {enc : TypeId × Value → H} {w : World} {m : Nat} {cs : List Value} {x : DataW H × List MemPlace} (h : DataW.trod enc Try.prog w 0 (fun _ => true) true m 31 cs = some x) :
    ∃ o : OpV, cs = o.cells.toList ∧ o.ok := by
  obtain ⟨xs, n, _, _, hlen, hxl, hf⟩ := DataW.trod_struct Try.underlying31 h
  rw [cells_op] at hlen
  match cs, hlen with
  | [c0, c1, c2, c3, c4], _ =>
    match xs, hxl with
    | [y0, y1, y2, y3, y4], _ =>
      obtain ⟨a, rfl, _⟩ := read_int Try.underlying3 (hf 0 _ rfl)
      obtain ⟨b, rfl, _⟩ := read_int Try.underlying3 (hf 1 _ rfl)
      obtain ⟨c, rfl, _⟩ := read_int Try.underlying3 (hf 2 _ rfl)
      obtain ⟨e, rfl, he⟩ := read_int Try.underlying28 (hf 3 _ rfl)
      obtain ⟨f, rfl, hg⟩ := read_int Try.underlying29 (hf 4 _ rfl)
      have he := wf_u64 he
      have hg := wf_u32 hg
      obtain ⟨e', rfl⟩ : ∃ e' : Nat, e = (e' : Int) := ⟨e.toNat, by omega⟩
      obtain ⟨f', rfl⟩ : ∃ f' : Nat, f = (f' : Int) := ⟨f.toNat, by omega⟩
      exact ⟨⟨a, b, c, e', f'⟩, rfl, by show e' < _; omega, by show f' < _; omega⟩

theorem read_ops {H : Type} {enc : TypeId × Value → H} {W : World} {r : Reach} {b0 : Nat} {v : Value} {d : DataW H} {p : List MemPlace} (ok : Value.okWide Try.prog W r b0 22 v)
    (h : DataW.Trod enc Try.prog W 0 (fun _ => true) true 22 v d p) :
    ∃ A n cap L, v = .slice A n cap ∧ n ≤ 9223372036854775807 ∧ OpsAt W A n L := by
  obtain ⟨A, n, cap, rfl, hn, hm, hc⟩ := read_slice Try.underlying22 cells_op (by decide) ok h
  simp only [maxLen] at hm
  have hex : ∀ k, ∃ o : OpV, k < n → ∃ b off, A = some ⟨b, off, none⟩ ∧ b < W.heap.size ∧ o.ok ∧ OpCells W b (off + k * 5) o := by
    intro k
    by_cases hk : k < n
    · obtain ⟨b, off, rfl, hb, hcells⟩ := hc (by omega)
      obtain ⟨cs, hl, hat, m, x, hd⟩ := hcells k hk
      obtain ⟨o, rfl, hv⟩ := read_op hd
      exact ⟨o, fun _ => ⟨b, off, rfl, hb, hv, hat 0 (by omega), hat 1 (by omega), hat 2 (by omega), hat 3 (by omega), hat 4 (by omega)⟩⟩
    · exact ⟨⟨0, 0, 0, 0, 0⟩, fun h => absurd h hk⟩
  exact ⟨A, n, cap, fun k => Classical.choose (hex k), rfl, by omega, fun k hk => Classical.choose_spec (hex k) hk⟩

theorem OpCells.below {w w' : World} {b off : Nat} {a : OpV} (h : OpCells w b off a) {B : Nat} (hb : Below B w w') (hl : b < B) : OpCells w' b off a := by
  obtain ⟨h0, h1, h2, h3, h4⟩ := h
  exact ⟨(hb.cell (p := ⟨b, _, none⟩) hl).trans h0, (hb.cell (p := ⟨b, _, none⟩) hl).trans h1, (hb.cell (p := ⟨b, _, none⟩) hl).trans h2, (hb.cell (p := ⟨b, _, none⟩) hl).trans h3, (hb.cell (p := ⟨b, _, none⟩) hl).trans h4⟩
theorem OpCells.mod {w w' : World} {b off : Nat} {a : OpV} {F : Nat → Prop} (h : OpCells w b off a) (hm : Mod F w w') (hl : b < w.heap.size) (hn : ¬ F b) : OpCells w' b off a := by
  obtain ⟨h0, h1, h2, h3, h4⟩ := h
  exact ⟨(hm.cell (p := ⟨b, _, none⟩) hl hn).trans h0, (hm.cell (p := ⟨b, _, none⟩) hl hn).trans h1, (hm.cell (p := ⟨b, _, none⟩) hl hn).trans h2, (hm.cell (p := ⟨b, _, none⟩) hl hn).trans h3, (hm.cell (p := ⟨b, _, none⟩) hl hn).trans h4⟩
theorem op_born (w : World) (K O S : Int) (V M : Nat) (t : TypeId) : OpCells (w.alloc (.cells #[.int .i64 K, .int .i64 O, .int .i64 S, .int .u64 (V : Int), .int .u32 (M : Int)] t)) w.heap.size 0 ⟨K, O, S, V, M⟩ := by
  refine ⟨?_, ?_, ?_, ?_, ?_⟩ <;> simp

/-- Program's and reference's controller, each over its state, and the call beside them. -/
structure PB (W w : World) (p x Bk : Nat) (o : OpV) (S T : Pli) : Prop where
  one : PHas W w p S
  two : RPlicAt w x T
  old : W.heap.size ≤ x
  ne : p ≠ x ∧ Bk ≠ p ∧ Bk ≠ x
  op : OpCells w Bk 0 o
  lt : Bk < w.heap.size

section
variable {W w w' : World} {p x Bk : Nat} {o : OpV} {S T S' : Pli}
theorem PB.nil (h : PB W w p x Bk o S T) (hm : Mod Nil w w') : PB W w' p x Bk o S T :=
  ⟨h.one.nil hm, h.two.keep hm (fun x => x), h.old, h.ne, h.op.mod hm h.lt (fun x => x), Nat.lt_of_lt_of_le h.lt hm.size⟩
theorem PB.first (h : PB W w p x Bk o S T) (h1 : PHas W w' p S') (hm : Mod (fun g => g = p) w w') : PB W w' p x Bk o S' T :=
  ⟨h1, h.two.keep hm (Ne.symm h.ne.1), h.old, h.ne, h.op.mod hm h.lt h.ne.2.1, Nat.lt_of_lt_of_le h.lt hm.size⟩
theorem PB.second (h : PB W w p x Bk o S T) (h1 : RPlicAt w' x S') (hm : Mod (fun g => g = x) w w') : PB W w' p x Bk o S S' :=
  ⟨h.one.keep hm (fun k e => by rw [e]; exact h.old) h.ne.1, h1, h.old, h.ne, h.op.mod hm h.lt h.ne.2.2, Nat.lt_of_lt_of_le h.lt hm.size⟩
theorem PB.lines (h : PB W w p x Bk o S T) (m : Nat) (hm : m < 4294967296) :
    Calls Try.prog 8 #[.pointer (some ⟨p, 0, none⟩), .int .u32 (m : Int)] w (Ends (.tuple #[]) fun w' => PB W w' p x Bk o (S.lines m) T) :=
  (h.one.lines m hm).mono fun _ _ ⟨he, hp, hm⟩ => ⟨he, h.first hp hm⟩
theorem PB.rlines (h : PB W w p x Bk o S T) (m : Nat) (hm : m < 4294967296) :
    Calls Try.prog 9 #[.pointer (some ⟨x, 0, none⟩), .int .u32 (m : Int)] w (Ends (.tuple #[]) fun w' => PB W w' p x Bk o S (T.lines m)) :=
  (rlines_at x T m w hm h.two).mono fun _ _ ⟨he, hp, hm⟩ => ⟨he, h.second hp hm⟩
theorem PB.load (h : PB W w p x Bk o S T) (off size : Int) :
    Calls Try.prog 10 #[.pointer (some ⟨p, 0, none⟩), .int .i64 off, .int .i64 size] w (Ends (.tuple #[.int .u64 (((S.load off size).1.1 : Nat) : Int), .bool (S.load off size).1.2]) fun w' => PB W w' p x Bk o (S.load off size).2 T) :=
  (h.one.load off size).mono fun _ _ ⟨he, hp, hm⟩ => ⟨he, h.first hp hm⟩
theorem PB.rload (h : PB W w p x Bk o S T) (off size : Int) :
    Calls Try.prog 11 #[.pointer (some ⟨x, 0, none⟩), .int .i64 off, .int .i64 size] w (Ends (.tuple #[.int .u64 (((T.load off size).1.1 : Nat) : Int), .bool (T.load off size).1.2]) fun w' => PB W w' p x Bk o S (T.load off size).2) :=
  (rload_at x T off size w h.two).mono fun _ _ ⟨he, hp, hm⟩ => ⟨he, h.second hp hm⟩
theorem PB.store (h : PB W w p x Bk o S T) (off size : Int) (v : Nat) (hv : v < 18446744073709551616) :
    Calls Try.prog 12 #[.pointer (some ⟨p, 0, none⟩), .int .i64 off, .int .i64 size, .int .u64 (v : Int)] w (Ends (.bool (S.store off size v).1) fun w' => PB W w' p x Bk o (S.store off size v).2 T) :=
  (h.one.store off size v hv).mono fun _ _ ⟨he, hp, hm⟩ => ⟨he, h.first hp hm⟩
theorem PB.rstore (h : PB W w p x Bk o S T) (off size : Int) (v : Nat) (hv : v < 18446744073709551616) :
    Calls Try.prog 13 #[.pointer (some ⟨x, 0, none⟩), .int .i64 off, .int .i64 size, .int .u64 (v : Int)] w (Ends (.bool (T.store off size v).1) fun w' => PB W w' p x Bk o S (T.store off size v).2) :=
  (rstore_at x T off size v w hv h.two).mono fun _ _ ⟨he, hp, hm⟩ => ⟨he, h.second hp hm⟩
theorem PB.pending (h : PB W w p x Bk o S T) (c : Int) :
    Calls Try.prog 14 #[.pointer (some ⟨p, 0, none⟩), .int .i64 c] w (Ends (.bool (S.pending c)) fun w' => PB W w' p x Bk o S T) :=
  (h.one.pending c).mono fun _ _ ⟨he, _, hm⟩ => ⟨he, h.nil hm⟩
theorem PB.rpending (h : PB W w p x Bk o S T) (c : Int) :
    Calls Try.prog 15 #[.pointer (some ⟨x, 0, none⟩), .int .i64 c] w (Ends (.bool (T.pending c)) fun w' => PB W w' p x Bk o S T) :=
  (rpending_at x T c w h.two).mono fun _ _ ⟨he, hm⟩ => ⟨he, h.nil hm⟩
end

/-- Both over one state. -/
def PB0 (W w : World) (p x : Nat) (S : Pli) : Prop := PHas W w p S ∧ RPlicAt w x S ∧ W.heap.size ≤ x ∧ p ≠ x
theorem PB0.alloc {W w : World} {p x : Nat} {S : Pli} (h : PB0 W w p x S) (K O Z : Int) (V M : Nat) (t : TypeId) : PB W (w.alloc (.cells #[.int .i64 K, .int .i64 O, .int .i64 Z, .int .u64 (V : Int), .int .u32 (M : Int)] t)) p x w.heap.size ⟨K, O, Z, V, M⟩ S S := by
  have l1 := h.1.plic.lt
  have l2 := h.2.1.lt
  exact ⟨h.1.nil ((Mod.refl _ _).alloc _), h.2.1.keep ((Mod.refl Nil _).alloc _) (fun x => x), h.2.2.1, ⟨h.2.2.2, by omega, by omega⟩, op_born w K O Z V M t, by simp⟩
theorem PB.zero {W w : World} {p x Bk : Nat} {o : OpV} {S : Pli} (h : PB W w p x Bk o S S) : PB0 W w p x S := ⟨h.one, h.two, h.old, h.ne.1⟩

set_option maxHeartbeats 8000000 in
set_option maxRecDepth 100000 in
theorem runs_any (A : Option Addr) (n cap : Nat) (L : Nat → OpV) (W : World) (_hn : n ≤ 9223372036854775807) (hL : OpsAt W A n L) :
    Calls Try.prog 3 #[.slice A n cap] W (fun e w' => e = .returned (.bool true) ∧ Below W.heap.size W w') := by
  have HL := Lib.hid hL
  clear hL
  by_cases h300 : n ≤ 300
  · go_enter Try.func3, Try.ntmps3
    go_wp2_with (fail)
    refine (new_phas (Below.refl _ W)).mono ?_
    rintro e w1 ⟨rfl, h1, hm1⟩
    have H1 := Lib.hid h1
    clear h1 hm1
    go_wp2_with (fail)
    refine (new_rplic w1).mono ?_
    rintro e w2 ⟨rfl, h2, hm2, _⟩
    have hB : PB0 W w2 W.heap.size w1.heap.size Pli.zero := by
      have l1 := H1.out.plic.lt
      exact ⟨H1.out.nil hm2, h2, by omega, by omega⟩
    have HB := Lib.hid hB
    clear h2 hm2 hB
    go_wp2_with (fail)
    go_loopw [5] (fun i wr => ∃ (k : Nat) (S : Pli), k ≤ n ∧ i = .int .i64 (k : Int) ∧ PB0 W wr W.heap.size w1.heap.size S) (fun i _ => n - (intOf i).toNat)
    case atStart => exact ⟨0, _, Nat.zero_le _, rfl, HB.out⟩
    case round =>
      obtain ⟨k, S, hk, rfl, hB⟩ := hrel
      obtain ⟨wo, rfl⟩ : ∃ wo : World, wo = wr := ⟨_, rfl⟩
      by_cases hkn : k < n
      · obtain ⟨b, off, rfl, hb, hok, hc⟩ := HL.out k hkn
        obtain ⟨f0, f1, f2, f3, f4⟩ := hc.below hB.1.below hb
        obtain ⟨hv, hm⟩ := hok
        clear hc
        generalize (L k).K = K at *
        generalize (L k).O = O at *
        generalize (L k).S = Z at *
        generalize (L k).V = V at *
        generalize (L k).M = M at *
        have hP := hB.alloc K O Z V M 31
        have HP := Lib.hid hP
        clear hP hB
        go_wp2_with (fail)
        · refine (HP.out.lines M hm).mono ?_
          rintro e w3 ⟨rfl, hp⟩
          have HQ := Lib.hid hp
          have g4 := hp.op.2.2.2.2
          clear hp HP
          go_wp2_with (fail)
          refine (HQ.out.rlines M hm).mono ?_
          rintro e w4 ⟨rfl, hp⟩
          have HE := Lib.hid hp
          have g1 := hp.op.2.1
          clear hp HQ
          go_wp2_with (fail)
          have hp := HE.out.nil (Mod.refl Nil _).drew
          go_region_held3 (fun w' => w'.cell? ⟨wo.heap.size, 0 + 1, none⟩ = some (.int .i64 O)) (exact hp.op.2.1) (first | (go_at_call 14; refine (hp.pending _).mono ?_; rintro e w' ⟨rfl, hp⟩) | (go_at_call 15; refine (hp.rpending _).mono ?_; rintro e w' ⟨rfl, hp⟩))
          have HE2 := Lib.hid hp
          clear hp
          go_wp2_with (fail)
          refine (HE2.out.load 4096 4).mono ?_
          rintro e w5 ⟨rfl, hp⟩
          have HE3 := Lib.hid hp
          clear hp
          go_wp2_with (fail)
          refine (HE3.out.rload 4096 4).mono ?_
          rintro e w6 ⟨rfl, hp⟩
          have HE4 := Lib.hid hp
          clear hp
          go_wp2
          go_roundw
          case rel => exact ⟨k + 1, _, by omega, by go_num, HE4.out.zero⟩
          case measure => simp [intOf]; omega
        · refine (HP.out.load O Z).mono ?_
          rintro e w3 ⟨rfl, hp⟩
          have HQ := Lib.hid hp
          have g1 := hp.op.2.1
          have g2 := hp.op.2.2.1
          clear hp HP
          go_wp2_with (fail)
          refine (HQ.out.rload O Z).mono ?_
          rintro e w4 ⟨rfl, hp⟩
          have HE := Lib.hid hp
          have g1 := hp.op.2.1
          clear hp HQ
          generalize S.load O Z = lo at *
          go_wp2_with (fail)
          have hp := HE.out.nil (Mod.refl Nil _).drew
          go_region_held3 (fun w' => w'.cell? ⟨wo.heap.size, 0 + 1, none⟩ = some (.int .i64 O)) (exact hp.op.2.1) (first | (go_at_call 14; refine (hp.pending _).mono ?_; rintro e w' ⟨rfl, hp⟩) | (go_at_call 15; refine (hp.rpending _).mono ?_; rintro e w' ⟨rfl, hp⟩))
          have HE2 := Lib.hid hp
          clear hp
          go_wp2_with (fail)
          refine (HE2.out.load 4096 4).mono ?_
          rintro e w5 ⟨rfl, hp⟩
          have HE3 := Lib.hid hp
          clear hp
          go_wp2_with (fail)
          refine (HE3.out.rload 4096 4).mono ?_
          rintro e w6 ⟨rfl, hp⟩
          have HE4 := Lib.hid hp
          clear hp
          go_wp2
          go_roundw
          case rel => exact ⟨k + 1, _, by omega, by go_num, HE4.out.zero⟩
          case measure => simp [intOf]; omega
        · have hp := HP.out.nil (Mod.refl Nil _).drew
          clear HP
          go_region_held3 (fun w' => w'.cell? ⟨wo.heap.size, 0 + 1, none⟩ = some (.int .i64 O) ∧ w'.cell? ⟨wo.heap.size, 0 + 2, none⟩ = some (.int .i64 Z) ∧ w'.cell? ⟨wo.heap.size, 0 + 3, none⟩ = some (.int .u64 (V : Int))) (exact ⟨hp.op.2.1, hp.op.2.2.1, hp.op.2.2.2.1⟩) (first | (go_at_call 12; refine (hp.store O Z V hv).mono ?_; rintro e w' ⟨rfl, hp⟩) | (go_at_call 13; refine (hp.rstore O Z V hv).mono ?_; rintro e w' ⟨rfl, hp⟩))
          have HE := Lib.hid hp
          clear hp
          generalize S.store O Z V = st at *
          go_wp2_with (fail)
          have hp := HE.out.nil (Mod.refl Nil _).drew
          go_region_held3 (fun w' => w'.cell? ⟨wo.heap.size, 0 + 1, none⟩ = some (.int .i64 O)) (exact hp.op.2.1) (first | (go_at_call 14; refine (hp.pending _).mono ?_; rintro e w' ⟨rfl, hp⟩) | (go_at_call 15; refine (hp.rpending _).mono ?_; rintro e w' ⟨rfl, hp⟩))
          have HE2 := Lib.hid hp
          clear hp
          go_wp2_with (fail)
          refine (HE2.out.load 4096 4).mono ?_
          rintro e w5 ⟨rfl, hp⟩
          have HE3 := Lib.hid hp
          clear hp
          go_wp2_with (fail)
          refine (HE3.out.rload 4096 4).mono ?_
          rintro e w6 ⟨rfl, hp⟩
          have HE4 := Lib.hid hp
          clear hp
          go_wp2
          go_roundw
          case rel => exact ⟨k + 1, _, by omega, by go_num, HE4.out.zero⟩
          case measure => simp [intOf]; omega
        · have HE := HP
          clear HP
          have hp := HE.out.nil (Mod.refl Nil _).drew
          go_region_held3 (fun w' => w'.cell? ⟨wo.heap.size, 0 + 1, none⟩ = some (.int .i64 O)) (exact hp.op.2.1) (first | (go_at_call 14; refine (hp.pending _).mono ?_; rintro e w' ⟨rfl, hp⟩) | (go_at_call 15; refine (hp.rpending _).mono ?_; rintro e w' ⟨rfl, hp⟩))
          have HE2 := Lib.hid hp
          clear hp
          go_wp2_with (fail)
          refine (HE2.out.load 4096 4).mono ?_
          rintro e w5 ⟨rfl, hp⟩
          have HE3 := Lib.hid hp
          clear hp
          go_wp2_with (fail)
          refine (HE3.out.rload 4096 4).mono ?_
          rintro e w6 ⟨rfl, hp⟩
          have HE4 := Lib.hid hp
          clear hp
          go_wp2
          go_roundw
          case rel => exact ⟨k + 1, _, by omega, by go_num, HE4.out.zero⟩
          case measure => simp [intOf]; omega
      · obtain rfl : k = n := by omega
        have HB := Lib.hid hB
        clear hB
        go_wp2_with (fail)
        refine (works_any _).mono ?_
        rintro e w7 ⟨rfl, hb7⟩
        have hb := HB.out.1.below.trans (hb7.mono HB.out.1.below.size)
        go_wp2
        go_ret
        exact ⟨rfl, hb⟩
  · go_enter Try.func3, Try.ntmps3
    go_wp2_with (fail)
    refine (works_any _).mono ?_
    rintro e w7 ⟨rfl, hb7⟩
    go_wp2
    go_ret
    exact ⟨rfl, hb7⟩

theorem runs_walk {H : Type} {enc : TypeId × Value → H} (W : World) {r : Reach} {b0 : Nat} (v : Value) {d : DataW H} {p : List MemPlace} (ok : Value.okWide Try.prog W r b0 22 v)
    (h : DataW.Trod enc Try.prog W 0 (fun _ => true) true 22 v d p) :
    Calls Try.prog 3 #[v] W (fun e w' => e = .returned (.bool true) ∧ Below W.heap.size W w') := by
  obtain ⟨A, n, cap, L, rfl, hn, hL⟩ := read_ops ok h
  exact runs_any A n cap L W hn hL

end Go.Proofs.Ytjkbemonedohjaa
