/- RamTags returns true at any slice of acts that can be read. No other condition. -/
import Derived.Test.YthpjedbkdepglaaRamG
import Derived.Test.YthpjedbkdepglaaRead
import Derived.Deep.RegionHeld3
import Derived.Deep.DrawnRows
namespace Go.Proofs.Ythpjedbkdepglaa
open Go.RowKit Go.ChangeShapes Go.WideShapes Go.Deep

/-- What is done. -/
structure ActV where
  K : Int
  O : Int
  S : Int
  T : Bool
  A : Nat
  M : Nat

def ActV.cells (a : ActV) : Array Value := #[.int .i64 a.K, .int .i64 a.O, .int .i64 a.S, .bool a.T, .int .u64 (a.A : Int), .int .u64 (a.M : Int)]
def ActV.ok (a : ActV) : Prop := a.A < 18446744073709551616 ∧ a.M < 18446744073709551616
/-- The act's six cells. -/
def ActCells (w : World) (b off : Nat) (a : ActV) : Prop :=
  w.cell? ⟨b, off, none⟩ = some (.int .i64 a.K) ∧ w.cell? ⟨b, off + 1, none⟩ = some (.int .i64 a.O) ∧ w.cell? ⟨b, off + 2, none⟩ = some (.int .i64 a.S) ∧ w.cell? ⟨b, off + 3, none⟩ = some (.bool a.T) ∧ w.cell? ⟨b, off + 4, none⟩ = some (.int .u64 (a.A : Int)) ∧ w.cell? ⟨b, off + 5, none⟩ = some (.int .u64 (a.M : Int))
def ActsAt (w : World) (A : Option Addr) (n : Nat) (L : Nat → ActV) : Prop :=
  ∀ k, k < n → ∃ b off, A = some ⟨b, off, none⟩ ∧ b < w.heap.size ∧ (L k).ok ∧ ActCells w b (off + k * 6) (L k)

theorem cells_act : Try.prog.cellsOf 30 = 6 := by kernel_rfl
theorem read_act {H : Type} {enc : TypeId × Value → H} {w : World} {m : Nat} {cs : List Value} {x : DataW H × List MemPlace} (h : DataW.trod enc Try.prog w 0 (fun _ => true) true m 30 cs = some x) :
    ∃ o : ActV, cs = o.cells.toList ∧ o.ok := by
  obtain ⟨xs, n, _, _, hlen, hxl, hf⟩ := DataW.trod_struct Try.underlying30 h
  rw [cells_act] at hlen
  match cs, hlen with
  | [c0, c1, c2, c3, c4, c5], _ =>
    match xs, hxl with
    | [y0, y1, y2, y3, y4, y5], _ =>
      obtain ⟨a, rfl, _⟩ := read_int Try.underlying3 (hf 0 _ rfl)
      obtain ⟨b, rfl, _⟩ := read_int Try.underlying3 (hf 1 _ rfl)
      obtain ⟨c, rfl, _⟩ := read_int Try.underlying3 (hf 2 _ rfl)
      obtain ⟨d, rfl⟩ := read_bool Try.underlying4 (hf 3 _ rfl)
      obtain ⟨e, rfl, he⟩ := read_int Try.underlying28 (hf 4 _ rfl)
      obtain ⟨f, rfl, hg⟩ := read_int Try.underlying28 (hf 5 _ rfl)
      have he := wf_u64 he
      have hg := wf_u64 hg
      obtain ⟨e', rfl⟩ : ∃ e' : Nat, e = (e' : Int) := ⟨e.toNat, by omega⟩
      obtain ⟨f', rfl⟩ : ∃ f' : Nat, f = (f' : Int) := ⟨f.toNat, by omega⟩
      exact ⟨⟨a, b, c, d, e', f'⟩, rfl, by show e' < _; omega, by show f' < _; omega⟩

theorem read_acts {H : Type} {enc : TypeId × Value → H} {W : World} {r : Reach} {b0 : Nat} {v : Value} {d : DataW H} {p : List MemPlace} (ok : Value.okWide Try.prog W r b0 22 v)
    (h : DataW.Trod enc Try.prog W 0 (fun _ => true) true 22 v d p) :
    ∃ A n cap L, v = .slice A n cap ∧ n ≤ 9223372036854775807 ∧ ActsAt W A n L := by
  obtain ⟨A, n, cap, rfl, hn, hm, hc⟩ := read_slice Try.underlying22 cells_act (by decide) ok h
  simp only [maxLen] at hm
  have hex : ∀ k, ∃ o : ActV, k < n → ∃ b off, A = some ⟨b, off, none⟩ ∧ b < W.heap.size ∧ o.ok ∧ ActCells W b (off + k * 6) o := by
    intro k
    by_cases hk : k < n
    · obtain ⟨b, off, rfl, hb, hcells⟩ := hc (by omega)
      obtain ⟨cs, hl, hat, m, x, hd⟩ := hcells k hk
      obtain ⟨o, rfl, hv⟩ := read_act hd
      exact ⟨o, fun _ => ⟨b, off, rfl, hb, hv, hat 0 (by omega), hat 1 (by omega), hat 2 (by omega), hat 3 (by omega), hat 4 (by omega), hat 5 (by omega)⟩⟩
    · exact ⟨⟨0, 0, 0, false, 0, 0⟩, fun h => absurd h hk⟩
  exact ⟨A, n, cap, fun k => Classical.choose (hex k), rfl, by omega, fun k hk => Classical.choose_spec (hex k) hk⟩

theorem ActCells.below {w w' : World} {b off : Nat} {a : ActV} (h : ActCells w b off a) {B : Nat} (hb : Below B w w') (hl : b < B) : ActCells w' b off a := by
  obtain ⟨h0, h1, h2, h3, h4, h5⟩ := h
  exact ⟨(hb.cell (p := ⟨b, _, none⟩) hl).trans h0, (hb.cell (p := ⟨b, _, none⟩) hl).trans h1, (hb.cell (p := ⟨b, _, none⟩) hl).trans h2, (hb.cell (p := ⟨b, _, none⟩) hl).trans h3, (hb.cell (p := ⟨b, _, none⟩) hl).trans h4, (hb.cell (p := ⟨b, _, none⟩) hl).trans h5⟩
theorem ActCells.mod {w w' : World} {b off : Nat} {a : ActV} {F : Nat → Prop} (h : ActCells w b off a) (hm : Mod F w w') (hl : b < w.heap.size) (hn : ¬ F b) : ActCells w' b off a := by
  obtain ⟨h0, h1, h2, h3, h4, h5⟩ := h
  exact ⟨(hm.cell (p := ⟨b, _, none⟩) hl hn).trans h0, (hm.cell (p := ⟨b, _, none⟩) hl hn).trans h1, (hm.cell (p := ⟨b, _, none⟩) hl hn).trans h2, (hm.cell (p := ⟨b, _, none⟩) hl hn).trans h3, (hm.cell (p := ⟨b, _, none⟩) hl hn).trans h4, (hm.cell (p := ⟨b, _, none⟩) hl hn).trans h5⟩
/-- A copy of an act. -/
theorem act_born (w : World) (K O S : Int) (T : Bool) (A M : Nat) (t : TypeId) : ActCells (w.alloc (.cells #[.int .i64 K, .int .i64 O, .int .i64 S, .bool T, .int .u64 (A : Int), .int .u64 (M : Int)] t)) w.heap.size 0 ⟨K, O, S, T, A, M⟩ := by
  refine ⟨?_, ?_, ?_, ?_, ?_, ?_⟩ <;> simp

theorem raminfo_bool : (Try.prog.info? 4).map (fun i => (i.zero, i.size, i.bytes)) = some (some (.bool false), 1, 1) := by kernel_rfl
theorem make_bools (w : World) : Sem.run Try.prog (Instr.makeSlice 27 (.int .i64 256) (.int .i64 256)) w = .ok (.slice (some ⟨w.heap.size, 0, none⟩) 256 256) (w.alloc (.cells (madeCells #[.bool false] 256) 4)) :=
  run_make_row' (P := Try.prog) 27 4 (.bool false) 1 Try.underlying27 raminfo_bool rfl .i64 .i64 256 (by omega) (by omega) w

/-- The memory and the tags that the law keeps. -/
structure Tags (W w : World) (r rb tb : Nat) (M : Mem) : Prop where
  has : Has W w r rb M
  n : M.n = 4096
  row : w.rowIs tb 4 256 (fun g => .bool (M.T g))
  old : W.heap.size ≤ tb
  ne : tb ≠ r ∧ tb ≠ rb

theorem Tags.alloc {W w : World} {r rb tb : Nat} {M : Mem} (h : Tags W w r rb tb M) (o : Obj) : Tags W (w.alloc o) r rb tb M := ⟨h.has.alloc o, h.n, h.row.alloc o, h.old, h.ne⟩
theorem Tags.nil {W w w' : World} {r rb tb : Nat} {M : Mem} (h : Tags W w r rb tb M) (hm : Mod Nil w w') : Tags W w' r rb tb M := ⟨h.has.nil hm, h.n, hm.row h.row (fun x => x), h.old, h.ne⟩
theorem store_n (M : Mem) (off size : Int) (v : Nat) : (M.store off size v).2.n = M.n := by unfold Mem.store; split <;> rfl
theorem storeCap_n (M : Mem) (off : Int) (t : Bool) (x y : Nat) : (M.storeCap off t x y).2.n = M.n := by unfold Mem.storeCap; split <;> rfl

theorem loadCap_gran (M : Mem) (off : Int) (h : Gran M off) : ∃ x y, M.loadCap off = (M.T (off.toNat / 16), x, y, true) := by
  unfold Mem.loadCap
  rw [if_pos h]
  exact ⟨_, _, rfl⟩

set_option maxHeartbeats 8000000 in
set_option maxRecDepth 100000 in
theorem tags_any (A : Option Addr) (n cap : Nat) (L : Nat → ActV) (W : World) (_hn : n ≤ 9223372036854775807) (hL : ActsAt W A n L) :
    Calls Try.prog 3 #[.slice A n cap] W (fun e w' => e = .returned (.bool true) ∧ Below W.heap.size W w') := by
  obtain ⟨i0, hi, hz0, hz1, hz2⟩ := info_parts raminfo_int
  have HL := Lib.hid hL
  clear hL
  go_enter Try.func3, Try.ntmps3
  go_wp2_with (fail)
  refine (new_has (Below.refl _ W) 4096 (by omega) (by omega) (by omega)).mono ?_
  rintro e w1 ⟨rfl, h1, hm1⟩
  have hmk := make_bools
  go_wp2_with (fail)
  clear hmk
  have hT : Tags W (w1.alloc (.cells (madeCells #[.bool false] 256) 4)) (W.heap.size + 1) W.heap.size w1.heap.size (Mem.zero 4096) :=
    ⟨h1.alloc _, rfl, World.rowIs_made w1 (.bool false) 256 _, h1.below.size, by have := h1.lt; omega⟩
  clear h1 hm1
  have HT := Lib.hid hT
  clear hT
  go_loopw [6] (fun i wr => ∃ (k : Nat) (M : Mem), k ≤ n ∧ k ≤ 200 ∧ i = .int .i64 (k : Int) ∧ Tags W wr (W.heap.size + 1) W.heap.size w1.heap.size M) (fun i _ => n - (intOf i).toNat)
  case atStart => exact ⟨0, _, Nat.zero_le _, Nat.zero_le _, rfl, HT.out⟩
  case round =>
    obtain ⟨k, M, hk, hk2, rfl, hT⟩ := hrel
    obtain ⟨wo, rfl⟩ : ∃ wo : World, wo = wr := ⟨_, rfl⟩
    by_cases hkn : k < n ∧ k < 200
    · obtain ⟨hkn, hk200⟩ := hkn
      obtain ⟨b, off, rfl, hb, hok, hc⟩ := HL.out k hkn
      obtain ⟨f0, f1, f2, f3, f4, f5⟩ := hc.below hT.has.below hb
      obtain ⟨ha, hm⟩ := hok
      clear hc
      generalize (L k).K = K at *
      generalize (L k).O = O at *
      generalize (L k).S = S at *
      generalize (L k).T = T at *
      generalize (L k).A = A at *
      generalize (L k).M = V at *
      have hT1 := hT.alloc (.cells #[.int .i64 K, .int .i64 O, .int .i64 S, .bool T, .int .u64 (A : Int), .int .u64 (V : Int)] 30)
      have hB := act_born wo K O S T A V 30
      obtain ⟨Bk, hBk⟩ : ∃ Bk, Bk = wo.heap.size := ⟨_, rfl⟩
      rw [← hBk] at hB
      have hlt := hT.has.lt
      have hlr := hT.row.lt
      have hBl : Bk < (wo.alloc (.cells #[.int .i64 K, .int .i64 O, .int .i64 S, .bool T, .int .u64 (A : Int), .int .u64 (V : Int)] 30)).heap.size := by rw [World.size_alloc]; omega
      have hne : ¬ (Bk = W.heap.size + 1 ∨ Bk = W.heap.size) := by omega
      obtain ⟨g0, g1, g2, g3, g4, g5⟩ := hB
      have HT1 := Lib.hid hT1
      have HBk := Lib.hid hBk
      clear hT hT1 hBk
      go_wp2_with (fail)
      rw [← HBk.out]
      generalize hwa : wo.alloc (.cells #[.int .i64 K, .int .i64 O, .int .i64 S, .bool T, .int .u64 (A : Int), .int .u64 (V : Int)] 30) = wa at *
      clear hwa f0 f1 f2 f3 f4 f5
      refine (pick_any K 2 _ (by omega) (by omega)).mono ?_
      rintro e w' ⟨rfl, rfl⟩
      by_cases hp : K % 2 = 0
      · have hz : ((K % 2 == 0) : Bool) = true := by simp only [beq_iff_eq]; exact hp
        by_cases hg : Gran M O
        · have he : M.storeCap O T A V = (true, (M.storeCap O T A V).2) := by unfold Mem.storeCap; rw [if_pos hg]
          have hTT : (M.storeCap O T A V).2.T = fun g => if g = O.toNat / 16 then T else M.T g := by unfold Mem.storeCap; rw [if_pos hg]
          have hMn := storeCap_n M O T A V
          have HE := Lib.hid he
          have HTT := Lib.hid hTT
          have HMn := Lib.hid hMn
          generalize hM' : (M.storeCap O T A V).2 = M' at *
          clear he hTT hMn
          obtain ⟨⟨o0, o1⟩, o2⟩ := hg
          obtain ⟨o, rfl⟩ : ∃ o : Nat, O = (o : Int) := ⟨O.toNat, by omega⟩
          have hn4 := HT1.out.n
          rw [hn4] at o1
          have o3 : (o : Int) / 16 < 256 := by omega
          have o4 : (0 : Int) ≤ (o : Int) / 16 := by omega
          clear hn4 o1
          go_wp2_with (fail)
          refine (HT1.out.has.storeCap (o : Int) T A V ha hm).mono ?_
          rw [HE.out]
          rintro e w3 ⟨rfl, h3, hm3⟩
          have d1 := (hm3.cell (p := ⟨Bk, 0 + 1, none⟩) hBl hne).trans g1
          have d3 := (hm3.cell (p := ⟨Bk, 0 + 3, none⟩) hBl hne).trans g3
          have hr3 := hm3.row HT1.out.row (by have := HT1.out.ne; rintro (h | h) <;> omega)
          have fr3 := hr3.frozen (o / 16)
          have cr3 := hr3.cell (i := o / 16) (by omega)
          have H3 := Lib.hid h3
          have HR3 := Lib.hid hr3
          have hne2 := HT1.out.ne
          have hold := HT1.out.old
          clear h3 hr3 hm3
          go_wp2
          go_roundw
          case rel =>
            refine ⟨k + 1, M', by omega, by omega, by go_num, H3.out.keep ((Mod.refl (fun g => g = w1.heap.size) w3).setCell (.inl rfl) _) (fun i hi => by rw [hi]; exact hold) (Ne.symm hne2.1) (Ne.symm hne2.2), by rw [HMn.out]; exact HT1.out.n, (HR3.out.set _ _).congr fun g _ => ?_, hold, hne2⟩
            rw [HTT.out]
            show _ = Value.bool (if g = o / 16 then T else M.T g)
            by_cases e : g = o / 16
            · rw [if_pos e, if_pos e]
            · rw [if_neg e, if_neg e]
          case measure => simp [intOf]; omega
        · have he : M.storeCap O T A V = (false, M) := by unfold Mem.storeCap; rw [if_neg hg]
          have HE := Lib.hid he
          clear he hg
          go_wp2_with (fail)
          refine (HT1.out.has.storeCap O T A V ha hm).mono ?_
          rw [HE.out]
          rintro e w3 ⟨rfl, h3, hm3⟩
          have H3 := Lib.hid h3
          have HR3 := Lib.hid (hm3.row HT1.out.row (by have := HT1.out.ne; rintro (h | h) <;> omega))
          clear h3 hm3
          go_wp2
          go_roundw
          case rel => exact ⟨k + 1, M, by omega, by omega, by go_num, H3.out, HT1.out.n, HR3.out, HT1.out.old, HT1.out.ne⟩
          case measure => simp [intOf]; omega
      · have hz : ((K % 2 == 0) : Bool) = false := by simp only [beq_eq_false_iff_ne, ne_eq]; exact hp
        by_cases hg : Sized S ∧ There M O S
        · have he : M.store O S A = (true, (M.store O S A).2) := by unfold Mem.store; rw [if_pos hg]
          have hTT : (M.store O S A).2.T = fun g => if g = O.toNat / 16 ∨ g = (O.toNat + S.toNat - 1) / 16 then false else M.T g := by unfold Mem.store; rw [if_pos hg]
          have hMn := store_n M O S A
          have HE := Lib.hid he
          have HTT := Lib.hid hTT
          have HMn := Lib.hid hMn
          generalize hM' : (M.store O S A).2 = M' at *
          clear he hTT hMn
          obtain ⟨hs, o0, o1⟩ := hg
          unfold Sized at hs
          obtain ⟨o, rfl⟩ : ∃ o : Nat, O = (o : Int) := ⟨O.toNat, by omega⟩
          obtain ⟨z, rfl⟩ : ∃ z : Nat, S = (z : Int) := ⟨S.toNat, by omega⟩
          have hn4 := HT1.out.n
          rw [hn4] at o1
          have z1 : 1 ≤ z := by omega
          have z2 : z ≤ 8 := by omega
          have o3 : (o : Int) / 16 < 256 := by omega
          have o4 : (0 : Int) ≤ (o : Int) / 16 := by omega
          have o5 : ((o : Int) + (z : Int) - 1) / 16 < 256 := by omega
          have o6 : (0 : Int) ≤ ((o : Int) + (z : Int) - 1) / 16 := by omega
          have hoz : o + z ≤ 4096 := by omega
          clear hn4 o1 hs
          go_wp2_with (fail)
          refine (HT1.out.has.store (o : Int) (z : Int) A ha).mono ?_
          rw [HE.out]
          rintro e w3 ⟨rfl, h3, hm3⟩
          have d1 := (hm3.cell (p := ⟨Bk, 0 + 1, none⟩) hBl hne).trans g1
          have d2 := (hm3.cell (p := ⟨Bk, 0 + 2, none⟩) hBl hne).trans g2
          have hr3 := hm3.row HT1.out.row (by have := HT1.out.ne; rintro (h | h) <;> omega)
          have hr4 := hr3.set (o / 16) (.bool false)
          have hbt : ¬ Bk = w1.heap.size := by have := HBk.out; omega
          have e1 := ((Mod.refl (fun g => g = w1.heap.size) w3).setCell (p := ⟨w1.heap.size, o / 16, none⟩) (.inl rfl) (.bool false)).cell (p := ⟨Bk, 0 + 1, none⟩) (Nat.lt_of_lt_of_le hBl hm3.size) hbt
          have e2 := ((Mod.refl (fun g => g = w1.heap.size) w3).setCell (p := ⟨w1.heap.size, o / 16, none⟩) (.inl rfl) (.bool false)).cell (p := ⟨Bk, 0 + 2, none⟩) (Nat.lt_of_lt_of_le hBl hm3.size) hbt
          have e1 := e1.trans d1
          have e2 := e2.trans d2
          have fr3 := hr3.frozen (o / 16)
          have cr3 := hr3.cell (i := o / 16) (by omega)
          have fr4 := hr4.frozen ((o + z - 1) / 16)
          have cr4 := hr4.cell (i := (o + z - 1) / 16) (by omega)
          have H3 := Lib.hid h3
          have HR3 := Lib.hid hr3
          have hne2 := HT1.out.ne
          have hold := HT1.out.old
          clear h3 hr3 hm3 hr4
          go_wp2_with (fail)
          go_roundw
          case rel =>
            refine ⟨k + 1, M', by omega, by omega, by go_num, H3.out.keep (((Mod.refl (fun g => g = w1.heap.size) w3).setCell (.inl rfl) _).setCell (.inl rfl) _) (fun i hi => by rw [hi]; exact hold) (Ne.symm hne2.1) (Ne.symm hne2.2), by rw [HMn.out]; exact HT1.out.n, ((HR3.out.set _ _).set _ _).congr fun g _ => ?_, hold, hne2⟩
            rw [HTT.out]
            show _ = Value.bool (if g = o / 16 ∨ g = (o + z - 1) / 16 then false else M.T g)
            by_cases e : g = o / 16 <;> by_cases e2 : g = (o + z - 1) / 16 <;> simp [e, e2]
          case measure => simp [intOf]; omega
        · have he : M.store O S A = (false, M) := by unfold Mem.store; rw [if_neg hg]
          have HE := Lib.hid he
          clear he hg
          go_wp2_with (fail)
          refine (HT1.out.has.store O S A ha).mono ?_
          rw [HE.out]
          rintro e w3 ⟨rfl, h3, hm3⟩
          have H3 := Lib.hid h3
          have HR3 := Lib.hid (hm3.row HT1.out.row (by have := HT1.out.ne; rintro (h | h) <;> omega))
          clear h3 hm3
          go_wp2
          go_roundw
          case rel => exact ⟨k + 1, M, by omega, by omega, by go_num, H3.out, HT1.out.n, HR3.out, HT1.out.old, HT1.out.ne⟩
          case measure => simp [intOf]; omega
    · have hkk : ¬ ((k : Int) < (n : Int)) ∨ ¬ ((k : Int) < 200) := by omega
      have HT2 := Lib.hid hT
      clear hT hkn
      have hend : ((decide ((k : Int) < (n : Int)) && decide ((k : Int) < 200)) : Bool) = false := by
        rcases hkk with h | h <;> simp [h]
      go_wp2_with (fail)
      all_goals
        go_loopw [8, 9] (fun v i wr => ∃ q : Nat, q ≤ 256 ∧ i = .int .i64 (q : Int) ∧ wr.ownsRow wo.heap.size 3 1 v (tagsTo M.T q).length ((tagsTo M.T q).map (Value.int .i64)) ∧ Tags W wr (W.heap.size + 1) W.heap.size w1.heap.size M ∧ wo.heap.size ≤ wr.heap.size) (fun _ i _ => 256 - (intOf i).toNat)
        case atStart => exact ⟨0, Nat.zero_le _, rfl, World.ownsRow_nil _ _ _ _, HT2.out, Nat.le_refl _⟩
        case round =>
          obtain ⟨q, hq, rfl, ho, hT, hs⟩ := hrel
          have hll := tagsTo_le M.T q
          have HO := Lib.hid ho
          have HT := Lib.hid hT
          clear ho hT
          by_cases hqn : q < 256
          · obtain ⟨x, y, hl⟩ := loadCap_gran M (16 * (q : Int)) (by have hn4 := HT.out.n; unfold Gran There; omega)
            rw [show (16 * (q : Int)).toNat / 16 = q from by omega] at hl
            have HLc := Lib.hid hl
            clear hl
            go_wp2_with (fail)
            refine (HT.out.has.loadCap (16 * (q : Int))).mono ?_
            rw [HLc.out]
            rintro e w3 ⟨rfl, _, hm3⟩
            have hT3 := HT.out.nil hm3
            have hs3 := hm3.size
            have cr := hT3.row.cell (i := q) hqn
            have ho3 := hm3.owns HO.out fun _ _ x => x
            have HT3 := Lib.hid hT3
            have HO3 := Lib.hid ho3
            clear hm3 hT3 ho3
            by_cases hTq : M.T q = true
            · rw [hTq] at cr
              go_wp2_with (at_builtin; refine wpList_append_lies _ rfl _ _ 34 rfl wo.heap.size 3 i0 (.int .i64 0) 1 8 Try.underlying34 hi hz0 hz1 hz2 rfl (by decide) _ (tagsTo M.T q).length _ rfl (HO3.out.alloc _) ⟨w3.heap.size, 0, none⟩ 1 1 [.int .i64 (16 * (q : Int))] rfl rfl ?c1 ?c2 (by decide) ?c3 ?c4 ?c5 _ rfl ?_; rotate_right; intro g' cap' w4 hown hgrow hat hlt')
              case c1 => exact cell_one_new _ _ _
              case c2 => intro u hu; rw [List.mem_singleton] at hu; subst hu; rfl
              case c3 => simp only [maxLen]; omega
              case c4 => omega
              case c5 => rw [World.size_alloc]; omega
              go_roundw
              case rel =>
                have hm5 : Mod (fun g => wo.heap.size ≤ g) w3 w4 := ((Mod.refl _ w3).alloc _).grown hgrow fun g hg => .inl (HO3.out.lt g hg).1
                have hlt2 := HT2.out.has.lt
                have hrl := HT2.out.row.lt
                refine ⟨q + 1, by omega, by go_num, ?_, ⟨HT3.out.has.keep hm5 (fun g hg => by have := HT2.out.has.below.size; omega) (by omega) (by omega), HT3.out.n, hm5.row HT3.out.row (by omega), HT3.out.old, HT3.out.ne⟩, by have := hm5.size; omega⟩
                rw [tagsTo_yes hTq, List.map_append, List.length_append]
                exact hown
              case measure => simp [intOf]; omega
            · have hTq := Bool.eq_false_iff.2 hTq
              rw [hTq] at cr
              go_wp2
              go_roundw
              case rel => exact ⟨q + 1, by omega, by go_num, by rw [tagsTo_no hTq]; exact HO3.out, HT3.out, by omega⟩
              case measure => simp [intOf]; omega
          · obtain rfl : q = 256 := by omega
            have hM : M.tagged = tagsTo M.T 256 := by have := HT.out.n; unfold Mem.tagged; rw [this]; rfl
            have HMt := Lib.hid hM
            clear hM
            have hl2 := Ints.of_own HO.out (by simp only [maxLen]; omega)
            have HI := Lib.hid hl2
            clear hl2
            go_wp2_with (fail)
            refine HT.out.has.tagged.mono ?_
            rw [HMt.out]
            rintro e w5 ⟨v, rfl, hi5, hv5, h5, hm5⟩
            have HI5 := Lib.hid hi5
            have HI2 := Lib.hid (HI.out.keep hm5 fun _ _ x => x)
            have H5 := Lib.hid h5
            clear hi5 hv5 hm5 h5
            go_wp2_with (fail)
            refine (same_ints _ _ _ _ _ HI5.out HI2.out).mono ?_
            rintro e w6 ⟨rfl, hm6⟩
            have H6 := Lib.hid (H5.out.nil hm6)
            clear hm6
            go_wp2_with (fail)
            refine (known_any _).mono ?_
            rintro e w7 ⟨rfl, hb7⟩
            have hb := H6.out.below.trans (hb7.mono H6.out.below.size)
            go_wp2
            go_ret
            exact ⟨rfl, hb⟩

theorem tags_walk {H : Type} {enc : TypeId × Value → H} (W : World) {r : Reach} {b0 : Nat} (v : Value) {d : DataW H} {p : List MemPlace} (ok : Value.okWide Try.prog W r b0 22 v)
    (h : DataW.Trod enc Try.prog W 0 (fun _ => true) true 22 v d p) :
    Calls Try.prog 3 #[v] W (fun e w' => e = .returned (.bool true) ∧ Below W.heap.size W w') := by
  obtain ⟨A, n, cap, L, rfl, hn, hL⟩ := read_acts ok h
  exact tags_any A n cap L W hn hL

end Go.Proofs.Ythpjedbkdepglaa
