/- SerialKnown returns true. No condition. -/
import Derived.Test.YtoeppbngogjbaaaSerS
namespace Go.Proofs.Ytoeppbngogjbaaa
open Go.RowKit
attribute [local go_sem ↓] Go.wp_at_zero Go.wp_at_succ

def opCells (o : OpV) : List Value := [.int .i64 o.K, .int .i64 o.O, .int .i64 o.S, .int .u64 o.V]
def OpOk (o : OpV) : Prop := 0 ≤ o.V ∧ o.V < 18446744073709551616

theorem opCells_len (L : List OpV) : (L.flatMap opCells).length = L.length * 4 := by
  induction L with
  | nil => rfl
  | cons o L ih => rw [List.flatMap_cons, List.length_append, ih]; simp [opCells]; omega
theorem opCells_get (L : List OpV) : ∀ k (h : k < L.length) j, j < 4 → (L.flatMap opCells)[k * 4 + j]? = (opCells L[k])[j]? := by
  induction L with
  | nil => intro k h; simp at h
  | cons o L ih =>
    intro k h j hj
    rw [List.flatMap_cons]
    cases k with
    | zero => rw [Nat.zero_mul, Nat.zero_add, List.getElem?_append_left (by simp [opCells]; omega)]; rfl
    | succ k =>
      rw [List.getElem?_append_right (by simp [opCells]; omega), show (k + 1) * 4 + j - (opCells o).length = k * 4 + j from by simp [opCells]; omega, ih k (by simpa using h) j hj]
      rfl

theorem ops_one (M : List OpV) : ∀ u, u ∈ M.flatMap opCells → u.oneCell' = true := by
  intro u h
  obtain ⟨o, _, ho⟩ := List.mem_flatMap.1 h
  simp only [opCells, List.mem_cons, List.not_mem_nil, or_false] at ho
  rcases ho with h | h | h | h <;> (subst h; rfl)

theorem keep_cell {wr w3 : World} {base n size NB q : Nat} {e : TypeId} {v u : Value} {xs : List Value} {O : Obj} (ho : wr.ownsRow base e size v n xs) (hN : NB < base) (hs : base ≤ wr.heap.size) (cx : wr.cell? ⟨NB, q, none⟩ = some u)
    (hg : (wr.alloc O).drew.grownBy w3 v.ownBlock) : w3.cell? ⟨NB, q, none⟩ = some u := by
  have h1 : w3.heap[NB]? = wr.heap[NB]? := (hg.block NB (by show NB < (wr.alloc O).heap.size; rw [World.size_alloc]; omega) (fun e => by have := (ho.lt NB e.symm).1; omega)).trans (Below.heap_alloc wr O NB (by omega))
  exact (World.cell?_of_block (w := wr) (a := ⟨NB, q, none⟩) h1).trans cx

/-- The list of calls that the law makes. -/
def LIn (W1 w : World) (v : Value) (least most : Nat) : Prop :=
  ∃ L : List OpV, least ≤ L.length ∧ L.length ≤ most ∧ (∀ o, o ∈ L → OpOk o) ∧ w.ownsRow W1.heap.size 34 4 v L.length (L.flatMap opCells) ∧ Below W1.heap.size W1 w

theorem LIn.push {W1 w w1 : World} {v v' : Value} {least most : Nat} {L : List OpV} {ob : Obj} (hL : least ≤ L.length ∧ L.length ≤ most) (hok : ∀ o, o ∈ L → OpOk o) (hb : Below W1.heap.size W1 w)
    (ho : w.ownsRow W1.heap.size 34 4 v L.length (L.flatMap opCells)) (hg : (w.alloc ob).grownBy w1 v.ownBlock) (M : List OpV) (hM : ∀ o, o ∈ M → OpOk o)
    (ho1 : w1.ownsRow W1.heap.size 34 4 v' (L.length + M.length) (L.flatMap opCells ++ M.flatMap opCells)) : LIn W1 w1 v' (least + M.length) (most + M.length) := by
  refine ⟨L ++ M, by simp; omega, by simp; omega, ?_, ?_, (hb.alloc hb.size _).grown hg (by rw [World.size_alloc]; have := hb.size; omega) fun k hk => (ho.lt k hk).1⟩
  · intro o h
    rcases List.mem_append.1 h with h | h
    · exact hok o h
    · exact hM o h
  · rw [List.length_append, List.flatMap_append]
    exact ho1

theorem LIn.below {W1 w w' : World} {v : Value} {l m : Nat} (h : LIn W1 w v l m) (hb : Below w.heap.size w w') : LIn W1 w' v l m := by
  obtain ⟨L, h1, h2, h3, h4, h5⟩ := h
  exact ⟨L, h1, h2, h3, (Mod.of_below hb Nil).owns h4 fun _ _ h => h, h5.trans (hb.mono h5.size)⟩
theorem LIn.weak {W1 w : World} {v : Value} {l m l' m' : Nat} (h : LIn W1 w v l m) (hl : l' ≤ l) (hm : m ≤ m') : LIn W1 w v l' m' := by
  obtain ⟨L, h1, h2, h⟩ := h
  exact ⟨L, by omega, by omega, h⟩
theorem LIn.old {W1 w : World} {v : Value} {l m : Nat} (h : LIn W1 w v l m) : Below W1.heap.size W1 w := by
  obtain ⟨L, _, _, _, _, h⟩ := h
  exact h
theorem three_cells (w : World) (a b c : Int) (t : TypeId) : ∀ i, i < 3 → ((w.alloc (.cells #[.int .u64 a, .int .u64 b, .int .u64 c] t)).drew).cell? ⟨w.heap.size, 0 + i, none⟩ = some (.int .u64 ([a, b, c].getD i 0)) := by
  intro i hi
  rw [Nat.zero_add]
  have hc : ∀ v, ((#[.int .u64 a, .int .u64 b, .int .u64 c] : Array Value)[i]? = some v) → (w.alloc (.cells #[.int .u64 a, .int .u64 b, .int .u64 c] t)).cell? ⟨w.heap.size, i, none⟩ = some v := fun v h => (cell_of_row _ _ _ _ _ _ (heap_alloc_new w _)).trans h
  rcases i with _ | _ | _ | i
  all_goals first | exact hc _ rfl | omega
theorem three_ok : ∀ i, i < 3 → 0 ≤ ([1, 4294989141, 7] : List Int).getD i 0 ∧ ([1, 4294989141, 7] : List Int).getD i 0 < 18446744073709551616 := by
  intro i hi
  rcases i with _ | _ | _ | i
  all_goals first | decide | omega
theorem below_new {w w4 : World} {O : Obj} (h : Below ((w.alloc O).drew).heap.size ((w.alloc O).drew) w4) : Below w.heap.size w w4 := by
  have h1 : Below w.heap.size w ((w.alloc O).drew) := ((Below.refl _ w).alloc (Nat.le_refl _) O).drew
  exact h1.trans (h.mono h1.size)

theorem lit_cells {w : World} {k : IntKind} {L : List Int} {t : TypeId} {b : Nat} (h : w.heap[b]? = some (.cells (L.map (Value.int k)).toArray t (0, 0))) : ∀ i, i < L.length → w.cell? ⟨b, 0 + i, none⟩ = some (.int k (L.getD i 0)) := by
  intro i hi
  rw [Nat.zero_add, cell_of_row _ _ _ _ _ _ h]
  simp [List.getElem?_eq_getElem hi]
theorem lit_bounds (L : List Int) (h : L.all (fun x => decide (0 ≤ x ∧ x < 18446744073709551616)) = true) : ∀ i, i < L.length → 0 ≤ L.getD i 0 ∧ L.getD i 0 < 18446744073709551616 := by
  intro i hi
  have := List.all_eq_true.1 h L[i] (List.getElem_mem hi)
  rw [List.getD_eq_getElem?_getD, List.getElem?_eq_getElem hi]
  simpa using this
theorem ops_at {w : World} {base g cap : Nat} {L : List OpV} (ho : w.ownsRow base 34 4 (.slice (some ⟨g, 0, none⟩) L.length cap) L.length (L.flatMap opCells)) (hok : ∀ o, o ∈ L → OpOk o) :
    OpsAt w g 0 L.length (fun k => L.getD k ⟨0, 0, 0, 0⟩) := by
  intro k hk
  have e : L.getD k ⟨0, 0, 0, 0⟩ = L[k] := by rw [List.getD_eq_getElem?_getD, List.getElem?_eq_getElem hk]; rfl
  have hc : ∀ j, j < 4 → w.cell? ⟨g, k * 4 + j, none⟩ = (opCells L[k])[j]? := fun j hj => (ho.cellAt (k * 4 + j) (by omega)).trans (opCells_get L k hk j hj)
  have h0 := hok L[k] (List.getElem_mem hk)
  show 0 ≤ (L.getD k ⟨0, 0, 0, 0⟩).V ∧ (L.getD k ⟨0, 0, 0, 0⟩).V < 18446744073709551616 ∧ w_cells w g 0 k (L.getD k ⟨0, 0, 0, 0⟩)
  rw [e]
  unfold w_cells
  rw [Nat.zero_add]
  exact ⟨h0.1, h0.2, hc 0 (by omega), hc 1 (by omega), hc 2 (by omega), hc 3 (by omega)⟩

theorem info_op : (Try.prog.info? 34).map (fun i => (i.zero, i.size, i.bytes)) = some (some (.agg #[.int .i64 0, .int .i64 0, .int .i64 0, .int .u64 0]), 4, 32) := by kernel_rfl

set_option maxHeartbeats 8000000 in
set_option maxRecDepth 100000 in
theorem known_any (W : World) : Calls Try.prog 4 #[] W (Holds W) := by
  obtain ⟨i0, hi, hz0, hz1, hz2⟩ := info_parts info_op
  go_enter Try.func4, Try.ntmps4
  go_wp2_with fail
  obtain ⟨W1, hW1⟩ : ∃ W1, W1 = W.alloc (.cells #[.int .i64 (-9223372036854775808), .int .i64 (-1), .int .i64 0, .int .i64 1, .int .i64 2, .int .i64 3, .int .i64 4, .int .i64 5, .int .i64 6, .int .i64 7, .int .i64 8, .int .i64 9223372036854775807] 3) := ⟨_, rfl⟩
  rw [← hW1]
  obtain ⟨NB, hNB⟩ : ∃ NB, NB = W.heap.size := ⟨_, rfl⟩
  rw [← hNB]
  have hb1 : Below W.heap.size W W1 := by rw [hW1]; exact (Below.refl _ _).alloc (Nat.le_refl _) _
  have hN1 : NB < W1.heap.size := by rw [hW1, hNB]; simp
  have hNf : ∃ nf : Nat → Int, ∀ i, i < 12 → -9223372036854775808 ≤ nf i ∧ nf i ≤ 9223372036854775807 ∧ W1.cell? ⟨NB, i, none⟩ = some (.int .i64 (nf i)) := by
    refine ⟨fun i => [-9223372036854775808, -1, 0, 1, 2, 3, 4, 5, 6, 7, 8, 9223372036854775807].getD i 0, fun i hi => ?_⟩
    rw [hW1, hNB]
    have hc : ∀ v, ((#[.int .i64 (-9223372036854775808), .int .i64 (-1), .int .i64 0, .int .i64 1, .int .i64 2, .int .i64 3, .int .i64 4, .int .i64 5, .int .i64 6, .int .i64 7, .int .i64 8, .int .i64 9223372036854775807] : Array Value)[i]? = some v) → (W.alloc (.cells #[.int .i64 (-9223372036854775808), .int .i64 (-1), .int .i64 0, .int .i64 1, .int .i64 2, .int .i64 3, .int .i64 4, .int .i64 5, .int .i64 6, .int .i64 7, .int .i64 8, .int .i64 9223372036854775807] 3)).cell? ⟨W.heap.size, i, none⟩ = some v := fun v h => (cell_of_row _ _ _ _ _ _ (heap_alloc_new W _)).trans h
    rcases i with _ | _ | _ | _ | _ | _ | _ | _ | _ | _ | _ | _ | i
    all_goals first | exact ⟨by decide, by decide, hc _ rfl⟩ | omega
  obtain ⟨nf, hnf⟩ := hNf
  have HNf := Lib.hid hnf
  have HW1 := Lib.hid hW1
  have HNB := Lib.hid hNB
  have Hb1 := Lib.hid hb1
  clear hnf hW1 hNB hb1
  go_loopw [2, 3] (fun v i wr => ∃ k : Nat, k ≤ 20 ∧ i = .int .i64 (k : Int) ∧ LIn W1 wr v (2 * k) (2 * k)) (fun _ i _ => 20 - (intOf i).toNat)
  case atStart => exact ⟨0, by omega, rfl, [], by simp, by simp, by simp, World.ownsRow_nil _ _ _ _, Below.refl _ _⟩
  case round =>
    obtain ⟨k, hk, rfl, L, hL1, hL2, hok, ho, hb⟩ := hrel
    have Hok := Lib.hid hok
    have hsz := hb.size
    clear hok
    by_cases hk20 : k < 20
    · go_wp2_with (at_builtin; refine wpList_append_lies _ rfl _ _ 22 rfl W1.heap.size 34 i0 (.agg #[.int .i64 0, .int .i64 0, .int .i64 0, .int .u64 0]) 4 32 Try.underlying22 hi hz0 hz1 hz2 rfl (by decide) _ L.length _ rfl (ho.alloc _) ⟨wr.heap.size, 0, none⟩ 2 2 (List.flatMap opCells [⟨0, 0, 0, (k : Int) * 37⟩, ⟨2, 5, 1, 0⟩]) rfl (by rfl) ?c1 ?c2 (by decide) ?c3 ?c4 ?c5 _ rfl ?_; rotate_right; intro g' cap' w3 hown hgrow hat hlt'; have hX : LIn W1 w3 (.slice (some ⟨g', 0, none⟩) (L.length + 2) cap') (2 * k + 2) (2 * k + 2) := LIn.push ⟨hL1, hL2⟩ Hok.out hb ho hgrow [⟨0, 0, 0, (k : Int) * 37⟩, ⟨2, 5, 1, 0⟩] (by intro o h; simp only [List.mem_cons, List.not_mem_nil, or_false] at h; unfold OpOk; rcases h with h | h <;> subst h <;> simp <;> omega) hown)
      case c1 => exact World.news_of_block (heap_alloc_new _ _)
      case c2 => intro u hu; simp only [opCells, List.flatMap_cons, List.flatMap_nil, List.append_nil, List.cons_append, List.nil_append, List.mem_cons, List.not_mem_nil, or_false] at hu; rcases hu with h | h | h | h | h | h | h | h <;> (subst h; rfl)
      case c3 => simp only [maxLen]; omega
      case c4 => omega
      case c5 => rw [World.size_alloc]; omega
      go_roundw
      case rel => exact ⟨k + 1, by omega, by go_num, by rw [show 2 * (k + 1) = 2 * k + 2 from by omega]; exact hX⟩
      case measure => simp [intOf]; omega
    · go_wp2_with fail
      have HL : Hid (LIn W1 wr _ 40 40) := ⟨L, by omega, by omega, Hok.out, ho, hb⟩
      clear ho hb
      go_loopw [2, 4] (fun v i wr => ∃ q : Nat, q ≤ 12 ∧ i = .int .i64 (q : Int) ∧ LIn W1 wr v 40 (40 + 30 * q)) (fun _ i _ => 12 - (intOf i).toNat)
      case atStart => exact ⟨0, by omega, rfl, HL.out⟩
      case round =>
        obtain ⟨q, hq, rfl, hL⟩ := hrel
        obtain ⟨wo, rfl⟩ : ∃ wo : World, wo = wr := ⟨_, rfl⟩
        have HL2 := Lib.hid hL
        clear hL
        by_cases hq12 : q < 12
        · obtain ⟨x0, x1, hx⟩ := HNf.out q hq12
          generalize nf q = x at *
          have i1 : (0 : Int) ≤ (q : Int) := by omega
          have i2 : (q : Int) < 12 := by omega
          go_wp2_with fail
          go_loopw [2, 5] (fun v sz wr => ∃ t : Nat, t ≤ 11 ∧ sz = .int .i64 ((t : Int) - 1) ∧ LIn W1 wr v 40 (40 + 30 * q + 2 * t)) (fun _ sz _ => (10 - intOf sz).toNat)
          case atStart => exact ⟨0, by omega, rfl, HL2.out⟩
          case round =>
            obtain ⟨t, ht, rfl, L, hL1, hL2, hok, ho, hb⟩ := hrel
            have Hok := Lib.hid hok
            have hsz := hb.size
            have cx := (hb.cell (p := ⟨NB, q, none⟩) hN1).trans hx
            clear hok
            by_cases ht9 : t ≤ 9
            · obtain ⟨k1, hk1⟩ : ∃ k1, IntKind.i64.wrap (2 + bits BinOp.and IntKind.i64 ((t : Int) - 1) 1) = k1 := ⟨_, rfl⟩
              obtain ⟨k2, hk2⟩ : ∃ k2, IntKind.i64.wrap (4 + bits BinOp.and IntKind.i64 (q : Int) 1) = k2 := ⟨_, rfl⟩
              obtain ⟨v1, hv1⟩ : ∃ v1, IntKind.u64.wrap (IntKind.i64.wrap (x + 21845)) = v1 := ⟨_, rfl⟩
              have hv2 : 0 ≤ v1 ∧ v1 < 18446744073709551616 := by rw [← hv1, IntKind.wrap_u64]; omega
              go_wp2_with fail
              go_region_held3 (fun w' => w'.cell? ⟨NB, q, none⟩ = some (.int .i64 x)) (first | exact keep_cell ho hN1 hsz cx hgrow | go_keep) ((refine step_append_lies _ (by rfl) _ _ 22 (by rfl) W1.heap.size 34 i0 (.agg #[.int .i64 0, .int .i64 0, .int .i64 0, .int .u64 0]) 4 32 Try.underlying22 hi hz0 hz1 hz2 rfl (by decide) _ L.length _ (by rfl) ((ho.alloc _).drew) ⟨wr.heap.size, 0, none⟩ 2 2 (List.flatMap opCells [⟨k1, x, (t : Int) - 1, v1⟩, ⟨k2, x, (t : Int) - 1, 21845⟩]) (by rfl) (by rfl) (World.news_of_block (heap_alloc_new _ _)) (ops_one _) (by decide) (by simp only [maxLen]; omega) (by omega) (by show _ ≤ (World.alloc _ _).heap.size; rw [World.size_alloc]; exact Nat.le_succ_of_le hsz) _ rfl ?_; intro g' cap' w3 hown hgrow hat hlt'; have hX := LIn.push ⟨hL1, hL2⟩ Hok.out hb ho (show (wr.alloc _).grownBy w3 _ from ⟨hgrow.os, hgrow.tape, hgrow.output, hgrow.size, hgrow.block⟩) [⟨k1, x, (t : Int) - 1, v1⟩, ⟨k2, x, (t : Int) - 1, 21845⟩] (by intro o h; simp only [List.mem_cons, List.not_mem_nil, or_false] at h; unfold OpOk; rcases h with h | h <;> subst h <;> simp <;> omega) hown))
              have cx3 := (hX.old.cell (p := ⟨NB, q, none⟩) hN1).trans hx
              go_wp2_with fail
              go_region_held3 (fun w' => w'.cell? ⟨NB, q, none⟩ = some (.int .i64 x)) (first | exact ((hX.below (below_new hb4)).old.cell (p := ⟨NB, q, none⟩) hN1).trans hx | go_keep) ((go_at_call 26; refine (power_any _ _ _ _ _ 3 3 (fun i => [1, 4294989141, 7].getD i 0) _ (by rw [IntKind.wrap_u64]; omega) (by rw [IntKind.wrap_u64]; omega) (by show _ < (World.alloc _ _).heap.size; rw [World.size_alloc]; exact Nat.lt_succ_self _) (by decide) (three_cells _ _ _ _ _) three_ok).mono ?_; rintro e w4 ⟨rfl, hb4⟩))
              have hX4 := hX.below (below_new hb4)
              go_wp2_with fail
              go_roundw
              case rel => exact ⟨t + 1 + q % 2, by omega, congrArg (Value.int .i64) (by omega), hX4.weak (by omega) (by simp only [List.length_cons, List.length_nil]; omega)⟩
              case measure => simp [intOf]; omega
            · go_wp2_with fail
              obtain ⟨v2, hv2⟩ : ∃ v2, IntKind.u64.wrap (q : Int) = v2 := ⟨_, rfl⟩
              obtain ⟨v3, hv3⟩ : ∃ v3, IntKind.u64.wrap (IntKind.i64.wrap (21840 + (q : Int))) = v3 := ⟨_, rfl⟩
              have hb2 : 0 ≤ v2 ∧ v2 < 18446744073709551616 := by rw [← hv2, IntKind.wrap_u64]; omega
              have hb3 : 0 ≤ v3 ∧ v3 < 18446744073709551616 := by rw [← hv3, IntKind.wrap_u64]; omega
              go_region_held3 (fun w' => w'.cell? ⟨NB, q, none⟩ = some (.int .i64 x)) (first | exact keep_cell ho hN1 hsz cx hgrow | go_keep) ((refine step_append_lies _ (by rfl) _ _ 22 (by rfl) W1.heap.size 34 i0 (.agg #[.int .i64 0, .int .i64 0, .int .i64 0, .int .u64 0]) 4 32 Try.underlying22 hi hz0 hz1 hz2 rfl (by decide) _ L.length _ (by rfl) ((ho.alloc _).drew) ⟨wr.heap.size, 0, none⟩ 5 5 (List.flatMap opCells [⟨2, x, 1, 0⟩, ⟨3, x, 1, v2⟩, ⟨1, 0, 0, 0⟩, ⟨5, 0, 4, v3⟩, ⟨9, 0, 0, 0⟩]) (by rfl) (by rfl) (World.news_of_block (heap_alloc_new _ _)) (ops_one _) (by decide) (by simp only [maxLen]; omega) (by omega) (by show _ ≤ (World.alloc _ _).heap.size; rw [World.size_alloc]; exact Nat.le_succ_of_le hsz) _ rfl ?_; intro g' cap' w3 hown hgrow hat hlt'; have hX := LIn.push ⟨hL1, hL2⟩ Hok.out hb ho (show (wr.alloc _).grownBy w3 _ from ⟨hgrow.os, hgrow.tape, hgrow.output, hgrow.size, hgrow.block⟩) [⟨2, x, 1, 0⟩, ⟨3, x, 1, v2⟩, ⟨1, 0, 0, 0⟩, ⟨5, 0, 4, v3⟩, ⟨9, 0, 0, 0⟩] (by intro o h; simp only [List.mem_cons, List.not_mem_nil, or_false] at h; unfold OpOk; rcases h with h | h | h | h | h <;> subst h <;> simp <;> omega) hown))
              go_wp2_with fail
              go_roundw
              case rel => exact ⟨q + 1, by omega, by go_num, hX.weak (by omega) (by simp only [List.length_cons, List.length_nil]; omega)⟩
              case measure => simp [intOf]; omega
        · obtain ⟨L, hL1, hL2, hok, ho, hb⟩ := HL2.out
          obtain ⟨g, cap, rfl, _, hlt⟩ := ho.form (by omega)
          have hL400 : L.length ≤ 400 := by omega
          have hOps := ops_at ho hok
          have HOps := Lib.hid hOps
          have hcap := (owns_cut0 ho).2
          clear hok hOps
          have hXb := hb
          go_wp2_with fail
          · refine (runs_some _ _ _ _ _ _ hlt hL400 HOps.out).mono ?_
            rintro e w5 ⟨rfl, hb5⟩
            have B5 := Hb1.out.trans ((hXb.mono Hb1.out.size).trans (hb5.mono (Nat.le_trans Hb1.out.size hXb.size)))
            have C5 : ∀ i, i < 12 → w5.cell? ⟨NB, i, none⟩ = some (.int .i64 (nf i)) := fun i hi => ((hXb.trans (hb5.mono hXb.size)).cell (p := ⟨NB, i, none⟩) hN1).trans (HNf.out i hi).2.2
            have N5 : NB < w5.heap.size := Nat.lt_of_lt_of_le hN1 (Nat.le_trans hXb.size hb5.size)
            have HC5 := Lib.hid C5
            clear C5 hb5
            go_wp2_with fail
            refine (row_any 40 (by decide) w5).mono ?_
            rintro e w6 ⟨v, rfl, hb6, Lr, hLr, hcr, hor⟩
            obtain ⟨g6, cap6, rfl, _, hlt6⟩ := hor.form (by decide)
            have B6 := B5.trans (hb6.mono B5.size)
            have C6 : ∀ i, i < 12 → w6.cell? ⟨NB, i, none⟩ = some (.int .i64 (nf i)) := fun i hi => (hb6.cell (p := ⟨NB, i, none⟩) N5).trans (HC5.out i hi)
            have HC6 := Lib.hid C6
            have R6 : ∀ i, i < 40 → 0 ≤ Lr.getD i 0 ∧ Lr.getD i 0 < 256 ∧ w6.cell? ⟨g6, 0 + i, none⟩ = some (.int .u8 (Lr.getD i 0)) := by
              intro i hi
              have e : Lr.getD i 0 = Lr[i]'(by omega) := by rw [List.getD_eq_getElem?_getD, List.getElem?_eq_getElem (by omega)]; rfl
              rw [Nat.zero_add, hor.cellAt i (by omega), List.getElem?_map, List.getElem?_eq_getElem (by omega), e]
              exact ⟨(hcr _ (List.getElem_mem _)).1, (hcr _ (List.getElem_mem _)).2, rfl⟩
            have HR6 := Lib.hid R6
            clear C6 R6 hcr hLr hor
            have N6 : NB < w6.heap.size := Nat.lt_of_lt_of_le N5 hb6.size
            go_wp2_with fail
            refine (order_any g6 0 40 cap6 NB 0 12 12 _ nf w6 (by decide) (by decide) hlt6 N6 HR6.out (fun i hi => by rw [Nat.zero_add]; exact HC6.out i hi)).mono ?_
            rintro e w7 ⟨rfl, hb7⟩
            have B7 := B6.trans (hb7.mono B6.size)
            have N7 : NB < w7.heap.size := Nat.lt_of_lt_of_le N6 hb7.size
            have C7 : ∀ i, i < 12 → w7.cell? ⟨NB, i, none⟩ = some (.int .i64 (nf i)) := fun i hi => (hb7.cell (p := ⟨NB, i, none⟩) N6).trans (HC6.out i hi)
            have HC7 := Lib.hid C7
            clear C7 hb7
            go_wp2_with fail
            obtain ⟨w8, hw8⟩ : ∃ w8, w8 = (w7.alloc (.cells (([1, 1, 1, 1, 2, 1, 1, 0, 1] : List Int).map (Value.int .i64)).toArray 3)).alloc (.cells (([3, 4, 5, 6, 7, 8, 9, 10, 11] : List Int).map (Value.int .u64)).toArray 32) := ⟨_, rfl⟩
            have h1 : w8.heap[w7.heap.size]? = some (.cells (([1, 1, 1, 1, 2, 1, 1, 0, 1] : List Int).map (Value.int .i64)).toArray 3 (0, 0)) := by
              rw [hw8]
              exact (Below.heap_alloc _ _ _ (by simp)).trans (heap_alloc_new w7 _)
            have h2 : w8.heap[w7.heap.size + 1]? = some (.cells (([3, 4, 5, 6, 7, 8, 9, 10, 11] : List Int).map (Value.int .u64)).toArray 32 (0, 0)) := by
              rw [hw8]
              have := heap_alloc_new (w7.alloc (.cells (([1, 1, 1, 1, 2, 1, 1, 0, 1] : List Int).map (Value.int .i64)).toArray 3)) (.cells (([3, 4, 5, 6, 7, 8, 9, 10, 11] : List Int).map (Value.int .u64)).toArray 32)
              rw [World.size_alloc] at this
              exact this
            have hb8 : Below w7.heap.size w7 w8 := by
              rw [hw8]
              exact (((Below.refl _ w7).alloc (Nat.le_refl _) _).alloc (by simp) _)
            have hz8 : w8.heap.size = w7.heap.size + 2 := by rw [hw8]; simp
            have B8 := B7.trans (hb8.mono B7.size)
            have hT := tells_any NB 0 12 12 w7.heap.size 0 9 9 (w7.heap.size + 1) 0 9 9 nf (fun i => ([1, 1, 1, 1, 2, 1, 1, 0, 1] : List Int).getD i 0) (fun i => ([3, 4, 5, 6, 7, 8, 9, 10, 11] : List Int).getD i 0) 9 w8 (by decide) (by decide) (by decide) (by omega) (by omega) (by omega) (by decide) (by decide)
              (fun i hi => by rw [Nat.zero_add]; exact (hb8.cell (p := ⟨NB, i, none⟩) N7).trans (HC7.out i hi)) (lit_cells h1)
              (fun i hi => ⟨(lit_bounds [3, 4, 5, 6, 7, 8, 9, 10, 11] (by decide) i hi).1, (lit_bounds [3, 4, 5, 6, 7, 8, 9, 10, 11] (by decide) i hi).2, lit_cells h2 i hi⟩)
            rw [hw8] at hT
            refine hT.mono ?_
            rintro e w9 ⟨rfl, hb9⟩
            rw [← hw8] at hb9
            have B9 := B8.trans (hb9.mono B8.size)
            have HW8 := Lib.hid hw8
            clear hw8 hT h1 h2 hb8 hz8 hb9
            go_wp2_with fail
            refine (works_any w9).mono ?_
            rintro e w10 ⟨rfl, hb10⟩
            go_wp2_with fail
            go_ret
            exact ⟨rfl, B9.trans (hb10.mono B9.size)⟩
          · have hge : 400 ≤ L.length := by omega
            have hO4 : OpsAt wo g 0 400 (fun k => L.getD k ⟨0, 0, 0, 0⟩) := fun k hk => HOps.out k (by omega)
            refine (runs_some _ _ _ _ _ _ hlt (by decide) hO4).mono ?_
            clear hO4
            rintro e w5 ⟨rfl, hb5⟩
            have B5 := Hb1.out.trans ((hXb.mono Hb1.out.size).trans (hb5.mono (Nat.le_trans Hb1.out.size hXb.size)))
            have C5 : ∀ i, i < 12 → w5.cell? ⟨NB, i, none⟩ = some (.int .i64 (nf i)) := fun i hi => ((hXb.trans (hb5.mono hXb.size)).cell (p := ⟨NB, i, none⟩) hN1).trans (HNf.out i hi).2.2
            have N5 : NB < w5.heap.size := Nat.lt_of_lt_of_le hN1 (Nat.le_trans hXb.size hb5.size)
            have HC5 := Lib.hid C5
            clear C5 hb5
            go_wp2_with fail
            refine (row_any 40 (by decide) w5).mono ?_
            rintro e w6 ⟨v, rfl, hb6, Lr, hLr, hcr, hor⟩
            obtain ⟨g6, cap6, rfl, _, hlt6⟩ := hor.form (by decide)
            have B6 := B5.trans (hb6.mono B5.size)
            have C6 : ∀ i, i < 12 → w6.cell? ⟨NB, i, none⟩ = some (.int .i64 (nf i)) := fun i hi => (hb6.cell (p := ⟨NB, i, none⟩) N5).trans (HC5.out i hi)
            have HC6 := Lib.hid C6
            have R6 : ∀ i, i < 40 → 0 ≤ Lr.getD i 0 ∧ Lr.getD i 0 < 256 ∧ w6.cell? ⟨g6, 0 + i, none⟩ = some (.int .u8 (Lr.getD i 0)) := by
              intro i hi
              have e : Lr.getD i 0 = Lr[i]'(by omega) := by rw [List.getD_eq_getElem?_getD, List.getElem?_eq_getElem (by omega)]; rfl
              rw [Nat.zero_add, hor.cellAt i (by omega), List.getElem?_map, List.getElem?_eq_getElem (by omega), e]
              exact ⟨(hcr _ (List.getElem_mem _)).1, (hcr _ (List.getElem_mem _)).2, rfl⟩
            have HR6 := Lib.hid R6
            clear C6 R6 hcr hLr hor
            have N6 : NB < w6.heap.size := Nat.lt_of_lt_of_le N5 hb6.size
            go_wp2_with fail
            refine (order_any g6 0 40 cap6 NB 0 12 12 _ nf w6 (by decide) (by decide) hlt6 N6 HR6.out (fun i hi => by rw [Nat.zero_add]; exact HC6.out i hi)).mono ?_
            rintro e w7 ⟨rfl, hb7⟩
            have B7 := B6.trans (hb7.mono B6.size)
            have N7 : NB < w7.heap.size := Nat.lt_of_lt_of_le N6 hb7.size
            have C7 : ∀ i, i < 12 → w7.cell? ⟨NB, i, none⟩ = some (.int .i64 (nf i)) := fun i hi => (hb7.cell (p := ⟨NB, i, none⟩) N6).trans (HC6.out i hi)
            have HC7 := Lib.hid C7
            clear C7 hb7
            go_wp2_with fail
            obtain ⟨w8, hw8⟩ : ∃ w8, w8 = (w7.alloc (.cells (([1, 1, 1, 1, 2, 1, 1, 0, 1] : List Int).map (Value.int .i64)).toArray 3)).alloc (.cells (([3, 4, 5, 6, 7, 8, 9, 10, 11] : List Int).map (Value.int .u64)).toArray 32) := ⟨_, rfl⟩
            have h1 : w8.heap[w7.heap.size]? = some (.cells (([1, 1, 1, 1, 2, 1, 1, 0, 1] : List Int).map (Value.int .i64)).toArray 3 (0, 0)) := by
              rw [hw8]
              exact (Below.heap_alloc _ _ _ (by simp)).trans (heap_alloc_new w7 _)
            have h2 : w8.heap[w7.heap.size + 1]? = some (.cells (([3, 4, 5, 6, 7, 8, 9, 10, 11] : List Int).map (Value.int .u64)).toArray 32 (0, 0)) := by
              rw [hw8]
              have := heap_alloc_new (w7.alloc (.cells (([1, 1, 1, 1, 2, 1, 1, 0, 1] : List Int).map (Value.int .i64)).toArray 3)) (.cells (([3, 4, 5, 6, 7, 8, 9, 10, 11] : List Int).map (Value.int .u64)).toArray 32)
              rw [World.size_alloc] at this
              exact this
            have hb8 : Below w7.heap.size w7 w8 := by
              rw [hw8]
              exact (((Below.refl _ w7).alloc (Nat.le_refl _) _).alloc (by simp) _)
            have hz8 : w8.heap.size = w7.heap.size + 2 := by rw [hw8]; simp
            have B8 := B7.trans (hb8.mono B7.size)
            have hT := tells_any NB 0 12 12 w7.heap.size 0 9 9 (w7.heap.size + 1) 0 9 9 nf (fun i => ([1, 1, 1, 1, 2, 1, 1, 0, 1] : List Int).getD i 0) (fun i => ([3, 4, 5, 6, 7, 8, 9, 10, 11] : List Int).getD i 0) 9 w8 (by decide) (by decide) (by decide) (by omega) (by omega) (by omega) (by decide) (by decide)
              (fun i hi => by rw [Nat.zero_add]; exact (hb8.cell (p := ⟨NB, i, none⟩) N7).trans (HC7.out i hi)) (lit_cells h1)
              (fun i hi => ⟨(lit_bounds [3, 4, 5, 6, 7, 8, 9, 10, 11] (by decide) i hi).1, (lit_bounds [3, 4, 5, 6, 7, 8, 9, 10, 11] (by decide) i hi).2, lit_cells h2 i hi⟩)
            rw [hw8] at hT
            refine hT.mono ?_
            rintro e w9 ⟨rfl, hb9⟩
            rw [← hw8] at hb9
            have B9 := B8.trans (hb9.mono B8.size)
            have HW8 := Lib.hid hw8
            clear hw8 hT h1 h2 hb8 hz8 hb9
            go_wp2_with fail
            refine (works_any w9).mono ?_
            rintro e w10 ⟨rfl, hb10⟩
            go_wp2_with fail
            go_ret
            exact ⟨rfl, B9.trans (hb10.mono B9.size)⟩

end Go.Proofs.Ytoeppbngogjbaaa
