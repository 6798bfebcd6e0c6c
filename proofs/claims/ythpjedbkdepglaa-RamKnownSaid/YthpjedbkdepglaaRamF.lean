/- The program's memory over one abstract state: New and Tagged: what each answers and leaves. Condition of Tagged: a memory lies there. -/
import Derived.Test.YthpjedbkdepglaaRamE
import Derived.OwnWalk
namespace Go.Proofs.Ythpjedbkdepglaa
open Go.RowKit

theorem raminfo_u8 : (Try.prog.info? 5).map (fun i => (i.zero, i.size, i.bytes)) = some (some (.int .u8 0), 1, 1) := by kernel_rfl
theorem raminfo_int : (Try.prog.info? 3).map (fun i => (i.zero, i.size, i.bytes)) = some (some (.int .i64 0), 1, 8) := by kernel_rfl

/-- A memory's zero value. -/
def ramZero : Array Value := (Value.slice none 0 0 :: List.replicate 64 (.int .u64 0)).toArray
theorem info_ram : (Try.prog.info? 56).map (fun i => i.zero) = some (some (.agg ramZero)) := by kernel_rfl
theorem ram_zero (w : World) : Sem.run Try.prog (zeroValue 56) w = .ok (.agg ramZero) w := by
  obtain ⟨i, hi, hz⟩ := Option.map_eq_some_iff.1 info_ram
  simp [zeroValue, typeInfo, hi, hz]
theorem ramZero_ne : ¬ ramZero = #[] := by decide
theorem ramZero_size : ramZero.size = 65 := by decide

theorem ram_born (w : World) (t : TypeId) (rb n : Nat) : (w.alloc (.cells (ramZero.setIfInBounds 0 (.slice (some ⟨rb, 0, none⟩) n n)) t)).rowIs w.heap.size t 65 (rfc rb n fun _ => 0) := by
  refine ⟨_, heap_alloc_new w _, by rw [Array.size_setIfInBounds]; exact ramZero_size, fun i hi => ?_⟩
  rw [Array.getElem?_setIfInBounds]
  by_cases e : 0 = i
  · subst e
    rfl
  · rw [if_neg e]
    unfold rfc
    rw [if_neg (Ne.symm e)]
    obtain ⟨j, rfl⟩ : ∃ j, i = j + 1 := ⟨i - 1, by omega⟩
    show ((Value.slice none 0 0 :: List.replicate 64 (.int .u64 0)).toArray)[j + 1]? = _
    rw [List.getElem?_toArray, List.getElem?_cons_succ, List.getElem?_replicate, if_pos (by omega)]
    rfl

set_option maxRecDepth 100000 in
theorem new_yes (n : Nat) (w : World) (h1 : 4096 ≤ n) (h2 : n ≤ 65536) (h3 : n % 4096 = 0) :
    Calls Try.prog 8 #[.int .i64 (n : Int)] w (Ends (.tuple #[.pointer (some ⟨w.heap.size + 1, 0, none⟩), .int .i64 0]) fun w' => RamAt w' (w.heap.size + 1) w.heap.size (Mem.zero n) ∧ Mod Nil w w' ∧ w'.heap.size = w.heap.size + 2) := by
  have hmk := run_make_row' (P := Try.prog) 42 5 (.int .u8 0) 1 Try.underlying42 raminfo_u8 rfl .i64 .i64 n (by omega) (by omega)
  go_enter Try.func8, Try.ntmps8
  go_wp2
  · exfalso
    rename_i h
    rcases h with (h | h) | h
    · omega
    · omega
    · simp at h; omega
  rw [ram_zero]
  have hne := ramZero_ne
  go_wp2
  go_ret2
  have hb := ram_born (w.alloc (.cells (madeCells #[.int .u8 0] n) 5)) 56 w.heap.size n
  rw [World.size_alloc] at hb
  exact ⟨rfl, ⟨h1, h2, h3, fun _ => by show (0 : Nat) < 256; decide, by omega, (World.rowIs_made w (.int .u8 0) n _).alloc _, fun _ => 0, hb, fun j => ⟨by show (0 : Nat) < _; decide, fun k _ => by simp [Mem.zero]⟩⟩, ((Mod.refl Nil w).alloc _).alloc _, by simp⟩

theorem new_no (n : Int) (w : World) (h : ¬ SizeOk n) :
    Calls Try.prog 8 #[.int .i64 n] w (Ends (.tuple #[.pointer none, .int .i64 3]) fun w' => w = w') := by
  unfold SizeOk at h
  by_cases h1 : n < 4096
  · go_enter Try.func8, Try.ntmps8
    go_wp2
    go_ret2
    exact ⟨rfl, rfl⟩
  · by_cases h2 : 65536 < n
    · go_enter Try.func8, Try.ntmps8
      go_wp2
      go_ret2
      exact ⟨rfl, rfl⟩
    · have hz : ((n.tmod 4096 == 0) : Bool) = false := by rw [Int.tmod_eq_emod_of_nonneg (by omega)]; simp; omega
      have hz2 : ((n % 4096 == 0) : Bool) = false := by simp; omega
      go_enter Try.func8, Try.ntmps8
      go_wp2
      go_ret2
      exact ⟨rfl, rfl⟩

/-- Tags among the first granules. -/
def tagsTo (T : Nat → Bool) (q : Nat) : List Int := ((List.range q).filter T).map fun g => ((16 * g : Nat) : Int)
theorem tagsTo_yes {T : Nat → Bool} {q : Nat} (h : T q = true) : tagsTo T (q + 1) = tagsTo T q ++ [((16 * q : Nat) : Int)] := by
  simp [tagsTo, List.range_succ, List.filter_append, h]
theorem tagsTo_no {T : Nat → Bool} {q : Nat} (h : T q = false) : tagsTo T (q + 1) = tagsTo T q := by
  simp [tagsTo, List.range_succ, List.filter_append, h]
theorem tagsTo_le (T : Nat → Bool) (q : Nat) : (tagsTo T q).length ≤ q := by
  simpa [tagsTo] using List.length_filter_le T (List.range q)

theorem tagged_at {w : World} {r rb : Nat} {M : Mem} (h : RamAt w r rb M) :
    Calls Try.prog 14 #[.pointer (some ⟨r, 0, none⟩)] w fun e w' => ∃ v, e = .returned v ∧ w'.ownsRow w.heap.size 3 1 v M.tagged.length (M.tagged.map (Value.int .i64)) ∧ Mod Nil w w' := by
  have c0 := h.c0
  have hlt := h.lt
  obtain ⟨a, b, c, d, e, hb, tw, hr, hw⟩ := h
  obtain ⟨i0, hi, hz0, hz1, hz2⟩ := info_parts raminfo_int
  have he : M.tagged = tagsTo M.T (M.n / 16) := rfl
  rw [he]
  have HR := Lib.hid hr
  have HW := Lib.hid hw
  clear hr hw hb d he
  go_enter Try.func14, Try.ntmps14
  go_wp2
  go_loopw [3, 4] (fun v i wr => ∃ q : Nat, q ≤ M.n / 16 ∧ i = .int .i64 ((16 * q : Nat) : Int) ∧ wr.ownsRow w.heap.size 3 1 v (tagsTo M.T q).length ((tagsTo M.T q).map (Value.int .i64)) ∧ Mod Nil w wr) (fun _ i _ => M.n - (intOf i).toNat)
  case atStart => exact ⟨0, Nat.zero_le _, rfl, World.ownsRow_nil _ _ _ _, Mod.refl _ _⟩
  case round =>
    obtain ⟨q, hq, rfl, ho, hm⟩ := hrel
    have c0r := (hm.cell (p := ⟨r, 0, none⟩) hlt.1 (fun x => x)).trans c0
    have HM := Lib.hid hm
    have HO := Lib.hid ho
    clear hm ho
    have hll := tagsTo_le M.T q
    by_cases hqn : q < M.n / 16
    · obtain ⟨o, ho⟩ : ∃ o : Nat, o = 16 * q := ⟨_, rfl⟩
      have hon : o < M.n := by omega
      rw [← ho]
      have hoq : o / 16 = q := by omega
      have Ho := Lib.hid ho
      have Hoq := Lib.hid hoq
      clear ho hoq
      go_wp2_with (fail)
      go_at_call 25
      refine (tag_any _ o _ (by omega)).mono ?_
      rintro e w3 ⟨rfl, hm3⟩
      have hm4 := hm3
      have hm3 : Mod Nil w w3 := HM.out.trans' hm3
      have hr3 := hm3.row HR.out (fun x => x)
      have c3 := hr3.cell (i := 1 + o / 16 / 64) (by omega)
      rw [rfc_s] at c3
      have hwt := words_test HW.out (o / 16)
      rw [two_cast, Hoq.out] at hwt
      rw [Hoq.out] at c3
      have HM3 := Lib.hid hm3
      clear hr3 hm3
      rw [Hoq.out]
      by_cases hT : M.T q = true
      · rw [hT] at hwt
        have sz := HM3.out.size
        have ho3 := Mod.owns (F := fun k => k < w.heap.size) (hm4.of_nil _) HO.out fun g hg => by have := (HO.out.lt g hg).1; omega
        have HO3 := Lib.hid ho3
        clear ho3
        go_wp2_with (at_builtin; refine wpList_append_lies _ rfl _ _ 34 rfl w.heap.size 3 i0 (.int .i64 0) 1 8 Try.underlying34 hi hz0 hz1 hz2 rfl (by decide) _ (tagsTo M.T q).length _ rfl (HO3.out.alloc _) ⟨w3.heap.size, 0, none⟩ 1 1 [.int .i64 (o : Int)] rfl rfl ?c1 ?c2 (by decide) ?c3 ?c4 ?c5 _ rfl ?_; rotate_right; intro g' cap' w4 hown hgrow hat hlt')
        case c1 => exact cell_one_new _ _ _
        case c2 => intro u hu; rw [List.mem_singleton] at hu; subst hu; rfl
        case c3 => simp only [maxLen]; omega
        case c4 => omega
        case c5 => rw [World.size_alloc]; omega
        go_roundw
        case rel =>
          refine ⟨q + 1, by omega, congrArg (Value.int .i64) (by have := Ho.out; omega), ?_, (HM3.out.alloc _).grown hgrow fun k hk => .inr (HO3.out.lt k hk).1⟩
          rw [tagsTo_yes hT, List.map_append, List.length_append, ← Ho.out]
          exact hown
        case measure => have := Ho.out; simp [intOf]; omega
      · have hT := Bool.eq_false_iff.2 hT
        rw [hT] at hwt
        go_wp2
        go_roundw
        case rel =>
          exact ⟨q + 1, by omega, congrArg (Value.int .i64) (by have := Ho.out; omega), by rw [tagsTo_no hT]; exact hm4.owns HO.out fun _ _ x => x, HM3.out⟩
        case measure => have := Ho.out; simp [intOf]; omega
    · obtain rfl : q = M.n / 16 := by omega
      go_wp2
      go_ret
      exact ⟨_, rfl, HO.out, HM.out⟩

end Go.Proofs.Ythpjedbkdepglaa
