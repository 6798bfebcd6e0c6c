/- Load of the reference's UART: what it answers and leaves, case by case. No condition but that a UART lies there. -/
import Derived.Test.YtoeppbngogjbaaaSerG
import Derived.Deep.Onto
namespace Go.Proofs.Ytoeppbngogjbaaa
open Go.RowKit

theorem rload_no (p : Value) (off size : Int) (w : World) (h : ¬ InReg off size) :
    Calls Try.prog 15 #[p, .int .i64 off, .int .i64 size] w (Ends (.tuple #[.int .u64 0, .bool false]) fun w' => w = w') := by
  unfold InReg at h
  by_cases h1 : size = 1
  · subst h1
    by_cases h2 : off < 0
    · go_enter Try.func15, Try.ntmps15
      go_wp2
      go_ret2
      exact ⟨rfl, rfl⟩
    · have h3 : 7 < off := by omega
      go_enter Try.func15, Try.ntmps15
      go_wp2
      go_ret2
      exact ⟨rfl, rfl⟩
  · clear h
    go_enter Try.func15, Try.ntmps15
    go_wp2
    go_ret2
    exact ⟨rfl, rfl⟩

set_option maxHeartbeats 400000 in
theorem rload_else (p : Value) (off : Int) (w : World) (h0 : 0 ≤ off) (h7 : off ≤ 7) (n0 : (off == 0) = false) (n1 : (off == 1) = false) (n5 : (off == 5) = false) :
    Calls Try.prog 15 #[p, .int .i64 off, .int .i64 1] w (Ends (.tuple #[.int .u64 0, .bool true]) fun w' => w = w') := by
  go_enter Try.func15, Try.ntmps15
  go_wp2
  go_ret2
  exact ⟨rfl, rfl⟩

theorem rload_1 (base b : Nat) (D : Nat → Prop) (s : Ser) (w : World) (hu : RUartIn w base b D s) :
    Calls Try.prog 15 #[.pointer (some ⟨b, 0, none⟩), .int .i64 1, .int .i64 1] w (Ends (.tuple #[.int .u64 (if s.en then 1 else 0), .bool true]) fun w' => w = w') := by
  obtain ⟨hD, hbase, lv, hrow, ho, hg, hl, hb⟩ := hu
  have c1 := hrow.cell (i := 1) (by omega)
  rw [show ∀ lv en t, rf lv en t 1 = .bool en from fun _ _ _ => rfl] at c1
  clear hrow hg hb
  obtain ⟨L, en, told⟩ := s
  cases en
  all_goals
    go_enter Try.func15, Try.ntmps15
    go_wp2
    go_ret2
    exact ⟨rfl, rfl⟩

theorem rload_5 (base b : Nat) (D : Nat → Prop) (s : Ser) (w : World) (hu : RUartIn w base b D s) :
    Calls Try.prog 15 #[.pointer (some ⟨b, 0, none⟩), .int .i64 5, .int .i64 1] w (Ends (.tuple #[.int .u64 (if s.L.length = 0 then 96 else 97), .bool true]) fun w' => w = w') := by
  obtain ⟨hD, hbase, lv, hrow, ho, hg, hl, hb⟩ := hu
  obtain ⟨A, cap, rfl, _⟩ := owns_form ho
  have c0 := hrow.cell (i := 0) (by omega)
  rw [show ∀ lv en t, rf lv en t 0 = lv from fun _ _ _ => rfl] at c0
  clear hrow hg hb ho
  by_cases hs : s.L.length = 0
  · rw [hs] at c0
    go_enter Try.func15, Try.ntmps15
    go_wp2
    go_ret2
    exact ⟨by simp, rfl⟩
  · go_enter Try.func15, Try.ntmps15
    go_wp2
    go_ret2
    exact ⟨by simp, rfl⟩

theorem rload_0n (base b : Nat) (D : Nat → Prop) (s : Ser) (w : World) (hs : s.L = []) (hu : RUartIn w base b D s) :
    Calls Try.prog 15 #[.pointer (some ⟨b, 0, none⟩), .int .i64 0, .int .i64 1] w (Ends (.tuple #[.int .u64 0, .bool true]) fun w' => w = w') := by
  obtain ⟨hD, hbase, lv, hrow, ho, hg, hl, hb⟩ := hu
  rw [hs] at ho
  obtain ⟨A, cap, rfl, _⟩ := owns_form ho
  have c0 := hrow.cell (i := 0) (by omega)
  rw [show ∀ lv en t, rf lv en t 0 = lv from fun _ _ _ => rfl] at c0
  clear hrow hg hb ho hs
  go_enter Try.func15, Try.ntmps15
  go_wp2
  go_ret2
  exact ⟨rfl, rfl⟩

set_option maxHeartbeats 1000000 in
theorem rload_0c (base b : Nat) (D : Nat → Prop) (en : Bool) (told : Option Int) (c : Int) (L : List Int) (w : World) (hu : RUartIn w base b D ⟨c :: L, en, told⟩) :
    Calls Try.prog 15 #[.pointer (some ⟨b, 0, none⟩), .int .i64 0, .int .i64 1] w (Ends (.tuple #[.int .u64 c, .bool true]) fun w' => RUartIn w' base b (more D w) ⟨L, en, told⟩ ∧ Mod D w w') := by
  obtain ⟨hD, hbase, lv, hrow, ho, hg, hl, hb⟩ := hu
  obtain ⟨n, hn⟩ : ∃ n, n = L.length := ⟨_, rfl⟩
  have hlen : ({ L := c :: L, en := en, told := told } : Ser).L.length = n + 1 := by rw [hn]; rfl
  rw [hlen] at ho hl
  obtain ⟨g, cap, rfl, hbg, hlg⟩ := ho.form (by omega)
  have c0 := hrow.cell (i := 0) (by omega)
  rw [show ∀ lv en t, rf lv en t 0 = lv from fun _ _ _ => rfl] at c0
  have fr := fun o => hrow.frozen o
  have hlt := hrow.lt
  have cl : ∀ k, k < n → w.cell? ⟨g, k + 1, none⟩ = some (.int .u8 (L.getD k 0)) := by
    intro k hk
    rw [ho.cellAt (k + 1) (by omega)]
    simp [List.getElem?_eq_getElem (show k < L.length by omega)]
  have cg0 : w.cell? ⟨g, 0, none⟩ = some (.int .u8 c) := by rw [ho.cellAt 0 (by omega)]; rfl
  have hc := hb c (by simp)
  have hc0 := hc.1
  have hc1 := hc.2
  have hbase' : base ≤ w.heap.size := by omega
  have H4 := Lib.hid hrow
  have H5 := Lib.hid hg
  have H6 := Lib.hid hb
  have H7 := Lib.hid hn
  have H8 := Lib.hid cl
  clear hrow hg hb hn cl hc hlen ho
  obtain ⟨i0, hi, hz0, hz1, hz2⟩ := info_parts info_u8
  go_enter Try.func15, Try.ntmps15
  go_wp2
  go_loopw [9, 10] (fun left i wr => ∃ k : Nat, k ≤ n ∧ i = .int .i64 ((k + 1 : Nat) : Int) ∧ wr.ownsRow w.heap.size 5 1 left k ((L.take k).map (Value.int .u8)) ∧ Mod Nil w wr) (fun _ i _ => n + 1 - (intOf i).toNat)
  case atStart => exact ⟨0, Nat.zero_le _, rfl, World.ownsRow_nil _ _ _ _, Mod.refl _ _⟩
  case round =>
    obtain ⟨k, hk, rfl, hown, hm⟩ := hrel
    have hwr := hm.size
    have c0' := (hm.cell (p := ⟨b, 0, none⟩) hlt id).trans c0
    have fr' : wr.frozen? ⟨b, 0, none⟩ = false := (hm.frozen (p := ⟨b, 0, none⟩) hlt id).trans (fr 0)
    by_cases hkn : k < n
    · have cgk : wr.cell? ⟨g, k + 1, none⟩ = some (.int .u8 (L.getD k 0)) := (hm.cell (p := ⟨g, k + 1, none⟩) hlg id).trans (H8.out k hkn)
      have hgen : ∃ x, x = L.getD k 0 := ⟨_, rfl⟩
      obtain ⟨x, hx⟩ := hgen
      rw [← hx] at cgk
      have Hx := Lib.hid hx
      have Hm := Lib.hid hm
      clear hx hm fr c0 fr' cg0
      go_wp2_with (at_builtin; refine wpList_append_lies _ rfl _ _ 39 rfl w.heap.size 5 i0 (.int .u8 0) 1 1 Try.underlying39 hi hz0 hz1 hz2 rfl (by decide) _ k _ rfl (hown.alloc _) ⟨wr.heap.size, 0, none⟩ 1 1 [.int .u8 x] rfl rfl ?c1 ?c2 (by decide) ?c3 ?c4 ?c5 _ rfl ?_; rotate_right; intro g' cap' w1 hown1 hgrow hwhere hlt')
      case c1 => exact cell_one_new _ _ _
      case c2 => intro u hu; rw [List.mem_singleton] at hu; subst hu; rfl
      case c3 => simp only [maxLen]; omega
      case c4 => omega
      case c5 => rw [World.size_alloc]; omega
      go_roundw
      case rel =>
        refine ⟨k + 1, by omega, by go_num, ?_, ?_⟩
        · rw [show L.take (k + 1) = L.take k ++ [x] from by
            rw [Hx.out, List.take_succ_eq_append_getElem (by have := H7.out; omega)]
            simp [List.getElem?_eq_getElem (show k < L.length by have := H7.out; omega)], List.map_append]
          exact hown1
        · exact (Hm.out.alloc _).grown hgrow (fun k' hk' => .inr (hown.lt k' hk').1)
      case measure => simp [intOf]; omega
    · obtain rfl : k = n := by omega
      have Hm := Lib.hid hm
      obtain ⟨A', cap', rfl, _⟩ := owns_form hown
      clear hm fr c0 cg0
      go_wp2
      go_ret2
      have hLn : L.take k = L := by rw [H7.out]; exact List.take_length
      rw [hLn] at hown
      have hown' : wr.ownsRow base 5 1 (.slice A' L.length cap') L.length (L.map (Value.int .u8)) := by
        have := hown.mono hbase'
        rwa [H7.out] at this
      have hnb : ∀ g, (Value.slice A' L.length cap').ownBlock = some g → w.heap.size ≤ g := by
        intro g e
        rw [← H7.out] at e
        exact (hown.lt g e).1
      refine ⟨rfl, ⟨.inl hD, hbase, _, ((Hm.out.row H4.out id).set _ _).congr ?_, owns_setCell hown' ?_ _, fun g e => ⟨.inr (hnb g e), ?_⟩, ?_, ?_⟩, ((Hm.out.of_nil D).setCell (.inl hD) _)⟩
      · intro i hi
        obtain rfl | rfl | rfl : i = 0 ∨ i = 1 ∨ i = 2 := by omega
        · show Value.slice A' k cap' = Value.slice A' L.length cap'
          rw [H7.out]
        all_goals rfl
      · intro g e
        have := hnb g e
        show g ≠ b
        omega
      · have := hnb g e
        omega
      · show L.length ≤ 16
        have := H7.out
        omega
      · intro c' hc'
        exact H6.out c' (List.mem_cons_of_mem _ hc')

end Go.Proofs.Ytoeppbngogjbaaa
