/- The reference's UART: new, Waits, Output, Input: what each answers and leaves. No condition but that a UART lies there. -/
import Derived.Test.YtoeppbngogjbaaaSerF
namespace Go.Proofs.Ytoeppbngogjbaaa
open Go.RowKit

def rf (lv : Value) (en : Bool) (told : Int) (i : Nat) : Value := if i = 0 then lv else if i = 1 then .bool en else .int .i64 told

/-- A UART of the reference at block b. -/
def RUartIn (w : World) (base b : Nat) (D : Nat → Prop) (s : Ser) : Prop :=
  D b ∧ base ≤ b ∧ ∃ lv, w.rowIs b 55 3 (rf lv s.en (s.told.getD (-1))) ∧ w.ownsRow base 5 1 lv s.L.length (s.L.map (Value.int .u8)) ∧
    (∀ g, lv.ownBlock = some g → D g ∧ g ≠ b) ∧ s.L.length ≤ 16 ∧ (∀ c, c ∈ s.L → 0 ≤ c ∧ c < 256)

theorem ruartIn_keep {w w' : World} {base b : Nat} {D D' F : Nat → Prop} {s : Ser} (h : RUartIn w base b D s) (hm : Mod F w w')
    (hF : ∀ g, g < w.heap.size → D g → ¬ F g) (hD : ∀ g, g < w.heap.size → D g → D' g) : RUartIn w' base b D' s := by
  obtain ⟨hd, hbase, lv, hrow, ho, hg, hl, hb⟩ := h
  exact ⟨hD b hrow.lt hd, hbase, lv, hm.row hrow (hF b hrow.lt hd), hm.owns ho fun g e => hF g (ho.lt g e).2 (hg g e).1, fun g e => ⟨hD g (ho.lt g e).2 (hg g e).1, (hg g e).2⟩, hl, hb⟩

theorem rnew_any (w : World) (D : Nat → Prop) (hD : D w.heap.size) (base : Nat) (hb : base ≤ w.heap.size) :
    Calls Try.prog 7 #[] w (Ends (.pointer (some ⟨w.heap.size, 0, none⟩)) fun w' => RUartIn w' base w.heap.size D ⟨[], false, none⟩ ∧ Mod Nil w w' ∧ w'.heap.size = w.heap.size + 1) := by
  go_enter Try.func7, Try.ntmps7
  go_wp2
  go_ret
  refine ⟨rfl, ⟨hD, hb, .slice none 0 0, (World.rowIs_alloc w _ _ _ ?_), World.ownsRow_nil _ _ _ _, by simp [Value.ownBlock], by simp, by simp⟩, (Mod.refl Nil w).alloc _, by simp⟩
  intro i hi
  have hi : i < 3 := hi
  rcases i with _ | _ | _ | i
  all_goals first | rfl | omega

theorem rwaits_any (base b : Nat) (D : Nat → Prop) (s : Ser) (w : World) (hu : RUartIn w base b D s) :
    Calls Try.prog 23 #[.pointer (some ⟨b, 0, none⟩)] w (Ends (.int .i64 s.L.length) fun w' => w = w') := by
  obtain ⟨hD, hbase, lv, hrow, ho, hg, hl, hb⟩ := hu
  obtain ⟨A, cap, rfl, _⟩ := owns_form ho
  have c0 := hrow.cell (i := 0) (by omega)
  rw [show ∀ lv en t, rf lv en t 0 = lv from fun _ _ _ => rfl] at c0
  clear hrow hg hb
  go_enter Try.func23, Try.ntmps23
  go_wp2
  go_ret
  exact ⟨rfl, rfl⟩

theorem routput_any (base b : Nat) (D : Nat → Prop) (s : Ser) (w : World) (hu : RUartIn w base b D s) :
    Calls Try.prog 13 #[.pointer (some ⟨b, 0, none⟩)] w (Ends (.int .i64 (s.told.getD (-1))) fun w' => RUartIn w' base b D { s with told := none } ∧ Mod D w w') := by
  obtain ⟨hD, hbase, lv, hrow, ho, hg, hl, hb⟩ := hu
  have c2 := hrow.cell (i := 2) (by omega)
  rw [show ∀ lv en t, rf lv en t 2 = .int .i64 t from fun _ _ _ => rfl] at c2
  have fr := fun o => hrow.frozen o
  have H4 := Lib.hid hrow
  have H5 := Lib.hid hg
  have H6 := Lib.hid hb
  clear hrow hg hb
  go_enter Try.func13, Try.ntmps13
  go_wp2
  go_ret
  refine ⟨rfl, ⟨hD, hbase, lv, (H4.out.set _ _).congr ?_, owns_setCell ho (fun g e => (H5.out g e).2) _, H5.out, hl, H6.out⟩, (Mod.refl D w).setCell (.inl hD) _⟩
  intro i hi
  obtain rfl | rfl | rfl : i = 0 ∨ i = 1 ∨ i = 2 := by omega
  all_goals rfl

theorem rinput_full (base b : Nat) (D : Nat → Prop) (s : Ser) (x : Int) (w : World) (hs : s.L.length = 16) (hu : RUartIn w base b D s) :
    Calls Try.prog 11 #[.pointer (some ⟨b, 0, none⟩), .int .u8 x] w (Ends (.bool false) fun w' => w = w') := by
  obtain ⟨hD, hbase, lv, hrow, ho, hg, hl, hb⟩ := hu
  rw [hs] at ho
  obtain ⟨A, cap, rfl, _⟩ := owns_form ho
  have c0 := hrow.cell (i := 0) (by omega)
  rw [show ∀ lv en t, rf lv en t 0 = lv from fun _ _ _ => rfl] at c0
  clear hrow hg hb hs
  go_enter Try.func11, Try.ntmps11
  go_wp2
  go_ret
  exact ⟨rfl, rfl⟩

set_option maxHeartbeats 400000 in
theorem rinput_ok (base b : Nat) (D : Nat → Prop) (s : Ser) (x : Int) (w : World) (hx0 : 0 ≤ x) (hx1 : x < 256) (hs : s.L.length < 16) (hu : RUartIn w base b D s) :
    Calls Try.prog 11 #[.pointer (some ⟨b, 0, none⟩), .int .u8 x] w (Ends (.bool true) fun w' => RUartIn w' base b (more D w) { s with L := s.L ++ [x] } ∧ Mod D w w') := by
  obtain ⟨hD, hbase, lv, hrow, ho, hg, hl, hb⟩ := hu
  obtain ⟨n, hn⟩ : ∃ n, n = s.L.length := ⟨_, rfl⟩
  rw [← hn] at ho hs
  obtain ⟨A, cap, rfl, _⟩ := owns_form ho
  have c0 := hrow.cell (i := 0) (by omega)
  rw [show ∀ lv en t, rf lv en t 0 = lv from fun _ _ _ => rfl] at c0
  have fr := fun o => hrow.frozen o
  have hlt := hrow.lt
  have H4 := Lib.hid hrow
  have H5 := Lib.hid hg
  have H6 := Lib.hid hb
  have H7 := Lib.hid hn
  clear hrow hg hb hn
  obtain ⟨i0, hi, hz0, hz1, hz2⟩ := info_parts info_u8
  go_enter Try.func11, Try.ntmps11
  go_wp2_with (at_builtin; refine wpList_append_lies _ rfl _ _ 39 rfl base 5 i0 (.int .u8 0) 1 1 Try.underlying39 hi hz0 hz1 hz2 rfl (by decide) _ n _ rfl (ho.alloc _) ⟨w.heap.size, 0, none⟩ 1 1 [.int .u8 x] rfl rfl ?c1 ?c2 (by decide) ?c3 ?c4 ?c5 _ rfl ?_; rotate_right; intro g' cap' w1 hown hgrow hwhere hlt'; have hr1 := grown_row (H4.out.alloc _) hgrow (fun e => (H5.out b e).2 rfl); have hcell := hr1.cell (i := 0) (by omega); have hfz := hr1.frozen 0; have H8 := Lib.hid hr1; clear hr1 c0 fr; rw [show ∀ lv en t, rf lv en t 0 = lv from fun _ _ _ => rfl] at hcell)
  case c1 => exact cell_one_new _ _ _
  case c2 => intro u hu; rw [List.mem_singleton] at hu; subst hu; rfl
  case c3 => simp only [maxLen]; omega
  case c4 => omega
  case c5 => rw [World.size_alloc]; omega
  go_ret
  have hg' : (D g' ∧ g' ≠ b) ∨ g' = w.heap.size + 1 := by
    rcases hwhere with h | h
    · exact .inl (H5.out g' h)
    · rw [World.size_alloc] at h; exact .inr h
  have hgb : g' ≠ b := by
    rcases hg' with h | h
    · exact h.2
    · omega
  have hown' : w1.ownsRow base 5 1 (.slice (some ⟨g', 0, none⟩) (s.L ++ [x]).length cap') (s.L ++ [x]).length ((s.L ++ [x]).map (Value.int .u8)) := by
    rw [show (s.L ++ [x]).length = n + 1 from by rw [H7.out]; simp, List.map_append]
    exact hown
  have hm : Mod D w (w1.setCell { block := b, off := 0 } (Value.slice (some { block := g', off := 0 }) (n + 1) cap')) :=
    (((Mod.refl D w).alloc _).grown hgrow (fun k hk => .inl (H5.out k hk).1)).setCell (.inl hD) _
  refine ⟨rfl, ⟨.inl hD, hbase, _, (H8.out.set _ _).congr ?_, owns_setCell hown' ?_ _, ?_, ?_, ?_⟩, hm⟩
  · intro i hi
    obtain rfl | rfl | rfl : i = 0 ∨ i = 1 ∨ i = 2 := by omega
    · show Value.slice _ (n + 1) cap' = Value.slice _ (s.L ++ [x]).length cap'
      rw [show (s.L ++ [x]).length = n + 1 from by rw [H7.out]; simp]
    all_goals rfl
  · intro g hg
    have hg : g' = g := by simpa [Value.ownBlock] using hg
    subst hg
    exact hgb
  · intro g hg
    have hg : g' = g := by simpa [Value.ownBlock] using hg
    subst hg
    refine ⟨?_, hgb⟩
    rcases hg' with h | h
    · exact .inl h.1
    · exact .inr (by omega)
  · show (s.L ++ [x]).length ≤ 16
    have := H7.out
    simp only [List.length_append, List.length_singleton]; omega
  · intro c hc
    rcases List.mem_append.1 hc with h | h
    · exact H6.out c h
    · rw [List.mem_singleton] at h; omega

end Go.Proofs.Ytoeppbngogjbaaa
