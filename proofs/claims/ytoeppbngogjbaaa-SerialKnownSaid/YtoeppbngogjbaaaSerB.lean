/- An input to the program's UART: kept behind the others where fewer than 16 wait, else lost. No condition but that a UART lies there. -/
import Derived.Test.YtoeppbngogjbaaaSerA
namespace Go.Proofs.Ytoeppbngogjbaaa
open Go.RowKit

theorem uf_l {q : Nat → Int} {f n : Int} {en : Bool} {v : Value} {i : Nat} (h : i < 16) : uf q f n en v i = .int .u8 (q i) := if_pos h
theorem uf_16 {q : Nat → Int} {f n : Int} {en : Bool} {v : Value} : uf q f n en v 16 = .int .i64 f := rfl
theorem uf_17 {q : Nat → Int} {f n : Int} {en : Bool} {v : Value} : uf q f n en v 17 = .int .i64 n := rfl
theorem uf_18 {q : Nat → Int} {f n : Int} {en : Bool} {v : Value} : uf q f n en v 18 = .bool en := rfl
theorem uf_19 {q : Nat → Int} {f n : Int} {en : Bool} {v : Value} : uf q f n en v 19 = v := rfl

theorem toldIn_keep {w w' : World} {base b : Nat} {D D' F : Nat → Prop} {told : Option Int} {v : Value} (h : ToldIn w base b D told v) (hm : Mod F w w')
    (hF : ∀ g, g < w.heap.size → g ≠ b → D g → ¬ F g) (hD : ∀ g, g < w.heap.size → D g → D' g) : ToldIn w' base b D' told v := by
  cases told with
  | none => exact h
  | some c =>
    obtain ⟨h0, h1, ho, hd⟩ := h
    exact ⟨h0, h1, hm.owns ho fun g hg => hF g (ho.lt g hg).2 (hd g hg).2 (hd g hg).1, fun g hg => ⟨hD g (ho.lt g hg).2 (hd g hg).1, (hd g hg).2⟩⟩

theorem uartIn_keep {w w' : World} {base b : Nat} {D D' F : Nat → Prop} {s : Ser} (h : UartIn w base b D s) (hm : Mod F w w')
    (hF : ∀ g, g < w.heap.size → D g → ¬ F g) (hD : ∀ g, g < w.heap.size → D g → D' g) : UartIn w' base b D' s := by
  obtain ⟨hd, hbase, q, first, v, hrow, hl, hf, hq, hb, ht⟩ := h
  exact ⟨hD b hrow.lt hd, hbase, q, first, v, hm.row hrow (hF b hrow.lt hd), hl, hf, hq, hb, toldIn_keep ht hm (fun g hg _ hh => hF g hg hh) hD⟩

/-- The ring behind one byte more. -/
theorem ring_push {L : List Int} {q : Nat → Int} {first n : Nat} {x : Int} (hn : n = L.length) (hn16 : n < 16) (hq : ∀ k, k < L.length → L[k]? = some (q ((first + k) % 16))) :
    ∀ k, k < (L ++ [x]).length → (L ++ [x])[k]? = some ((fun j => if j = (first + n) % 16 then x else q j) ((first + k) % 16)) := by
  intro k hk
  rw [List.length_append, List.length_singleton] at hk
  by_cases e : k = n
  · subst e
    rw [List.getElem?_append_right (by omega), hn]
    simp
  · have h1 : (first + k) % 16 ≠ (first + n) % 16 := by omega
    rw [List.getElem?_append_left (by omega), hq k (by omega)]
    simp [h1]

set_option maxHeartbeats 400000 in
theorem input_ok (base b : Nat) (D : Nat → Prop) (s : Ser) (x : Int) (w : World) (hx0 : 0 ≤ x) (hx1 : x < 256) (hs : s.L.length < 16) (hu : UartIn w base b D s) :
    Calls Try.prog 10 #[.pointer (some ⟨b, 0, none⟩), .int .u8 x] w (Ends (.bool true) fun w' => UartIn w' base b D { s with L := s.L ++ [x] } ∧ Mod D w w') := by
  obtain ⟨hD, hbase, q, first, v, hrow, hl, hf, hq, hb, ht⟩ := hu
  obtain ⟨n, hn⟩ : ∃ n, n = s.L.length := ⟨_, rfl⟩
  have c17 := hrow.cell (i := 17) (by omega)
  have c16 := hrow.cell (i := 16) (by omega)
  have ci := hrow.cell (i := (first + n) % 16) (by omega)
  rw [uf_17] at c17
  rw [uf_16] at c16
  rw [uf_l (by omega)] at ci
  have fr := fun o => hrow.frozen o
  rw [← hn] at c17
  have hne : ((n : Int) == 16) = false := by rw [beq_eq_false_iff_ne]; omega
  have H1 := Lib.hid hn
  have H2 := Lib.hid hq
  have H3 := Lib.hid hb
  have H4 := Lib.hid hrow
  have hn16 : n < 16 := by omega
  clear hn hq hb hrow
  go_enter Try.func10, Try.ntmps10
  go_wp2
  go_region
  go_wp2
  go_ret
  have hm : Mod (fun k => k = b) w ((w.setCell { block := b, off := (first + n) % 16 } (Value.int IntKind.u8 x)).setCell { block := b, off := 17 } (Value.int IntKind.i64 (↑n + 1))).drew :=
    (((Mod.refl (fun k => k = b) w).setCell (.inl rfl) _).setCell (.inl rfl) _).drew
  refine ⟨rfl, ⟨hD, hbase, fun j => if j = (first + n) % 16 then x else q j, first, v, ((H4.out.set _ _).set _ _).congr ?_, ?_, hf, ring_push H1.out hn16 H2.out, ?_, toldIn_keep ht hm (fun g _ hg _ => hg) (fun g _ h => h)⟩, hm.mono (fun k _ hk => by rw [hk]; exact hD)⟩
  · intro i hi
    have hlen : ((s.L ++ [x]).length : Int) = (n : Int) + 1 := by rw [H1.out]; simp
    simp only [uf, hlen]
    by_cases e1 : i = 17
    · subst e1; rfl
    · by_cases e2 : i = (first + n) % 16
      · have h16 : i < 16 := by omega
        simp only [if_neg e1, if_pos e2, if_pos h16]
      · simp only [if_neg e1, if_neg e2]
  · simp only [List.length_append, List.length_singleton]; omega
  · intro c hc
    rcases List.mem_append.1 hc with h | h
    · exact H3.out c h
    · rw [List.mem_singleton] at h; omega

set_option maxHeartbeats 400000 in
theorem input_full (base b : Nat) (D : Nat → Prop) (s : Ser) (x : Int) (w : World) (hs : s.L.length = 16) (hu : UartIn w base b D s) :
    Calls Try.prog 10 #[.pointer (some ⟨b, 0, none⟩), .int .u8 x] w (Ends (.bool false) fun w' => w = w') := by
  obtain ⟨hD, hbase, q, first, v, hrow, hl, hf, hq, hb, ht⟩ := hu
  have c17 := hrow.cell (i := 17) (by omega)
  rw [uf_17, hs] at c17
  clear hs hq hb hrow
  go_enter Try.func10, Try.ntmps10
  go_wp2
  go_ret
  exact ⟨rfl, rfl⟩

end Go.Proofs.Ytoeppbngogjbaaa
