/- UART and switch of program and reference side by side, by colours of blocks: each call answers alike over one state. No condition but that they lie there. -/
import Derived.Test.YtoeppbngogjbaaaSerJ
import Derived.Deep.RegionHeld3
import Derived.Deep.DrawnRows
namespace Go.Proofs.Ytoeppbngogjbaaa
open Go.RowKit
attribute [local go_sem ↓] Go.wp_at_zero Go.wp_at_succ

/-- What an input answers, and leaves. -/
def serInput (x : Int) (s : Ser) : Bool × Ser := if s.L.length < 16 then (true, { s with L := s.L ++ [x] }) else (false, s)

theorem input_any (base b : Nat) (D : Nat → Prop) (s : Ser) (x : Int) (w : World) (hx0 : 0 ≤ x) (hx1 : x < 256) (hu : UartIn w base b D s) :
    Calls Try.prog 10 #[.pointer (some ⟨b, 0, none⟩), .int .u8 x] w (Ends (.bool (serInput x s).1) fun w' => UartIn w' base b (more D w) (serInput x s).2 ∧ Mod D w w') := by
  unfold serInput
  by_cases h : s.L.length < 16
  · rw [if_pos h]
    exact (input_ok base b D s x w hx0 hx1 h hu).mono fun _ _ ⟨he, h1, h2⟩ => ⟨he, uartIn_more h1 _, h2⟩
  · rw [if_neg h]
    have h16 : s.L.length = 16 := by
      obtain ⟨_, _, _, _, _, _, hl, _⟩ := hu
      omega
    exact (input_full base b D s x w h16 hu).mono fun e w' ⟨he, hw⟩ => ⟨he, by subst hw; exact ⟨uartIn_more hu _, Mod.refl _ _⟩⟩

theorem rinput_any (base b : Nat) (D : Nat → Prop) (s : Ser) (x : Int) (w : World) (hx0 : 0 ≤ x) (hx1 : x < 256) (hu : RUartIn w base b D s) :
    Calls Try.prog 11 #[.pointer (some ⟨b, 0, none⟩), .int .u8 x] w (Ends (.bool (serInput x s).1) fun w' => RUartIn w' base b (more D w) (serInput x s).2 ∧ Mod D w w') := by
  unfold serInput
  by_cases h : s.L.length < 16
  · rw [if_pos h]
    exact rinput_ok base b D s x w hx0 hx1 h hu
  · rw [if_neg h]
    have h16 : s.L.length = 16 := by
      obtain ⟨_, _, _, _, _, _, hl, _⟩ := hu
      omega
    exact (rinput_full base b D s x w h16 hu).mono fun e w' ⟨he, hw⟩ => ⟨he, by subst hw; exact ⟨ruartIn_more hu _, Mod.refl _ _⟩⟩

theorem powIn_more {w : World} {base b : Nat} {D : Nat → Prop} {s : Bool} (h : PowIn w base b D s) (W : World) : PowIn w base b (more D W) s := ⟨.inl h.1, h.2.1, h.2.2⟩
theorem rpowIn_more {w : World} {base b : Nat} {D : Nat → Prop} {s : Bool} (h : RPowIn w base b D s) (W : World) : RPowIn w base b (more D W) s := ⟨.inl h.1, h.2.1, h.2.2⟩

/-- The four things that SerialRuns plays with, by colours; b: a block beside them. -/
def FourC (W : World) (w : World) (s t : Ser) (o q : Bool) (c : Nat → Nat) : Prop :=
  W.heap.size + 4 ≤ w.heap.size ∧ Own W w c ∧
    UartIn w W.heap.size W.heap.size (fun k => c k = 1) s ∧ RUartIn w W.heap.size (W.heap.size + 1) (fun k => c k = 2) t ∧ PowIn w W.heap.size (W.heap.size + 1 + 1) (fun k => c k = 3) o ∧ RPowIn w W.heap.size (W.heap.size + 1 + 1 + 1) (fun k => c k = 4) q

def Four0 (W : World) (w : World) (s t : Ser) (o q : Bool) : Prop := ∃ c, FourC W w s t o q c
def Four (W : World) (w : World) (s t : Ser) (o q : Bool) (b : Nat) : Prop := ∃ c, FourC W w s t o q c ∧ b < w.heap.size ∧ c b ≠ 1 ∧ c b ≠ 2 ∧ c b ≠ 3 ∧ c b ≠ 4
theorem Four.zero {W w : World} {s t : Ser} {o q : Bool} {b : Nat} (h : Four W w s t o q b) : Four0 W w s t o q := by
  obtain ⟨c, h, _⟩ := h
  exact ⟨c, h⟩

theorem FourC.step {W w w' : World} {s t s' t' : Ser} {o q o' q' : Bool} {i : Nat} {c : Nat → Nat} (h : FourC W w s t o q c) (hi : i ≠ 0) (hm : Mod (fun k => c k = i) w w')
    (hu : if i = 1 then UartIn w' W.heap.size W.heap.size (more (fun k => c k = 1) w) s' else s' = s) (hr : if i = 2 then RUartIn w' W.heap.size (W.heap.size + 1) (more (fun k => c k = 2) w) t' else t' = t)
    (hp : if i = 3 then PowIn w' W.heap.size (W.heap.size + 1 + 1) (more (fun k => c k = 3) w) o' else o' = o) (hq : if i = 4 then RPowIn w' W.heap.size (W.heap.size + 1 + 1 + 1) (more (fun k => c k = 4) w) q' else q' = q) :
    FourC W w' s' t' o' q' (col c w.heap.size i) := by
  obtain ⟨hz, ho, u, r, p, q⟩ := h
  have hc : ∀ k, k < w.heap.size → col c w.heap.size i k = c k := fun k hk => col_lt hk
  have hg : ∀ j k, k < w'.heap.size → more (fun k => c k = i) w k → j = i → col c w.heap.size i k = j := by
    intro j k _ hh e
    rcases Nat.lt_or_ge k w.heap.size with hlt | hge
    · rw [hc k hlt]
      rcases hh with hh | hh
      · exact hh.trans e.symm
      · omega
    · rw [col_ge hge]; exact e.symm
  have hs : ∀ j, j ≠ i → ∀ k, k < w.heap.size → c k = j → ¬ c k = i := fun j hj k _ e e' => hj (e.symm.trans e')
  have hd : ∀ j, ∀ k, k < w.heap.size → c k = j → col c w.heap.size i k = j := fun j k hk e => by rw [hc k hk]; exact e
  refine ⟨Nat.le_trans hz hm.size, ho.step hi hm, ?_, ?_, ?_, ?_⟩
  · by_cases e : i = 1
    · rw [if_pos e] at hu
      subst e
      exact uartIn_keep hu (Mod.refl Nil _) (fun _ _ _ h => h) fun k hk hh => hg 1 k hk hh rfl
    · rw [if_neg e] at hu
      subst hu
      exact uartIn_keep u hm (hs 1 (Ne.symm e)) (hd 1)
  · by_cases e : i = 2
    · rw [if_pos e] at hr
      subst e
      exact ruartIn_keep hr (Mod.refl Nil _) (fun _ _ _ h => h) fun k hk hh => hg 2 k hk hh rfl
    · rw [if_neg e] at hr
      subst hr
      exact ruartIn_keep r hm (hs 2 (Ne.symm e)) (hd 2)
  · by_cases e : i = 3
    · rw [if_pos e] at hp
      subst e
      exact powIn_keep hp (Mod.refl Nil _) (fun _ _ _ h => h) fun k hk hh => hg 3 k hk hh rfl
    · rw [if_neg e] at hp
      subst hp
      exact powIn_keep p hm (hs 3 (Ne.symm e)) (hd 3)
  · by_cases e : i = 4
    · rw [if_pos e] at hq
      subst e
      exact rpowIn_keep hq (Mod.refl Nil _) (fun _ _ _ h => h) fun k hk hh => hg 4 k hk hh rfl
    · rw [if_neg e] at hq
      subst hq
      exact rpowIn_keep q hm (hs 4 (Ne.symm e)) (hd 4)

/-- Block b is as it was. -/
def Kept (b : Nat) (w w' : World) : Prop := w'.heap[b]? = w.heap[b]?
theorem Kept.cell {b : Nat} {w w' : World} (h : Kept b w w') (j : Nat) : w'.cell? ⟨b, j, none⟩ = w.cell? ⟨b, j, none⟩ := World.cell?_of_block (a := ⟨b, j, none⟩) h

section
variable {W w : World} {s t s' : Ser} {o q o' : Bool} {b : Nat} {f : FuncId} {args : Array Value} {v : Value}

theorem four_u (h : Four W w s t o q b) (hc : ∀ D, UartIn w W.heap.size W.heap.size D s → Calls Try.prog f args w (Ends v fun w' => UartIn w' W.heap.size W.heap.size (more D w) s' ∧ Mod D w w')) :
    Calls Try.prog f args w (Ends v fun w' => Four W w' s' t o q b ∧ Kept b w w') := by
  obtain ⟨c, h, hb, b1, b2, b3, b4⟩ := h
  refine (hc _ h.2.2.1).mono ?_
  rintro e w' ⟨rfl, hu, hm⟩
  have e := col_lt (c := c) (i := 1) hb
  exact ⟨rfl, ⟨_, h.step (i := 1) (by decide) hm hu rfl rfl rfl, Nat.lt_of_lt_of_le hb hm.size, by rw [e]; exact b1, by rw [e]; exact b2, by rw [e]; exact b3, by rw [e]; exact b4⟩, hm.block b hb b1⟩
theorem four_r (h : Four W w s t o q b) (hc : ∀ D, RUartIn w W.heap.size (W.heap.size + 1) D t → Calls Try.prog f args w (Ends v fun w' => RUartIn w' W.heap.size (W.heap.size + 1) (more D w) s' ∧ Mod D w w')) :
    Calls Try.prog f args w (Ends v fun w' => Four W w' s s' o q b ∧ Kept b w w') := by
  obtain ⟨c, h, hb, b1, b2, b3, b4⟩ := h
  refine (hc _ h.2.2.2.1).mono ?_
  rintro e w' ⟨rfl, hu, hm⟩
  have e := col_lt (c := c) (i := 2) hb
  exact ⟨rfl, ⟨_, h.step (i := 2) (by decide) hm rfl hu rfl rfl, Nat.lt_of_lt_of_le hb hm.size, by rw [e]; exact b1, by rw [e]; exact b2, by rw [e]; exact b3, by rw [e]; exact b4⟩, hm.block b hb b2⟩
theorem four_p (h : Four W w s t o q b) (hc : ∀ D, PowIn w W.heap.size (W.heap.size + 1 + 1) D o → Calls Try.prog f args w (Ends v fun w' => PowIn w' W.heap.size (W.heap.size + 1 + 1) D o' ∧ Mod D w w')) :
    Calls Try.prog f args w (Ends v fun w' => Four W w' s t o' q b ∧ Kept b w w') := by
  obtain ⟨c, h, hb, b1, b2, b3, b4⟩ := h
  refine (hc _ h.2.2.2.2.1).mono ?_
  rintro e w' ⟨rfl, hu, hm⟩
  have e := col_lt (c := c) (i := 3) hb
  exact ⟨rfl, ⟨_, h.step (i := 3) (by decide) hm rfl rfl (powIn_more hu _) rfl, Nat.lt_of_lt_of_le hb hm.size, by rw [e]; exact b1, by rw [e]; exact b2, by rw [e]; exact b3, by rw [e]; exact b4⟩, hm.block b hb b3⟩
theorem four_q (h : Four W w s t o q b) (hc : ∀ D, RPowIn w W.heap.size (W.heap.size + 1 + 1 + 1) D q → Calls Try.prog f args w (Ends v fun w' => RPowIn w' W.heap.size (W.heap.size + 1 + 1 + 1) D o' ∧ Mod D w w')) :
    Calls Try.prog f args w (Ends v fun w' => Four W w' s t o o' b ∧ Kept b w w') := by
  obtain ⟨c, h, hb, b1, b2, b3, b4⟩ := h
  refine (hc _ h.2.2.2.2.2).mono ?_
  rintro e w' ⟨rfl, hu, hm⟩
  have e := col_lt (c := c) (i := 4) hb
  exact ⟨rfl, ⟨_, h.step (i := 4) (by decide) hm rfl rfl rfl (rpowIn_more hu _), Nat.lt_of_lt_of_le hb hm.size, by rw [e]; exact b1, by rw [e]; exact b2, by rw [e]; exact b3, by rw [e]; exact b4⟩, hm.block b hb b4⟩
end

/-- A new block of the law's own. -/
theorem Four0.alloc {W w : World} {s t : Ser} {o q : Bool} (h : Four0 W w s t o q) (ob : Obj) : Four W (w.alloc ob) s t o q w.heap.size := by
  obtain ⟨c, h⟩ := h
  have h' := h.step (i := 5) (w' := w.alloc ob) (by decide) ((Mod.refl _ w).alloc ob) rfl rfl rfl rfl
  have hc : col c w.heap.size 5 w.heap.size = 5 := col_ge (Nat.le_refl _)
  exact ⟨_, h', by simp, by rw [hc]; decide, by rw [hc]; decide, by rw [hc]; decide, by rw [hc]; decide⟩
theorem Four.drew {W w : World} {s t : Ser} {o q : Bool} {b : Nat} (h : Four W w s t o q b) : Four W w.drew s t o q b := by
  obtain ⟨c, ⟨h1, h2, h3, h4, h5, h6⟩, h7⟩ := h
  exact ⟨c, ⟨h1, ⟨h2.1.drew, h2.2⟩, h3, h4, h5, h6⟩, h7⟩
theorem Four0.below {W w : World} {s t : Ser} {o q : Bool} (h : Four0 W w s t o q) : Below W.heap.size W w := by
  obtain ⟨c, h1, h2, _⟩ := h
  exact h2.below

/-! The calls over the four. -/
section
variable {W w : World} {s t : Ser} {o q : Bool} {b : Nat}
theorem c_input (x : Int) (h0 : 0 ≤ x) (h1 : x < 256) (h : Four W w s t o q b) : Calls Try.prog 10 #[.pointer (some ⟨W.heap.size, 0, none⟩), .int .u8 x] w (Ends (.bool (serInput x s).1) fun w' => Four W w' (serInput x s).2 t o q b ∧ Kept b w w') :=
  four_u h fun D hu => input_any _ _ D s x w h0 h1 hu
theorem c_rinput (x : Int) (h0 : 0 ≤ x) (h1 : x < 256) (h : Four W w s t o q b) : Calls Try.prog 11 #[.pointer (some ⟨W.heap.size + 1, 0, none⟩), .int .u8 x] w (Ends (.bool (serInput x t).1) fun w' => Four W w' s (serInput x t).2 o q b ∧ Kept b w w') :=
  four_r h fun D hu => rinput_any _ _ D t x w h0 h1 hu
theorem c_output (h : Four W w s t o q b) : Calls Try.prog 12 #[.pointer (some ⟨W.heap.size, 0, none⟩)] w (Ends (.int .i64 (s.told.getD (-1))) fun w' => Four W w' { s with told := none } t o q b ∧ Kept b w w') :=
  four_u h fun D hu => (output_at _ _ D s w hu).mono fun _ _ ⟨he, h1, h2⟩ => ⟨he, uartIn_more h1 _, h2⟩
theorem c_routput (h : Four W w s t o q b) : Calls Try.prog 13 #[.pointer (some ⟨W.heap.size + 1, 0, none⟩)] w (Ends (.int .i64 (t.told.getD (-1))) fun w' => Four W w' s { t with told := none } o q b ∧ Kept b w w') :=
  four_r h fun D hu => (routput_any _ _ D t w hu).mono fun _ _ ⟨he, h1, h2⟩ => ⟨he, ruartIn_more h1 _, h2⟩
theorem c_load (off size : Int) (h : Four W w s t o q b) : Calls Try.prog 14 #[.pointer (some ⟨W.heap.size, 0, none⟩), .int .i64 off, .int .i64 size] w (Ends (.tuple #[.int .u64 (serLoad off size s).1, .bool (serLoad off size s).2.1]) fun w' => Four W w' (serLoad off size s).2.2 t o q b ∧ Kept b w w') :=
  four_u h fun D hu => (load_any _ _ D s off size w hu).mono fun _ _ ⟨he, h1, h2⟩ => ⟨he, uartIn_more h1 _, h2⟩
theorem c_rload (off size : Int) (h : Four W w s t o q b) : Calls Try.prog 15 #[.pointer (some ⟨W.heap.size + 1, 0, none⟩), .int .i64 off, .int .i64 size] w (Ends (.tuple #[.int .u64 (serLoad off size t).1, .bool (serLoad off size t).2.1]) fun w' => Four W w' s (serLoad off size t).2.2 o q b ∧ Kept b w w') :=
  four_r h fun D hu => rload_any _ _ D t off size w hu
theorem c_store (off size v : Int) (h0 : 0 ≤ v) (h1 : v < 18446744073709551616) (h : Four W w s t o q b) : Calls Try.prog 16 #[.pointer (some ⟨W.heap.size, 0, none⟩), .int .i64 off, .int .i64 size, .int .u64 v] w (Ends (.bool (serStore off size v s).1) fun w' => Four W w' (serStore off size v s).2 t o q b ∧ Kept b w w') :=
  four_u h fun D hu => store_any _ _ D s off size v w h0 h1 hu
theorem c_rstore (off size v : Int) (h0 : 0 ≤ v) (h1 : v < 18446744073709551616) (h : Four W w s t o q b) : Calls Try.prog 17 #[.pointer (some ⟨W.heap.size + 1, 0, none⟩), .int .i64 off, .int .i64 size, .int .u64 v] w (Ends (.bool (serStore off size v t).1) fun w' => Four W w' s (serStore off size v t).2 o q b ∧ Kept b w w') :=
  four_r h fun D hu => (rstore_any _ _ D t off size v w h0 h1 hu).mono fun _ _ ⟨he, h1, h2⟩ => ⟨he, ruartIn_more h1 _, h2⟩
theorem c_pstore (off size v : Int) (h0 : 0 ≤ v) (h1 : v < 18446744073709551616) (h : Four W w s t o q b) : Calls Try.prog 20 #[.pointer (some ⟨W.heap.size + 1 + 1, 0, none⟩), .int .i64 off, .int .i64 size, .int .u64 v] w (Ends (.bool (powStore off size v o).1) fun w' => Four W w' s t (powStore off size v o).2 q b ∧ Kept b w w') :=
  four_p h fun D hu => pstore_any _ _ D o off size v w h0 h1 hu
theorem c_rpstore (off size v : Int) (h0 : 0 ≤ v) (h1 : v < 18446744073709551616) (h : Four W w s t o q b) : Calls Try.prog 21 #[.pointer (some ⟨W.heap.size + 1 + 1 + 1, 0, none⟩), .int .i64 off, .int .i64 size, .int .u64 v] w (Ends (.bool (powStore off size v q).1) fun w' => Four W w' s t o (powStore off size v q).2 b ∧ Kept b w w') :=
  four_q h fun D hu => rpstore_any _ _ D q off size v w h0 h1 hu
theorem c_waits (h : Four W w s t o q b) : Calls Try.prog 22 #[.pointer (some ⟨W.heap.size, 0, none⟩)] w (Ends (.int .i64 s.L.length) fun w' => w = w') := by
  obtain ⟨c, ⟨_, _, hu, _⟩, _⟩ := h
  exact waits_any _ _ _ s w hu
theorem c_rwaits (h : Four W w s t o q b) : Calls Try.prog 23 #[.pointer (some ⟨W.heap.size + 1, 0, none⟩)] w (Ends (.int .i64 t.L.length) fun w' => w = w') := by
  obtain ⟨c, ⟨_, _, _, hu, _⟩, _⟩ := h
  exact rwaits_any _ _ _ t w hu
theorem c_off (h : Four W w s t o q b) : Calls Try.prog 24 #[.pointer (some ⟨W.heap.size + 1 + 1, 0, none⟩)] w (Ends (.bool o) fun w' => w = w') := by
  obtain ⟨c, ⟨_, _, _, _, hu, _⟩, _⟩ := h
  exact off_any _ _ _ o w hu
theorem c_roff (h : Four W w s t o q b) : Calls Try.prog 25 #[.pointer (some ⟨W.heap.size + 1 + 1 + 1, 0, none⟩)] w (Ends (.bool q) fun w' => w = w') := by
  obtain ⟨c, ⟨_, _, _, _, _, hu⟩, _⟩ := h
  exact roff_any _ _ _ q w hu
end

def col0 (n : Nat) : Nat → Nat := fun k => if k < n then 0 else k - n + 1
theorem col0_ge {n k : Nat} (h : n ≤ k) : col0 n k = k - n + 1 := if_neg (by omega)

/-- The kind, the offset, the size, the number of a call. -/
structure OpV where
  K : Int
  O : Int
  S : Int
  V : Int

/-- A call as it lies in memory. -/
def w_cells (w : World) (b off k : Nat) (o : OpV) : Prop :=
  w.cell? ⟨b, off + k * 4, none⟩ = some (.int .i64 o.K) ∧ w.cell? ⟨b, off + k * 4 + 1, none⟩ = some (.int .i64 o.O) ∧ w.cell? ⟨b, off + k * 4 + 2, none⟩ = some (.int .i64 o.S) ∧ w.cell? ⟨b, off + k * 4 + 3, none⟩ = some (.int .u64 o.V)

/-- The calls as they lie in memory. -/
def OpsAt (w : World) (b off n : Nat) (L : Nat → OpV) : Prop := ∀ k, k < n → 0 ≤ (L k).V ∧ (L k).V < 18446744073709551616 ∧ w_cells w b off k (L k)

end Go.Proofs.Ytoeppbngogjbaaa
