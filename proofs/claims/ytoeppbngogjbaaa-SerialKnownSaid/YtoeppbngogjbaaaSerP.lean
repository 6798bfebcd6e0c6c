/- A UART beside two rows of bytes that the call makes: what each call and each append leaves. No condition but that they lie there. -/
import Derived.Test.YtoeppbngogjbaaaSerO
namespace Go.Proofs.Ytoeppbngogjbaaa
open Go.RowKit

/-- What an input answers, and leaves. -/
def serIn (x : Int) (s : Ser) : Bool × Ser := if s.L.length < 16 then (true, { s with L := s.L ++ [x] }) else (false, s)

theorem input_all (base b : Nat) (D : Nat → Prop) (s : Ser) (x : Int) (w : World) (hx0 : 0 ≤ x) (hx1 : x < 256) (hu : UartIn w base b D s) :
    Calls Try.prog 10 #[.pointer (some ⟨b, 0, none⟩), .int .u8 x] w (Ends (.bool (serIn x s).1) fun w' => UartIn w' base b (more D w) (serIn x s).2 ∧ Mod D w w') := by
  unfold serIn
  by_cases h : s.L.length < 16
  · rw [if_pos h]
    exact (input_ok base b D s x w hx0 hx1 h hu).mono fun e w' ⟨he, h1, h2⟩ => ⟨he, uartIn_more h1 _, h2⟩
  · rw [if_neg h]
    have h16 : s.L.length = 16 := by
      obtain ⟨_, _, _, _, _, _, hl, _⟩ := hu
      omega
    exact (input_full base b D s x w h16 hu).mono fun e w' ⟨he, hw⟩ => ⟨he, by subst hw; exact ⟨uartIn_more hu _, Mod.refl _ _⟩⟩

/-- A row of bytes of one's own. -/
def RowC (w : World) (base : Nat) (D : Nat → Prop) (v : Value) (L : List Int) : Prop := w.ownsRow base 5 1 v L.length (L.map (Value.int .u8)) ∧ ∀ g, v.ownBlock = some g → D g

theorem RowC.keep {w w' : World} {base : Nat} {D D' F : Nat → Prop} {v : Value} {L : List Int} (h : RowC w base D v L) (hm : Mod F w w') (hF : ∀ g, g < w.heap.size → D g → ¬ F g) (hD : ∀ g, g < w.heap.size → D g → D' g) : RowC w' base D' v L :=
  ⟨hm.owns h.1 fun g e => hF g (h.1.lt g e).2 (h.2 g e), fun g e => hD g (h.1.lt g e).2 (h.2 g e)⟩

def OrdC (W w : World) (s : Ser) (kv : Value) (K : List Int) (gv : Value) (G : List Int) (c : Nat → Nat) : Prop :=
  W.heap.size < w.heap.size ∧ Own W w c ∧ UartIn w W.heap.size W.heap.size (fun k => c k = 1) s ∧ RowC w W.heap.size (fun k => c k = 2) kv K ∧ RowC w W.heap.size (fun k => c k = 3) gv G
def Ord (W w : World) (s : Ser) (kv : Value) (K : List Int) (gv : Value) (G : List Int) : Prop := ∃ c, OrdC W w s kv K gv G c

theorem OrdC.step {W w w' : World} {s s' : Ser} {kv kv' gv gv' : Value} {K K' G G' : List Int} {i : Nat} {c : Nat → Nat} (h : OrdC W w s kv K gv G c) (hi : i ≠ 0) (hm : Mod (fun k => c k = i) w w')
    (hu : if i = 1 then UartIn w' W.heap.size W.heap.size (more (fun k => c k = 1) w) s' else s' = s) (hk : if i = 2 then RowC w' W.heap.size (more (fun k => c k = 2) w) kv' K' else kv' = kv ∧ K' = K)
    (hg : if i = 3 then RowC w' W.heap.size (more (fun k => c k = 3) w) gv' G' else gv' = gv ∧ G' = G) : OrdC W w' s' kv' K' gv' G' (col c w.heap.size i) := by
  obtain ⟨hz, ho, u, r, p⟩ := h
  have hc : ∀ k, k < w.heap.size → col c w.heap.size i k = c k := fun k hk => col_lt hk
  have hg2 : ∀ j k, k < w'.heap.size → more (fun k => c k = i) w k → j = i → col c w.heap.size i k = j := by
    intro j k _ hh e
    rcases Nat.lt_or_ge k w.heap.size with hlt | hge
    · rw [hc k hlt]
      rcases hh with hh | hh
      · exact hh.trans e.symm
      · omega
    · rw [col_ge hge]; exact e.symm
  have hs : ∀ j, j ≠ i → ∀ k, k < w.heap.size → c k = j → ¬ c k = i := fun j hj k _ e e' => hj (e.symm.trans e')
  have hd : ∀ j, ∀ k, k < w.heap.size → c k = j → col c w.heap.size i k = j := fun j k hk e => by rw [hc k hk]; exact e
  refine ⟨Nat.lt_of_lt_of_le hz hm.size, ho.step hi hm, ?_, ?_, ?_⟩
  · by_cases e : i = 1
    · rw [if_pos e] at hu
      subst e
      exact uartIn_keep hu (Mod.refl Nil _) (fun _ _ _ h => h) fun k hk hh => hg2 1 k hk hh rfl
    · rw [if_neg e] at hu
      subst hu
      exact uartIn_keep u hm (hs 1 (Ne.symm e)) (hd 1)
  · by_cases e : i = 2
    · rw [if_pos e] at hk
      subst e
      exact hk.keep (Mod.refl Nil _) (fun _ _ _ h => h) fun k hk hh => hg2 2 k hk hh rfl
    · rw [if_neg e] at hk
      obtain ⟨rfl, rfl⟩ := hk
      exact r.keep hm (hs 2 (Ne.symm e)) (hd 2)
  · by_cases e : i = 3
    · rw [if_pos e] at hg
      subst e
      exact hg.keep (Mod.refl Nil _) (fun _ _ _ h => h) fun k hk hh => hg2 3 k hk hh rfl
    · rw [if_neg e] at hg
      obtain ⟨rfl, rfl⟩ := hg
      exact p.keep hm (hs 3 (Ne.symm e)) (hd 3)

section
variable {W w : World} {s s' : Ser} {kv gv : Value} {K G : List Int}
theorem Ord.u {f : FuncId} {args : Array Value} {v : Value} (h : Ord W w s kv K gv G) (hc : ∀ D, UartIn w W.heap.size W.heap.size D s → Calls Try.prog f args w (Ends v fun w' => UartIn w' W.heap.size W.heap.size (more D w) s' ∧ Mod D w w')) :
    Calls Try.prog f args w (Ends v fun w' => Ord W w' s' kv K gv G) := by
  obtain ⟨c, h⟩ := h
  refine (hc _ h.2.2.1).mono ?_
  rintro e w' ⟨rfl, hu, hm⟩
  exact ⟨rfl, _, h.step (i := 1) (by decide) hm hu ⟨rfl, rfl⟩ ⟨rfl, rfl⟩⟩
theorem Ord.input (h : Ord W w s kv K gv G) (x : Int) (h0 : 0 ≤ x) (h1 : x < 256) :
    Calls Try.prog 10 #[.pointer (some ⟨W.heap.size, 0, none⟩), .int .u8 x] w (Ends (.bool (serIn x s).1) fun w' => Ord W w' (serIn x s).2 kv K gv G) :=
  h.u fun D hu => input_all _ _ D s x w h0 h1 hu
theorem Ord.of (h : Ord W w s kv K gv G) (off x : Int) (ok : Bool) (he : serLoad off 1 s = (x, ok, s')) :
    Calls Try.prog 30 #[.pointer (some ⟨W.heap.size, 0, none⟩), .int .i64 off] w (Ends (.int .u64 x) fun w' => Ord W w' s' kv K gv G) :=
  h.u fun D hu => (of_at _ _ D s s' off x ok w hu he).mono fun _ _ ⟨he, h1, h2⟩ => ⟨he, uartIn_more h1 _, h2⟩
theorem Ord.waits (h : Ord W w s kv K gv G) : Calls Try.prog 22 #[.pointer (some ⟨W.heap.size, 0, none⟩)] w (Ends (.int .i64 s.L.length) fun w' => w = w') := by
  obtain ⟨c, _, _, hu, _⟩ := h
  exact waits_any _ _ _ s w hu
theorem Ord.bytes (h : Ord W w s kv K gv G) : (∀ c, c ∈ s.L → 0 ≤ c ∧ c < 256) ∧ s.L.length ≤ 16 := by
  obtain ⟨c, _, _, ⟨_, _, _, _, _, _, hl, _, _, hb, _⟩, _⟩ := h
  exact ⟨hb, hl⟩
theorem Ord.below (h : Ord W w s kv K gv G) : Below W.heap.size W w := by
  obtain ⟨c, _, ho, _⟩ := h
  exact ho.below
theorem Ord.drewN (h : Ord W w s kv K gv G) (n : Nat) : Ord W (w.drewN n) s kv K gv G := by
  obtain ⟨c, h0, h1, h2, h3, h4⟩ := h
  exact ⟨c, h0, ⟨below_drewN h1.1 n, h1.2⟩, h2, h3, h4⟩
theorem Ord.drew (h : Ord W w s kv K gv G) : Ord W w.drew s kv K gv G := h.drewN 1
theorem Ord.rowK (h : Ord W w s kv K gv G) : w.ownsRow W.heap.size 5 1 kv K.length (K.map (Value.int .u8)) := by
  obtain ⟨c, _, _, _, h3, _⟩ := h
  exact h3.1
theorem Ord.rowG (h : Ord W w s kv K gv G) : w.ownsRow W.heap.size 5 1 gv G.length (G.map (Value.int .u8)) := by
  obtain ⟨c, _, _, _, _, h3⟩ := h
  exact h3.1
theorem Ord.size (h : Ord W w s kv K gv G) : W.heap.size < w.heap.size := by
  obtain ⟨c, h, _⟩ := h
  exact h

theorem Ord.quiet (h : Ord W w s kv K gv G) {w' : World} (hm : Mod Nil w w') : Ord W w' s kv K gv G := by
  obtain ⟨c, h⟩ := h
  exact ⟨_, h.step (i := 5) (by decide) (hm.of_nil _) rfl ⟨rfl, rfl⟩ ⟨rfl, rfl⟩⟩

theorem row_push {w w1 : World} {base : Nat} {D : Nat → Prop} {v : Value} {L : List Int} {x : Int} {ob : Obj} {g cap : Nat} (h : RowC w base D v L) (hg : (w.alloc ob).grownBy w1 v.ownBlock)
    (ho : w1.ownsRow base 5 1 (.slice (some ⟨g, 0, none⟩) (L.length + 1) cap) (L.length + 1) (L.map (Value.int .u8) ++ [.int .u8 x])) (hat : v.ownBlock = some g ∨ g = w.heap.size + 1) :
    RowC w1 base (more D w) (.slice (some ⟨g, 0, none⟩) (L.length + 1) cap) (L ++ [x]) ∧ Mod D w w1 := by
  refine ⟨⟨?_, ?_⟩, ((Mod.refl D w).alloc ob).grown hg fun k hk => .inl (h.2 k hk)⟩
  · rw [show (L ++ [x]).length = L.length + 1 from by simp, List.map_append]
    exact ho
  · intro g' e
    have e : g = g' := by simpa [Value.ownBlock] using e
    subst e
    rcases hat with hh | hh
    · exact .inl (h.2 g hh)
    · exact .inr (by omega)

theorem Ord.pushK (h : Ord W w s kv K gv G) {w1 : World} {x : Int} {ob : Obj} {g cap : Nat} (hg : (w.alloc ob).grownBy w1 kv.ownBlock)
    (ho : w1.ownsRow W.heap.size 5 1 (.slice (some ⟨g, 0, none⟩) (K.length + 1) cap) (K.length + 1) (K.map (Value.int .u8) ++ [.int .u8 x])) (hat : kv.ownBlock = some g ∨ g = w.heap.size + 1) :
    Ord W w1 s (.slice (some ⟨g, 0, none⟩) (K.length + 1) cap) (K ++ [x]) gv G := by
  obtain ⟨c, h⟩ := h
  obtain ⟨hr, hm⟩ := row_push h.2.2.2.1 hg ho hat
  exact ⟨_, h.step (i := 2) (by decide) hm rfl hr ⟨rfl, rfl⟩⟩
theorem Ord.pushG (h : Ord W w s kv K gv G) {w1 : World} {x : Int} {ob : Obj} {g cap : Nat} (hg : (w.alloc ob).grownBy w1 gv.ownBlock)
    (ho : w1.ownsRow W.heap.size 5 1 (.slice (some ⟨g, 0, none⟩) (G.length + 1) cap) (G.length + 1) (G.map (Value.int .u8) ++ [.int .u8 x])) (hat : gv.ownBlock = some g ∨ g = w.heap.size + 1) :
    Ord W w1 s kv K (.slice (some ⟨g, 0, none⟩) (G.length + 1) cap) (G ++ [x]) := by
  obtain ⟨c, h⟩ := h
  obtain ⟨hr, hm⟩ := row_push h.2.2.2.2 hg ho hat
  exact ⟨_, h.step (i := 3) (by decide) hm rfl ⟨rfl, rfl⟩ hr⟩
end
end Go.Proofs.Ytoeppbngogjbaaa
