/- Words for memory: which blocks a call may have written ('Mod'), ownership by colours. No program here. -/
import Derived.WalkKit
import Derived.WalkSpells
import Derived.WalkLawsBesides
import Derived.Deep.QuietTactic
import Derived.BigQuiet
import Derived.Deep.OwnRows
import Derived.Deep.Draws
import Derived.Lib.Hide
namespace Go.Proofs.Ytalhdcjnaknglaa
open Go.RowKit

/-- w' is w, but for blocks of F and new ones. -/
structure Mod (F : Nat → Prop) (w w' : World) : Prop where
  os : w'.os = w.os
  tape : w'.tape = w.tape
  output : w'.output = w.output
  size : w.heap.size ≤ w'.heap.size
  block : ∀ k, k < w.heap.size → ¬ F k → w'.heap[k]? = w.heap[k]?

/-- Nothing. -/
def Nil : Nat → Prop := fun _ => False

section
variable {F G : Nat → Prop} {a b c w w' : World}
theorem Mod.refl (F : Nat → Prop) (w : World) : Mod F w w := ⟨rfl, rfl, rfl, Nat.le_refl _, fun _ _ _ => rfl⟩
theorem Mod.trans (h : Mod F a b) (k : Mod G b c) (hG : ∀ i, i < a.heap.size → G i → F i) : Mod F a c :=
  ⟨k.os.trans h.os, k.tape.trans h.tape, k.output.trans h.output, Nat.le_trans h.size k.size, fun i hi hn =>
    (k.block i (Nat.lt_of_lt_of_le hi h.size) (fun g => hn (hG i hi g))).trans (h.block i hi hn)⟩
theorem Mod.trans' (h : Mod F a b) (k : Mod F b c) : Mod F a c := h.trans k fun _ _ x => x
theorem Mod.mono (h : Mod F a b) (hG : ∀ i, i < a.heap.size → F i → G i) : Mod G a b :=
  ⟨h.os, h.tape, h.output, h.size, fun i hi hn => h.block i hi fun x => hn (hG i hi x)⟩
theorem Mod.of_nil (h : Mod Nil a b) (F : Nat → Prop) : Mod F a b := h.mono fun _ _ x => x.elim
theorem Mod.drew (h : Mod F a w) : Mod F a w.drew := ⟨h.os, h.tape, h.output, h.size, h.block⟩
theorem Mod.drewN (h : Mod F a w) (n : Nat) : Mod F a (w.drewN n) := ⟨h.os, h.tape, h.output, h.size, h.block⟩
theorem Mod.alloc (h : Mod F a w) (o : Obj) : Mod F a (w.alloc o) :=
  ⟨h.os, h.tape, h.output, Nat.le_trans h.size (by simp), fun i hi hn => (Below.heap_alloc w o i (Nat.lt_of_lt_of_le hi h.size)).trans (h.block i hi hn)⟩
theorem Mod.setCell (h : Mod F a w) {p : Addr} (hp : F p.block ∨ a.heap.size ≤ p.block) (u : Value) : Mod F a (w.setCell p u) :=
  ⟨h.os, h.tape, h.output, by simpa [World.setCell] using h.size, fun i hi hn => (Below.heap_setCell w p u i (by
    rintro rfl
    rcases hp with hp | hp
    · exact hn hp
    · omega)).trans (h.block i hi hn)⟩
theorem Mod.grown (h : Mod F a w) {row : Option Nat} (hg : w.grownBy w' row) (hr : ∀ k, row = some k → F k ∨ a.heap.size ≤ k) : Mod F a w' :=
  ⟨hg.os.trans h.os, hg.tape.trans h.tape, hg.output.trans h.output, Nat.le_trans h.size hg.size, fun i hi hn => (hg.block i (Nat.lt_of_lt_of_le hi h.size) (fun e => by
    rcases hr i e.symm with hp | hp
    · exact hn hp
    · omega)).trans (h.block i hi hn)⟩
theorem Mod.of_below (h : Below a.heap.size a b) (F : Nat → Prop) : Mod F a b := ⟨h.os, h.tape, h.output, h.size, fun i hi _ => h.block i hi⟩
theorem Mod.toBelow {B : Nat} (h : Mod F a b) (hB : B ≤ a.heap.size) (hF : ∀ k, F k → B ≤ k) : Below B a b :=
  ⟨h.os, h.tape, h.output, h.size, fun i hi => h.block i (by omega) fun x => by have := hF i x; omega⟩
theorem Mod.row {g n : Nat} {t : TypeId} {f : Nat → Value} (h : Mod F a b) (hr : a.rowIs g t n f) (hn : ¬ F g) : b.rowIs g t n f :=
  hr.of_block (h.block g hr.lt hn)
theorem Mod.cell (h : Mod F a b) {p : Addr} (hp : p.block < a.heap.size) (hn : ¬ F p.block) : b.cell? p = a.cell? p := World.cell?_of_block (w := a) (h.block p.block hp hn)
theorem Mod.frozen (h : Mod F a b) {p : Addr} (hp : p.block < a.heap.size) (hn : ¬ F p.block) : b.frozen? p = a.frozen? p := World.frozen?_of_block (w := a) (h.block p.block hp hn)
theorem Mod.owns {base n size : Nat} {e : TypeId} {v : Value} {xs : List Value} (h : Mod F a b) (ho : a.ownsRow base e size v n xs) (hn : ∀ g, v.ownBlock = some g → ¬ F g) : b.ownsRow base e size v n xs := by
  refine ⟨ho.1, ?_⟩
  rcases ho.2 with hv | ⟨g, cap, cur, rfl, hb, hgg, rest⟩
  · exact .inl hv
  · refine .inr ⟨g, cap, cur, rfl, hb, ?_, rest⟩
    rw [h.block g (Array.getElem?_eq_some_iff.1 hgg).1 (hn g rfl)]
    exact hgg
end

theorem rowIs_drewN {w : World} {b : Nat} {t : TypeId} {n : Nat} {f : Nat → Value} (h : w.rowIs b t n f) (k : Nat) : (w.drewN k).rowIs b t n f := h
theorem below_drewN {B : Nat} {a w : World} (h : Below B a w) (n : Nat) : Below B a (w.drewN n) := ⟨h.os, h.tape, h.output, h.size, h.block⟩
theorem owns_drewN {w : World} {base n size : Nat} {e : TypeId} {v : Value} {xs : List Value} (h : w.ownsRow base e size v n xs) (k : Nat) : (w.drewN k).ownsRow base e size v n xs := h
theorem owns_setCell {w : World} {base n size : Nat} {e : TypeId} {v : Value} {xs : List Value} (h : w.ownsRow base e size v n xs) {p : Addr} (hp : ∀ g, v.ownBlock = some g → g ≠ p.block) (u : Value) : (w.setCell p u).ownsRow base e size v n xs :=
  (Mod.setCell (F := fun k => k = p.block) (Mod.refl _ w) (.inl rfl) u).owns h hp

/-- A row of one's own, cut to nothing. -/
theorem owns_cut0 {w : World} {base g n cap size : Nat} {e : TypeId} {xs : List Value} (h : w.ownsRow base e size (.slice (some ⟨g, 0, none⟩) n cap) n xs) :
    w.ownsRow base e size (.slice (some ⟨g, 0, none⟩) 0 cap) 0 [] ∧ n ≤ cap := by
  rcases h.2 with ⟨hv, _⟩ | ⟨g', cap', cur, hv, hb, hgg, hn, hm, hs, _⟩
  · cases hv
  · injection hv with h1 h2 h3
    injection h1 with h1
    injection h1 with h1
    subst h1 h3
    exact ⟨⟨by simp, .inr ⟨g, cap, cur, rfl, hb, hgg, Nat.zero_le _, hm, hs, by simp⟩⟩, hn⟩

theorem owns_form {w : World} {base n size : Nat} {e : TypeId} {v : Value} {xs : List Value} (h : w.ownsRow base e size v n xs) : ∃ A cap, v = .slice A n cap ∧ n ≤ cap := by
  rcases h.2 with ⟨rfl, rfl⟩ | ⟨g, cap, cur, rfl, _, _, hn, _⟩
  · exact ⟨none, 0, rfl, Nat.le_refl _⟩
  · exact ⟨_, cap, rfl, hn⟩

theorem grown_row {w w1 : World} {b n : Nat} {t : TypeId} {f : Nat → Value} {row : Option Nat} (hr : w.rowIs b t n f) (hg : w.grownBy w1 row) (hne : row = some b → False) : w1.rowIs b t n f :=
  hr.of_block (hg.block b hr.lt fun e => hne e.symm)

/-- Whose block it is: a number from 1 on for what the call has made, 0 for what was there. -/
structure Own (W w : World) (c : Nat → Nat) : Prop where
  below : Below W.heap.size W w
  old : ∀ k, k < W.heap.size → c k = 0

/-- The colours behind a call that made blocks for i. -/
def col (c : Nat → Nat) (n i : Nat) : Nat → Nat := fun k => if k < n then c k else i

theorem col_lt {c : Nat → Nat} {n i k : Nat} (h : k < n) : col c n i k = c k := if_pos h
theorem col_ge {c : Nat → Nat} {n i k : Nat} (h : n ≤ k) : col c n i k = i := if_neg (by omega)

theorem Own.step {W w w' : World} {c : Nat → Nat} {i : Nat} (h : Own W w c) (hi : i ≠ 0) (hm : Mod (fun k => c k = i) w w') : Own W w' (col c w.heap.size i) := by
  have hs := h.below.size
  refine ⟨h.below.trans (hm.toBelow hs fun k hk => ?_), fun k hk => by rw [col_lt (by omega)]; exact h.old k hk⟩
  rcases Nat.lt_or_ge k W.heap.size with hlt | hge
  · rw [h.old k hlt] at hk; omega
  · exact hge
theorem Own.refl (W : World) : Own W W (fun _ => 0) := ⟨Below.refl _ _, fun _ _ => rfl⟩

theorem ret_of {k : IntKind} {a b : Int} (h : a = b) : Ending.returned (.int k a) = .returned (.int k b) := by rw [h]
theorem retb_of {a b : Bool} (h : a = b) : Ending.returned (.bool a) = .returned (.bool b) := by rw [h]

/-- A call's end: what it returns, what is left. -/
def Ends (v : Value) (R : World → Prop) (e : Ending) (w : World) : Prop := e = .returned v ∧ R w

/-- With the call's new blocks. -/
def more (D : Nat → Prop) (w : World) : Nat → Prop := fun k => D k ∨ w.heap.size ≤ k

end Go.Proofs.Ytalhdcjnaknglaa
