/- Slices of whole numbers as they lie in memory: kept where nothing of theirs is written; out of arguments, and out of rows of one's own. No program here. -/
import Derived.Test.YtalhdcjnaknglaaBase
import Derived.Test.YtalhdcjnaknglaaRead
import Derived.Deep.AppendLies
namespace Go.Proofs.Ytalhdcjnaknglaa
open Go.RowKit Go.ChangeShapes Go.WideShapes Go.Deep

/-- The slice v has n numbers of kind k, the i-th being f i. -/
def Ints (w : World) (k : IntKind) (v : Value) (n : Nat) (f : Nat → Int) : Prop :=
  ∃ A cap, v = .slice A n cap ∧ n ≤ cap ∧ n ≤ maxLen ∧ (0 < n → ∃ b off, A = some ⟨b, off, none⟩ ∧ b < w.heap.size ∧ ∀ i, i < n → w.cell? ⟨b, off + i, none⟩ = some (.int k (f i)))

theorem Ints.keep {w w' : World} {k : IntKind} {v : Value} {n : Nat} {f : Nat → Int} {F : Nat → Prop} (h : Ints w k v n f) (hm : Mod F w w') (hF : ∀ g, v.ownBlock = some g → ¬ F g) : Ints w' k v n f := by
  obtain ⟨A, cap, rfl, hc, hx, h⟩ := h
  refine ⟨A, cap, rfl, hc, hx, fun hn => ?_⟩
  obtain ⟨b, off, rfl, hb, hcell⟩ := h hn
  exact ⟨b, off, rfl, Nat.lt_of_lt_of_le hb hm.size, fun i hi => (hm.cell (p := ⟨b, off + i, none⟩) hb (hF b rfl)).trans (hcell i hi)⟩

theorem Ints.below {w w' : World} {k : IntKind} {v : Value} {n : Nat} {f : Nat → Int} (h : Ints w k v n f) (hb : Below w.heap.size w w') : Ints w' k v n f :=
  h.keep (Mod.of_below hb Nil) fun _ _ h => h

theorem Ints.of_own {w : World} {base n : Nat} {e : TypeId} {k : IntKind} {v : Value} {L : List Int} (h : w.ownsRow base e 1 v n (L.map (Value.int k))) (hn : n ≤ maxLen) : Ints w k v n (fun i => L.getD i 0) := by
  have hlen := h.1
  rw [List.length_map, Nat.mul_one] at hlen
  obtain ⟨A, cap, rfl, hc⟩ := owns_form h
  refine ⟨A, cap, rfl, hc, hn, fun h0 => ?_⟩
  obtain ⟨g, cap', hv, _, hlt⟩ := h.form h0
  injection hv with h1 h2 h3
  subst h1 h3
  refine ⟨g, 0, rfl, hlt, fun i hi => ?_⟩
  rw [Nat.zero_add, h.cellAt i (by omega), List.getElem?_map, List.getElem?_eq_getElem (by omega)]
  simp [List.getElem?_eq_getElem (show i < L.length by omega)]

section
variable {H : Type} {enc : TypeId × Value → H} {P : Program} {w : World}
/-- A slice of numbers that came in. -/
theorem read_ints {t e : TypeId} {k : IntKind} (ht : P.underlying t = some (.slice e)) (he : P.underlying e = some (.int k)) (hC : P.cellsOf e = 1) {r : Reach} {b0 : Nat} {v : Value} {d : DataW H} {p : List MemPlace}
    (ok : Value.okWide P w r b0 t v) (h : DataW.Trod enc P w 0 (fun _ => true) true t v d p) : ∃ n f, Ints w k v n f ∧ ∀ i, i < n → (Lit.int k (f i)).wf = true := by
  obtain ⟨A, n, cap, rfl, hn, hm, hc⟩ := read_slice ht hC (by decide) ok h
  have hex : ∀ i, ∃ x : Int, i < n → ∃ b off, A = some ⟨b, off, none⟩ ∧ w.cell? ⟨b, off + i, none⟩ = some (.int k x) ∧ (Lit.int k x).wf = true := by
    intro i
    by_cases hi : i < n
    · obtain ⟨b, off, rfl, hb, hcells⟩ := hc (by omega)
      obtain ⟨cs, hl, hat, m, x, hd⟩ := hcells i hi
      match cs, hl with
      | [c], _ =>
        obtain ⟨y, rfl, hw⟩ := read_int he hd
        have := hat 0 (by omega)
        simp only [Nat.mul_one, Nat.add_zero] at this
        exact ⟨y, fun _ => ⟨b, off, rfl, this, hw⟩⟩
    · exact ⟨0, fun h => absurd h hi⟩
  refine ⟨n, fun i => Classical.choose (hex i), ⟨A, cap, rfl, hn, by omega, fun h0 => ?_⟩, fun i hi => ?_⟩
  · obtain ⟨b, off, rfl, hb, _⟩ := hc h0
    refine ⟨b, off, rfl, hb, fun i hi => ?_⟩
    obtain ⟨b', off', e, hcell, _⟩ := Classical.choose_spec (hex i) hi
    injection e with e
    injection e with e1 e2
    subst e1 e2
    exact hcell
  · obtain ⟨_, _, _, _, hw⟩ := Classical.choose_spec (hex i) hi
    exact hw
end
end Go.Proofs.Ytalhdcjnaknglaa
