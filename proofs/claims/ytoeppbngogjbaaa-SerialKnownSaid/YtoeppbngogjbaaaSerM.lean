/- SerialRuns returns true at any slice of calls that can be read. No other condition. -/
import Derived.Test.YtoeppbngogjbaaaSerL
import Derived.Test.YtoeppbngogjbaaaRead
namespace Go.Proofs.Ytoeppbngogjbaaa
open Go.RowKit Go.ChangeShapes Go.WideShapes Go.Deep

set_option maxRecDepth 100000 in
/-- More than 400 calls: the chapter example alone. -/
theorem runs_long (W : World) (A : Option Addr) (n cap : Nat) (hn : 400 < n) (hm : n ≤ 9223372036854775807) :
    Calls Try.prog 3 #[.slice A n cap] W (Holds W) := by
  go_enter Try.func3, Try.ntmps3
  go_wp2_with fail
  refine (works_any W).mono ?_
  rintro e w' ⟨rfl, hbw⟩
  go_wp2_with fail
  go_ret
  exact ⟨rfl, hbw⟩

set_option maxRecDepth 100000 in
theorem runs_zero (W : World) (A : Option Addr) (cap : Nat) :
    Calls Try.prog 3 #[.slice A 0 cap] W (Holds W) := by
  go_enter Try.func3, Try.ntmps3
  go_wp2_with fail
  refine (new_any W (fun _ => True) trivial 0 (by omega)).mono ?_
  rintro e w1 ⟨rfl, _, hm1, _⟩
  go_wp2_with fail
  refine (rnew_any w1 (fun _ => True) trivial 0 (by omega)).mono ?_
  rintro e w2 ⟨rfl, _, hm2, _⟩
  go_wp2_with fail
  refine (newPower_any w2 (fun _ => True) trivial 0 (by omega)).mono ?_
  rintro e w3 ⟨rfl, _, hm3, _⟩
  go_wp2_with fail
  refine (rnewPower_any w3 (fun _ => True) trivial 0 (by omega)).mono ?_
  rintro e w4 ⟨rfl, _, hm4, _⟩
  have b1 := hm1.toBelow (Nat.le_refl _) fun _ h => h.elim
  have b2 := b1.trans (hm2.toBelow (B := W.heap.size) hm1.size fun _ h => h.elim)
  have b3 := b2.trans (hm3.toBelow (B := W.heap.size) b2.size fun _ h => h.elim)
  have b4 := b3.trans (hm4.toBelow (B := W.heap.size) b3.size fun _ h => h.elim)
  clear hm1 hm2 hm3 hm4 b1 b2 b3
  go_wp2_with fail
  refine wp_loop_rounds 1 ?_
  rw [rounds_succ]
  go_wp2_with fail
  refine (works_any w4).mono ?_
  rintro e w' ⟨rfl, hbw⟩
  go_wp2_with fail
  go_ret
  exact ⟨rfl, b4.trans (hbw.mono b4.size)⟩

theorem cells_op : Try.prog.cellsOf 34 = 4 := by kernel_rfl

/-- A call as it came in. -/
theorem read_op {H : Type} {enc : TypeId × Value → H} {w : World} {m : Nat} {cs : List Value} {x : DataW H × List MemPlace} (h : DataW.trod enc Try.prog w 0 (fun _ => true) true m 34 cs = some x) :
    ∃ o : OpV, cs = [.int .i64 o.K, .int .i64 o.O, .int .i64 o.S, .int .u64 o.V] ∧ 0 ≤ o.V ∧ o.V < 18446744073709551616 := by
  obtain ⟨xs, n, _, _, hlen, hxl, hf⟩ := DataW.trod_struct Try.underlying34 h
  rw [cells_op] at hlen
  match cs, hlen with
  | [c0, c1, c2, c3], _ =>
    match xs, hxl with
    | [y0, y1, y2, y3], _ =>
      obtain ⟨a, rfl, _⟩ := read_int Try.underlying3 (hf 0 _ rfl)
      obtain ⟨b, rfl, _⟩ := read_int Try.underlying3 (hf 1 _ rfl)
      obtain ⟨c, rfl, _⟩ := read_int Try.underlying3 (hf 2 _ rfl)
      obtain ⟨d, rfl, hw⟩ := read_int Try.underlying32 (hf 3 _ rfl)
      exact ⟨⟨a, b, c, d⟩, rfl, wf_u64 hw⟩

theorem runs_any {H : Type} {enc : TypeId × Value → H} (W : World) {r : Reach} {b0 : Nat} (v : Value) {d : DataW H} {p : List MemPlace} (ok : Value.okWide Try.prog W r b0 22 v)
    (h : DataW.Trod enc Try.prog W 0 (fun _ => true) true 22 v d p) :
    Calls Try.prog 3 #[v] W (Holds W) := by
  obtain ⟨A, n, cap, rfl, hn, hm, hc⟩ := read_slice Try.underlying22 cells_op (by decide) ok h
  rcases Nat.eq_zero_or_pos n with rfl | h0
  · exact runs_zero W A cap
  · rcases Nat.lt_or_ge 400 n with h4 | h4
    · exact runs_long W A n cap h4 (by simp only [maxLen] at hm; omega)
    · obtain ⟨b, off, rfl, hb, hcells⟩ := hc h0
      have hex : ∀ k, ∃ o : OpV, k < n → 0 ≤ o.V ∧ o.V < 18446744073709551616 ∧ w_cells W b off k o := by
        intro k
        by_cases hk : k < n
        · obtain ⟨cs, hl, hat, m, x, hd⟩ := hcells k hk
          obtain ⟨o, rfl, hv⟩ := read_op hd
          exact ⟨o, fun _ => ⟨hv.1, hv.2, hat 0 (by omega), hat 1 (by omega), hat 2 (by omega), hat 3 (by omega)⟩⟩
        · exact ⟨⟨0, 0, 0, 0⟩, fun h => absurd h hk⟩
      exact runs_some W b off n cap (fun k => Classical.choose (hex k)) hb h4 fun k hk => Classical.choose_spec (hex k) hk

end Go.Proofs.Ytoeppbngogjbaaa
