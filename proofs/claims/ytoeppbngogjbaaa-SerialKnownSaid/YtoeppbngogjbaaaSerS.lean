/- Row returns its bytes; SerialKnown returns true. No condition. -/
import Derived.Test.YtoeppbngogjbaaaSerR
import Derived.Test.YtoeppbngogjbaaaSerM
namespace Go.Proofs.Ytoeppbngogjbaaa
open Go.RowKit
attribute [local go_sem ↓] Go.wp_at_zero Go.wp_at_succ

/-- A row of n bytes. -/
theorem row_any (n : Nat) (hn : n ≤ 1000) (w : World) :
    Calls Try.prog 28 #[.int .i64 (n : Int)] w fun e w' => ∃ v, e = .returned v ∧ Below w.heap.size w w' ∧ ∃ L : List Int, L.length = n ∧ (∀ c, c ∈ L → 0 ≤ c ∧ c < 256) ∧ w'.ownsRow w.heap.size 5 1 v n (L.map (Value.int .u8)) := by
  obtain ⟨i0, hi, hz0, hz1, hz2⟩ := info_parts info_u8
  go_enter Try.func28, Try.ntmps28
  go_wp2
  go_loopw [3, 4] (fun v i wr => ∃ (k : Nat) (L : List Int), k ≤ n ∧ i = .int .i64 (k : Int) ∧ L.length = k ∧ (∀ c, c ∈ L → 0 ≤ c ∧ c < 256) ∧ wr.ownsRow w.heap.size 5 1 v k (L.map (Value.int .u8)) ∧ Below w.heap.size w wr) (fun _ i _ => n - (intOf i).toNat)
  case atStart => exact ⟨0, [], Nat.zero_le _, rfl, rfl, by simp, World.ownsRow_nil _ _ _ _, Below.refl _ _⟩
  case round =>
    obtain ⟨k, L, hk, rfl, hL, hc, ho, hb⟩ := hrel
    have HL := Lib.hid hL
    have HC := Lib.hid hc
    have hsz := hb.size
    clear hL hc
    by_cases hkn : k < n
    · obtain ⟨x, hx⟩ : ∃ x, x = (3 + 5 * (k : Int)) % 256 := ⟨_, rfl⟩
      have hx0 : 0 ≤ x := by omega
      have hx1 : x < 256 := by omega
      have Hx := Lib.hid hx.symm
      clear hx
      go_wp2_with (at_builtin; rw [Hx.out]; refine wpList_append_lies _ rfl _ _ 39 rfl w.heap.size 5 i0 (.int .u8 0) 1 1 Try.underlying39 hi hz0 hz1 hz2 rfl (by decide) _ k _ rfl (ho.alloc _) ⟨wr.heap.size, 0, none⟩ 1 1 [.int .u8 x] rfl rfl ?c1 ?c2 (by decide) ?c3 ?c4 ?c5 _ rfl ?_; rotate_right; intro g' cap' w3 hown hgrow hat hlt')
      case c1 => exact cell_one_new _ _ _
      case c2 => intro u hu; rw [List.mem_singleton] at hu; subst hu; rfl
      case c3 => simp only [maxLen]; omega
      case c4 => omega
      case c5 => rw [World.size_alloc]; omega
      go_roundw
      case rel =>
        refine ⟨k + 1, L ++ [x], by omega, by go_num, by simp [HL.out], ?_, by rw [List.map_append]; exact hown, (hb.alloc hsz _).grown hgrow (by rw [World.size_alloc]; omega) fun k' hk' => (ho.lt k' hk').1⟩
        intro c hc
        rcases List.mem_append.1 hc with h | h
        · exact HC.out c h
        · rw [List.mem_singleton] at h; omega
      case measure => simp [intOf]; omega
    · obtain rfl : k = n := by omega
      go_wp2
      go_ret
      exact ⟨_, rfl, hb, L, HL.out, HC.out, ho⟩

end Go.Proofs.Ytoeppbngogjbaaa
