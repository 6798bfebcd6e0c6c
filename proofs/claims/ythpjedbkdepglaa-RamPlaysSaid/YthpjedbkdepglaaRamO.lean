/- What an act does with the program's memory and the reference's: both answer alike. Condition: both lie there over one state. -/
import Derived.Test.YthpjedbkdepglaaRamN
namespace Go.Proofs.Ythpjedbkdepglaa
open Go.RowKit
attribute [local go_sem ↓] Go.wp_at_zero Go.wp_at_succ

theorem Mod.at {F : Nat → Prop} {a b : World} {p : Addr} {v : Value} (h1 : Mod F a b) (hp : p.block < a.heap.size) (n1 : ¬ F p.block) (h : a.cell? p = some v) : b.cell? p = some v := (h1.cell hp n1).trans h
theorem Mod.at2 {F G : Nat → Prop} {a b c : World} {p : Addr} {v : Value} (h2 : Mod G b c) (h1 : Mod F a b) (hp : p.block < a.heap.size) (n2 : ¬ G p.block) (n1 : ¬ F p.block) (h : a.cell? p = some v) : c.cell? p = some v := h2.at (Nat.lt_of_lt_of_le hp h1.size) n2 (h1.at hp n1 h)

set_option maxHeartbeats 4000000 in
set_option maxRecDepth 100000 in
theorem does_any {W w : World} {r rb m bb tb : Nat} {M : Mem} (h : Both W w r rb m bb tb M) (K O S : Int) (T : Bool) (A V : Nat) (hA : A < 18446744073709551616) (hV : V < 18446744073709551616) :
    Calls Try.prog 18 #[.pointer (some ⟨r, 0, none⟩), .pointer (some ⟨m, 0, none⟩), .agg #[.int .i64 K, .int .i64 O, .int .i64 S, .bool T, .int .u64 (A : Int), .int .u64 (V : Int)]] w (Ends (.bool true) fun w' => ∃ M', Both W w' r rb m bb tb M' ∧ M'.n = M.n) := by
  go_enter Try.func18, Try.ntmps18
  go_wp2_with (fail)
  have h1 := h.nil ((Mod.refl Nil w).alloc (.cells #[.int .i64 K, .int .i64 O, .int .i64 S, .bool T, .int .u64 (A : Int), .int .u64 (V : Int)] 30))
  have hB := act_born w K O S T A V 30
  obtain ⟨Bk, hBk⟩ : ∃ Bk, Bk = w.heap.size := ⟨_, rfl⟩
  rw [← hBk] at hB
  have l1 := h.one.lt
  have l2 := h.two.ram.lt
  have hBl : Bk < (w.alloc (.cells #[.int .i64 K, .int .i64 O, .int .i64 S, .bool T, .int .u64 (A : Int), .int .u64 (V : Int)] 30)).heap.size := by rw [World.size_alloc]; omega
  have hn1 : ¬ (Bk = r ∨ Bk = rb) := by omega
  have hn2 : ¬ (Bk = bb ∨ Bk = tb) := by omega
  obtain ⟨g0, g1, g2, g3, g4, g5⟩ := hB
  rw [← hBk]
  have HBk := Lib.hid hBk
  have H1 := Lib.hid h1
  clear h h1 hBk
  generalize w.alloc (.cells #[.int .i64 K, .int .i64 O, .int .i64 S, .bool T, .int .u64 (A : Int), .int .u64 (V : Int)] 30) = wa at *
  refine (pick_any K 4 _ (by omega) (by omega)).mono ?_
  rintro e w' ⟨rfl, rfl⟩
  have hk : K % 4 = 0 ∨ K % 4 = 1 ∨ K % 4 = 2 ∨ K % 4 = 3 := by omega
  generalize K % 4 = κ at hk
  rcases hk with rfl | rfl | rfl | rfl
  · go_wp2_with (fail)
    refine (H1.out.one.load O S).mono ?_
    rintro e w' ⟨rfl, rfl⟩
    go_wp2_with (fail)
    refine (rload_at H1.out.two.ram O S).mono ?_
    rintro e w' ⟨rfl, rfl⟩
    go_wp2
    go_ret
    exact ⟨rfl, M, H1.out, rfl⟩
  · go_wp2_with (fail)
    go_region_held3 (fun w' => w'.cell? ⟨Bk, 0 + 1, none⟩ = some (.int .i64 O) ∧ w'.cell? ⟨Bk, 0 + 2, none⟩ = some (.int .i64 S) ∧ w'.cell? ⟨Bk, 0 + 4, none⟩ = some (.int .u64 (A : Int))) (first | exact ⟨hk2.at2 hk1 hBl hn2 hn1 g1, hk2.at2 hk1 hBl hn2 hn1 g2, hk2.at2 hk1 hBl hn2 hn1 g4⟩ | exact ⟨hk1.at hBl hn1 g1, hk1.at hBl hn1 g2, hk1.at hBl hn1 g4⟩ | go_keep) (first | (go_at_call 11; refine ((H1.out.nil (Mod.refl Nil _).drew).store O S A hA).mono ?_; rintro e w1 ⟨rfl, hF2, hk1⟩) | (go_at_call 28; refine (hF2.rstore O S A hA rfl).mono ?_; rintro e w2 ⟨rfl, hE, hk2⟩))
    go_wp2
    go_ret
    exact ⟨rfl, _, hE, store_n _ _ _ _⟩
  · go_wp2_with (fail)
    refine (H1.out.one.loadCap O).mono ?_
    rintro e w1 ⟨rfl, _, m1⟩
    have e1 := (m1.cell (p := ⟨Bk, 0 + 1, none⟩) hBl (fun x => x)).trans g1
    have H2 := Lib.hid (H1.out.nil m1)
    clear m1
    go_wp2_with (fail)
    refine (rloadCap_at H2.out.two.ram O).mono ?_
    rintro e w2 ⟨rfl, m2⟩
    have H3 := Lib.hid (H2.out.nil m2)
    clear m2
    go_wp2
    go_ret
    exact ⟨rfl, M, H3.out, rfl⟩
  · go_wp2_with (fail)
    go_region_held3 (fun w' => w'.cell? ⟨Bk, 0 + 1, none⟩ = some (.int .i64 O) ∧ w'.cell? ⟨Bk, 0 + 3, none⟩ = some (.bool T) ∧ w'.cell? ⟨Bk, 0 + 4, none⟩ = some (.int .u64 (A : Int)) ∧ w'.cell? ⟨Bk, 0 + 5, none⟩ = some (.int .u64 (V : Int))) (first | exact ⟨hk2.at2 hk1 hBl hn2 hn1 g1, hk2.at2 hk1 hBl hn2 hn1 g3, hk2.at2 hk1 hBl hn2 hn1 g4, hk2.at2 hk1 hBl hn2 hn1 g5⟩ | exact ⟨hk1.at hBl hn1 g1, hk1.at hBl hn1 g3, hk1.at hBl hn1 g4, hk1.at hBl hn1 g5⟩ | go_keep) (first | (go_at_call 10; refine ((H1.out.nil (Mod.refl Nil _).drew).storeCap O T A V hA hV).mono ?_; rintro e w1 ⟨rfl, hF2, hk1⟩) | (go_at_call 30; refine (hF2.rstoreCap O T A V hA hV rfl).mono ?_; rintro e w2 ⟨rfl, hE, hk2⟩))
    go_wp2
    go_ret
    exact ⟨rfl, _, hE, storeCap_n _ _ _ _ _⟩

end Go.Proofs.Ythpjedbkdepglaa
