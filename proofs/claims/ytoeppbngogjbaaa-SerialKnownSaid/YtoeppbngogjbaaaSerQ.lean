/- SerialOrder returns true of any bytes and numbers of reads, both not empty. Condition: they lie in memory, each fits its kind. -/
import Derived.Test.YtoeppbngogjbaaaSerP
import Derived.Deep.RegionHeld3
import Derived.Deep.DrawnRows
namespace Go.Proofs.Ytoeppbngogjbaaa
open Go.RowKit
attribute [local go_sem ↓] Go.wp_at_zero Go.wp_at_succ

theorem serIn_yes {x : Int} {s : Ser} (h : s.L.length < 16) : serIn x s = (true, { s with L := s.L ++ [x] }) := if_pos h
theorem serIn_no {x : Int} {s : Ser} (h : ¬ s.L.length < 16) : serIn x s = (false, s) := if_neg h
/-- What holds of the two rows, and of the count. -/
def Goes (W w : World) (kv gv wv : Value) (most : Nat) : Prop :=
  ∃ (s : Ser) (K G : List Int), wv = .int .i64 s.L.length ∧ K = G ++ s.L ∧ K.length ≤ most ∧ Ord W w s kv K gv G

def GoesK (W w : World) (kv : Value) (K : List Int) (gv wv : Value) : Prop := ∃ (s : Ser) (G : List Int), wv = .int .i64 s.L.length ∧ K = G ++ s.L ∧ Ord W w s kv K gv G

theorem sl_pop (c : Int) (L : List Int) (en : Bool) (told : Option Int) : serLoad 0 1 ⟨c :: L, en, told⟩ = (c, true, ⟨L, en, told⟩) := rfl
theorem sl_nil (en : Bool) (told : Option Int) : serLoad 0 1 ⟨[], en, told⟩ = (0, true, ⟨[], en, told⟩) := rfl
theorem sl_st (c : Int) (L : List Int) (en : Bool) (told : Option Int) : serLoad 5 1 ⟨c :: L, en, told⟩ = (97, true, ⟨c :: L, en, told⟩) := by simp [serLoad]
theorem sl_sn (en : Bool) (told : Option Int) : serLoad 5 1 ⟨[], en, told⟩ = (96, true, ⟨[], en, told⟩) := by simp [serLoad]

set_option maxHeartbeats 8000000 in
set_option maxRecDepth 100000 in
theorem order_any (a oa n cap b ob m cap2 : Nat) (f g : Nat → Int) (W : World) (_hn : n ≤ 9223372036854775807) (_hm : m ≤ 9223372036854775807) (hla : a < W.heap.size) (hlb : b < W.heap.size)
    (hA : ∀ i, i < n → 0 ≤ f i ∧ f i < 256 ∧ W.cell? ⟨a, oa + i, none⟩ = some (.int .u8 (f i))) (hB : ∀ i, i < m → W.cell? ⟨b, ob + i, none⟩ = some (.int .i64 (g i))) :
    Calls Try.prog 27 #[.slice (some ⟨a, oa, none⟩) n cap, .slice (some ⟨b, ob, none⟩) m cap2] W (Holds W) := by
  have hnew := new_any W (fun k => k = W.heap.size) rfl W.heap.size (Nat.le_refl _)
  have HN := Lib.hid hnew
  have HA := Lib.hid hA
  have HB := Lib.hid hB
  clear hnew hA hB
  obtain ⟨i0, hi, hz0, hz1, hz2⟩ := info_parts info_u8
  go_enter Try.func27, Try.ntmps27
  go_wp2_with fail
  refine HN.out.mono ?_
  rintro e w1 ⟨rfl, hu1, hm1, hs1⟩
  have hO : Ord W w1 ⟨[], false, none⟩ (.slice none 0 0) [] (.slice none 0 0) [] := by
    refine ⟨fun k => if k < W.heap.size then 0 else 1, by omega, ⟨hm1.toBelow (Nat.le_refl _) fun _ h => h.elim, fun k hk => if_pos hk⟩, uartIn_keep hu1 (Mod.refl Nil _) (fun _ _ _ h => h) ?_, ⟨World.ownsRow_nil _ _ _ _, by simp [Value.ownBlock]⟩, ⟨World.ownsRow_nil _ _ _ _, by simp [Value.ownBlock]⟩⟩
    intro g hg h
    have h : g = W.heap.size := h
    show (if g < W.heap.size then 0 else 1) = 1
    rw [if_neg (by omega)]
  have HO := Lib.hid hO
  clear hu1 hm1 hs1 hO
  go_wp2_with fail
  go_loopw [6, 7, 8, 9] (fun kv gv wv i wr => ∃ k : Nat, k ≤ n ∧ k ≤ 300 ∧ i = .int .i64 (k : Int) ∧ Goes W wr kv gv wv k) (fun _ _ _ i _ => n - (intOf i).toNat)
  case atStart => exact ⟨0, by omega, by omega, rfl, ⟨[], false, none⟩, [], [], rfl, rfl, Nat.le_refl _, HO.out⟩
  case round =>
    obtain ⟨k, hk, hk3, rfl, s, K, G, rfl, hK, hKl, hO⟩ := hrel
    obtain ⟨wo, rfl⟩ : ∃ wo : World, wo = wr := ⟨_, rfl⟩
    have hKG := Lib.hid hK
    have hb := hO.below
    have hL := hO.bytes
    have hLb := Lib.hid hL.1
    have hL16 := hL.2
    clear hK hL
    by_cases hkn : k < n ∧ k < 300
    · obtain ⟨hkn, hk300⟩ := hkn
      have hAk := HA.out k hkn
      have x0 := hAk.1
      have x1 := hAk.2.1
      have ca := (hb.cell (p := ⟨a, oa + k, none⟩) hla).trans hAk.2.2
      have y1 : (0 : Int) ≤ (k : Int) := by omega
      have y2 : (k : Int) < (n : Int) := by omega
      generalize f k = x at *
      clear hAk
      by_cases hin : s.L.length < 16
      all_goals by_cases hkm : k < m
      · have hc := hO.drew.input x x0 x1
        rw [serIn_yes hin] at hc
        have HC := Lib.hid hc
        have hdec : decide ((s.L.length : Int) < 16) = true := by simp; omega
        clear hc
        have hBk := (hb.cell (p := ⟨b, ob + k, none⟩) hlb).trans (HB.out k hkm)
        have y3 : (k : Int) < (m : Int) := by omega
        clear hb
        go_wp2_with fail
        go_region_held3 (fun w' => w'.cell? ⟨a, oa + k, none⟩ = some (.int .u8 x)) (first | exact (hO2.below.cell (p := ⟨a, oa + k, none⟩) hla).trans ((hO.below.cell (p := ⟨a, oa + k, none⟩) hla).symm.trans ca) | go_keep) (first | (go_at_call 10; refine HC.out.mono ?_; rintro e w2 ⟨rfl, hO2⟩))
        have ca2 := (hO2.below.cell (p := ⟨a, oa + k, none⟩) hla).trans ((hO.below.cell (p := ⟨a, oa + k, none⟩) hla).symm.trans ca)
        have hsz := hO2.size
        have hB2 := (hO2.below.cell (p := ⟨b, ob + k, none⟩) hlb).trans ((hO.below.cell (p := ⟨b, ob + k, none⟩) hlb).symm.trans hBk)
        go_wp2_with (first | (at_builtin; refine wpList_append_lies _ rfl _ _ 39 rfl W.heap.size 5 i0 (.int .u8 0) 1 1 Try.underlying39 hi hz0 hz1 hz2 rfl (by decide) _ K.length _ rfl (hO2.rowK.alloc _) ⟨w2.heap.size, 0, none⟩ 1 1 [.int .u8 x] rfl rfl ?c1 ?c2 (by decide) ?c3 ?c4 ?c5 _ rfl ?_; rotate_right; intro g' cap' w3 hown hgrow hat hlt'; have hO3 := hO2.pushK hgrow hown (by rw [World.size_alloc] at hat; exact hat); have hB3 := (hO3.below.cell (p := ⟨b, ob + k, none⟩) hlb).trans ((hO.below.cell (p := ⟨b, ob + k, none⟩) hlb).symm.trans hBk)) | (go_at_call 34; refine (pick_any _ 21 _ (by decide) (by decide)).mono ?_; rintro e w3' ⟨rfl, rfl⟩))
        case c1 => exact cell_one_new _ _ _
        case c2 => intro u hu; rw [List.mem_singleton] at hu; subst hu; rfl
        case c3 => simp only [maxLen]; omega
        case c4 => omega
        case c5 => rw [World.size_alloc]; omega
        have hn0 : 0 ≤ g k % 21 := by omega
        have hn1 : g k % 21 ≤ 20 := by omega
        generalize g k % 21 = nn at *
        have hKl2 : (K ++ [x]).length ≤ k + 1 := by first | omega | (simp; omega)
        have HE : Hid (GoesK W _ (Value.slice (some ⟨g', 0, none⟩) (K.length + 1) cap') (K ++ [x]) _ (.int .i64 (((s.L.length : Int) + 1)))) := ⟨({ s with L := s.L ++ [x] } : Ser), G, by first | rfl | simp, by rw [hKG.out, List.append_assoc], hO3⟩
        go_loopw [7, 8, 12] (fun gv' wv' j wr => ∃ q : Nat, j = .int .i64 (q : Int) ∧ GoesK W wr (Value.slice (some ⟨g', 0, none⟩) (K.length + 1) cap') (K ++ [x]) gv' wv') (fun _ _ j _ => (nn).toNat - (intOf j).toNat)
        case atStart => exact ⟨0, rfl, HE.out⟩
        case round =>
          obtain ⟨q, rfl, s5, G5, rfl, hK5, hO5⟩ := hrel
          have HK5 := Lib.hid hK5
          have hL5 := hO5.bytes
          have HL5 := Lib.hid hL5.1
          have hl5 := hL5.2
          have hsz5 := hO5.size
          have hG5 : G5.length ≤ k + 1 := by have := congrArg List.length hK5; simp only [List.length_append] at this; (try simp at this); omega
          clear hK5 hL5
          by_cases hq : (q : Int) < nn
          · obtain ⟨L5, en5, told5⟩ := s5
            cases L5 with
            | nil =>
              go_wp2_with fail
              refine (hO5.of 5 96 true (sl_sn en5 told5)).mono ?_
              rintro e w6 ⟨rfl, hO6⟩
              go_wp2_with fail
              refine (hO6.of 0 0 true (sl_nil en5 told5)).mono ?_
              rintro e w7 ⟨rfl, hO7⟩
              go_wp2_with fail
              go_roundw
              case rel => exact ⟨q + 1, by go_num, _, G5, rfl, HK5.out, hO7⟩
              case measure => simp [intOf]; omega
            | cons c5 L5 =>
              have hc5 := HL5.out c5 (by simp)
              have hc50 := hc5.1
              have hc51 := hc5.2
              have hle : ((c5 :: L5).length : Int) = (L5.length : Int) + 1 := by simp
              go_wp2_with fail
              refine (hO5.of 5 97 true (sl_st c5 L5 en5 told5)).mono ?_
              rintro e w6 ⟨rfl, hO6⟩
              go_wp2_with fail
              refine (hO6.of 0 c5 true (sl_pop c5 L5 en5 told5)).mono ?_
              rintro e w7 ⟨rfl, hO7⟩
              have hsz7 := hO7.size
              go_wp2_with ((at_builtin; refine wpList_append_lies _ rfl _ _ 39 rfl W.heap.size 5 i0 (.int .u8 0) 1 1 Try.underlying39 hi hz0 hz1 hz2 rfl (by decide) _ G5.length _ rfl (hO7.rowG.alloc _) ⟨w7.heap.size, 0, none⟩ 1 1 [.int .u8 c5] rfl rfl ?c1 ?c2 (by decide) ?c3 ?c4 ?c5 _ rfl ?_; rotate_right; intro g' cap' w3 hown hgrow hat hlt'; have hO8 := hO7.pushG hgrow hown (by rw [World.size_alloc] at hat; exact hat)))
              case c1 => exact cell_one_new _ _ _
              case c2 => intro u hu; rw [List.mem_singleton] at hu; subst hu; rfl
              case c3 => simp only [maxLen]; omega
              case c4 => omega
              case c5 => rw [World.size_alloc]; omega
              go_roundw
              case rel => exact ⟨q + 1, by go_num, ⟨L5, en5, told5⟩, G5 ++ [c5], by first | rfl | simp, by rw [HK5.out]; simp, hO8⟩
              case measure => simp [intOf]; omega
          · go_wp2_with (go_at_call 22; refine hO5.waits.mono ?_; rintro e w8 ⟨rfl, rfl⟩)
            go_roundw
            case rel => exact ⟨k + 1, by omega, by omega, by go_num, s5, _, G5, rfl, HK5.out, hKl2, hO5⟩
            case measure => simp [intOf]; omega
      · have hc := hO.drew.input x x0 x1
        rw [serIn_yes hin] at hc
        have HC := Lib.hid hc
        have hdec : decide ((s.L.length : Int) < 16) = true := by simp; omega
        clear hc
        have y3 : ¬ (k : Int) < (m : Int) := by omega
        clear hb
        go_wp2_with fail
        go_region_held3 (fun w' => w'.cell? ⟨a, oa + k, none⟩ = some (.int .u8 x)) (first | exact (hO2.below.cell (p := ⟨a, oa + k, none⟩) hla).trans ((hO.below.cell (p := ⟨a, oa + k, none⟩) hla).symm.trans ca) | go_keep) (first | (go_at_call 10; refine HC.out.mono ?_; rintro e w2 ⟨rfl, hO2⟩))
        have ca2 := (hO2.below.cell (p := ⟨a, oa + k, none⟩) hla).trans ((hO.below.cell (p := ⟨a, oa + k, none⟩) hla).symm.trans ca)
        have hsz := hO2.size
        go_wp2_with ((at_builtin; refine wpList_append_lies _ rfl _ _ 39 rfl W.heap.size 5 i0 (.int .u8 0) 1 1 Try.underlying39 hi hz0 hz1 hz2 rfl (by decide) _ K.length _ rfl (hO2.rowK.alloc _) ⟨w2.heap.size, 0, none⟩ 1 1 [.int .u8 x] rfl rfl ?c1 ?c2 (by decide) ?c3 ?c4 ?c5 _ rfl ?_; rotate_right; intro g' cap' w3 hown hgrow hat hlt'; have hO3 := hO2.pushK hgrow hown (by rw [World.size_alloc] at hat; exact hat)))
        case c1 => exact cell_one_new _ _ _
        case c2 => intro u hu; rw [List.mem_singleton] at hu; subst hu; rfl
        case c3 => simp only [maxLen]; omega
        case c4 => omega
        case c5 => rw [World.size_alloc]; omega
        obtain ⟨nn, hnn⟩ : ∃ nn : Int, nn = 0 := ⟨_, rfl⟩
        have hKl2 : (K ++ [x]).length ≤ k + 1 := by first | omega | (simp; omega)
        have HE : Hid (GoesK W _ (Value.slice (some ⟨g', 0, none⟩) (K.length + 1) cap') (K ++ [x]) _ (.int .i64 (((s.L.length : Int) + 1)))) := ⟨({ s with L := s.L ++ [x] } : Ser), G, by first | rfl | simp, by rw [hKG.out, List.append_assoc], hO3⟩
        go_loopw [7, 8, 12] (fun gv' wv' j wr => ∃ q : Nat, j = .int .i64 (q : Int) ∧ GoesK W wr (Value.slice (some ⟨g', 0, none⟩) (K.length + 1) cap') (K ++ [x]) gv' wv') (fun _ _ j _ => ((0 : Int)).toNat - (intOf j).toNat)
        case atStart => exact ⟨0, rfl, HE.out⟩
        case round =>
          obtain ⟨q, rfl, s5, G5, rfl, hK5, hO5⟩ := hrel
          have HK5 := Lib.hid hK5
          have hL5 := hO5.bytes
          have HL5 := Lib.hid hL5.1
          have hl5 := hL5.2
          have hsz5 := hO5.size
          have hG5 : G5.length ≤ k + 1 := by have := congrArg List.length hK5; simp only [List.length_append] at this; (try simp at this); omega
          clear hK5 hL5
          by_cases hq : (q : Int) < (0 : Int)
          · exfalso; omega
          · go_wp2_with (go_at_call 22; refine hO5.waits.mono ?_; rintro e w8 ⟨rfl, rfl⟩)
            go_roundw
            case rel => exact ⟨k + 1, by omega, by omega, by go_num, s5, _, G5, rfl, HK5.out, hKl2, hO5⟩
            case measure => simp [intOf]; omega
      · have hc := hO.drew.input x x0 x1
        rw [serIn_no hin] at hc
        have HC := Lib.hid hc
        have hdec : decide ((s.L.length : Int) < 16) = false := by simp; omega
        clear hc
        have hBk := (hb.cell (p := ⟨b, ob + k, none⟩) hlb).trans (HB.out k hkm)
        have y3 : (k : Int) < (m : Int) := by omega
        clear hb
        go_wp2_with fail
        go_region_held3 (fun w' => w'.cell? ⟨a, oa + k, none⟩ = some (.int .u8 x)) (first | exact (hO2.below.cell (p := ⟨a, oa + k, none⟩) hla).trans ((hO.below.cell (p := ⟨a, oa + k, none⟩) hla).symm.trans ca) | go_keep) (first | (go_at_call 10; refine HC.out.mono ?_; rintro e w2 ⟨rfl, hO2⟩))
        have ca2 := (hO2.below.cell (p := ⟨a, oa + k, none⟩) hla).trans ((hO.below.cell (p := ⟨a, oa + k, none⟩) hla).symm.trans ca)
        have hsz := hO2.size
        have hB2 := (hO2.below.cell (p := ⟨b, ob + k, none⟩) hlb).trans ((hO.below.cell (p := ⟨b, ob + k, none⟩) hlb).symm.trans hBk)
        go_wp2_with ((go_at_call 34; refine (pick_any _ 21 _ (by decide) (by decide)).mono ?_; rintro e w3' ⟨rfl, rfl⟩))
        have hn0 : 0 ≤ g k % 21 := by omega
        have hn1 : g k % 21 ≤ 20 := by omega
        generalize g k % 21 = nn at *
        have hKl2 : K.length ≤ k + 1 := by first | omega | (simp; omega)
        have HE : Hid (GoesK W _ _ K _ (.int .i64 ((s.L.length : Int)))) := ⟨s, G, by first | rfl | simp, by exact hKG.out, hO2⟩
        go_loopw [7, 8, 12] (fun gv' wv' j wr => ∃ q : Nat, j = .int .i64 (q : Int) ∧ GoesK W wr _ K gv' wv') (fun _ _ j _ => (nn).toNat - (intOf j).toNat)
        case atStart => exact ⟨0, rfl, HE.out⟩
        case round =>
          obtain ⟨q, rfl, s5, G5, rfl, hK5, hO5⟩ := hrel
          have HK5 := Lib.hid hK5
          have hL5 := hO5.bytes
          have HL5 := Lib.hid hL5.1
          have hl5 := hL5.2
          have hsz5 := hO5.size
          have hG5 : G5.length ≤ k + 1 := by have := congrArg List.length hK5; simp only [List.length_append] at this; (try simp at this); omega
          clear hK5 hL5
          by_cases hq : (q : Int) < nn
          · obtain ⟨L5, en5, told5⟩ := s5
            cases L5 with
            | nil =>
              go_wp2_with fail
              refine (hO5.of 5 96 true (sl_sn en5 told5)).mono ?_
              rintro e w6 ⟨rfl, hO6⟩
              go_wp2_with fail
              refine (hO6.of 0 0 true (sl_nil en5 told5)).mono ?_
              rintro e w7 ⟨rfl, hO7⟩
              go_wp2_with fail
              go_roundw
              case rel => exact ⟨q + 1, by go_num, _, G5, rfl, HK5.out, hO7⟩
              case measure => simp [intOf]; omega
            | cons c5 L5 =>
              have hc5 := HL5.out c5 (by simp)
              have hc50 := hc5.1
              have hc51 := hc5.2
              have hle : ((c5 :: L5).length : Int) = (L5.length : Int) + 1 := by simp
              go_wp2_with fail
              refine (hO5.of 5 97 true (sl_st c5 L5 en5 told5)).mono ?_
              rintro e w6 ⟨rfl, hO6⟩
              go_wp2_with fail
              refine (hO6.of 0 c5 true (sl_pop c5 L5 en5 told5)).mono ?_
              rintro e w7 ⟨rfl, hO7⟩
              have hsz7 := hO7.size
              go_wp2_with ((at_builtin; refine wpList_append_lies _ rfl _ _ 39 rfl W.heap.size 5 i0 (.int .u8 0) 1 1 Try.underlying39 hi hz0 hz1 hz2 rfl (by decide) _ G5.length _ rfl (hO7.rowG.alloc _) ⟨w7.heap.size, 0, none⟩ 1 1 [.int .u8 c5] rfl rfl ?c1 ?c2 (by decide) ?c3 ?c4 ?c5 _ rfl ?_; rotate_right; intro g' cap' w3 hown hgrow hat hlt'; have hO8 := hO7.pushG hgrow hown (by rw [World.size_alloc] at hat; exact hat)))
              case c1 => exact cell_one_new _ _ _
              case c2 => intro u hu; rw [List.mem_singleton] at hu; subst hu; rfl
              case c3 => simp only [maxLen]; omega
              case c4 => omega
              case c5 => rw [World.size_alloc]; omega
              go_roundw
              case rel => exact ⟨q + 1, by go_num, ⟨L5, en5, told5⟩, G5 ++ [c5], by first | rfl | simp, by rw [HK5.out]; simp, hO8⟩
              case measure => simp [intOf]; omega
          · go_wp2_with (go_at_call 22; refine hO5.waits.mono ?_; rintro e w8 ⟨rfl, rfl⟩)
            go_roundw
            case rel => exact ⟨k + 1, by omega, by omega, by go_num, s5, _, G5, rfl, HK5.out, hKl2, hO5⟩
            case measure => simp [intOf]; omega
      · have hc := hO.drew.input x x0 x1
        rw [serIn_no hin] at hc
        have HC := Lib.hid hc
        have hdec : decide ((s.L.length : Int) < 16) = false := by simp; omega
        clear hc
        have y3 : ¬ (k : Int) < (m : Int) := by omega
        clear hb
        go_wp2_with fail
        go_region_held3 (fun w' => w'.cell? ⟨a, oa + k, none⟩ = some (.int .u8 x)) (first | exact (hO2.below.cell (p := ⟨a, oa + k, none⟩) hla).trans ((hO.below.cell (p := ⟨a, oa + k, none⟩) hla).symm.trans ca) | go_keep) (first | (go_at_call 10; refine HC.out.mono ?_; rintro e w2 ⟨rfl, hO2⟩))
        have ca2 := (hO2.below.cell (p := ⟨a, oa + k, none⟩) hla).trans ((hO.below.cell (p := ⟨a, oa + k, none⟩) hla).symm.trans ca)
        have hsz := hO2.size
        go_wp2_with fail
        obtain ⟨nn, hnn⟩ : ∃ nn : Int, nn = 0 := ⟨_, rfl⟩
        have hKl2 : K.length ≤ k + 1 := by first | omega | (simp; omega)
        have HE : Hid (GoesK W _ _ K _ (.int .i64 ((s.L.length : Int)))) := ⟨s, G, by first | rfl | simp, by exact hKG.out, hO2⟩
        go_loopw [7, 8, 12] (fun gv' wv' j wr => ∃ q : Nat, j = .int .i64 (q : Int) ∧ GoesK W wr _ K gv' wv') (fun _ _ j _ => ((0 : Int)).toNat - (intOf j).toNat)
        case atStart => exact ⟨0, rfl, HE.out⟩
        case round =>
          obtain ⟨q, rfl, s5, G5, rfl, hK5, hO5⟩ := hrel
          have HK5 := Lib.hid hK5
          have hL5 := hO5.bytes
          have HL5 := Lib.hid hL5.1
          have hl5 := hL5.2
          have hsz5 := hO5.size
          have hG5 : G5.length ≤ k + 1 := by have := congrArg List.length hK5; simp only [List.length_append] at this; (try simp at this); omega
          clear hK5 hL5
          by_cases hq : (q : Int) < (0 : Int)
          · exfalso; omega
          · go_wp2_with (go_at_call 22; refine hO5.waits.mono ?_; rintro e w8 ⟨rfl, rfl⟩)
            go_roundw
            case rel => exact ⟨k + 1, by omega, by omega, by go_num, s5, _, G5, rfl, HK5.out, hKl2, hO5⟩
            case measure => simp [intOf]; omega
    · have HE : Hid (GoesK W wo _ K _ (.int .i64 (s.L.length : Int))) := ⟨s, G, rfl, hKG.out, hO⟩
      by_cases hkn2 : k < n
      all_goals
       first
        | (have hk300 : ¬ k < 300 := fun h => hkn ⟨hkn2, h⟩)
        | skip
       go_wp2_with fail
       go_loopw [7, 8] (fun gv' wv' wr => GoesK W wr _ K gv' wv') (fun _ wv' _ => (intOf wv').toNat)
       case atStart => exact HE.out
       case round =>
         obtain ⟨s5, G5, rfl, hK5, hO5⟩ := hrel
         have HK5 := Lib.hid hK5
         have hL5 := hO5.bytes
         have HL5 := Lib.hid hL5.1
         have hl5 := hL5.2
         have hsz5 := hO5.size
         have hb5 := Lib.hid hO5.below
         have hG5 : G5.length ≤ 300 := by have := congrArg List.length hK5; simp only [List.length_append] at this; omega
         clear hK5 hL5
         obtain ⟨L5, en5, told5⟩ := s5
         cases L5 with
         | nil =>
           have hKe := HK5.out
           rw [show ({ L := [], en := en5, told := told5 } : Ser).L = [] from rfl, List.append_nil] at hKe
           have HKe := Lib.hid hKe
           clear hKe
           have hiG := Ints.of_own hO5.rowG (by simp only [maxLen]; omega)
           have hiK := Ints.of_own hO5.rowK (by simp only [maxLen]; omega)
           rw [HKe.out] at hiK
           go_wp2_with fail
           refine (same_bytes _ _ _ _ _ hiG hiK).mono ?_
           rintro e w8 ⟨rfl, hm8⟩
           have hO8 := hO5.quiet hm8
           go_wp2_with fail
           refine hO8.waits.mono ?_
           rintro e w9 ⟨rfl, rfl⟩
           go_wp2_with fail
           refine (works_any w8).mono ?_
           rintro e w9 ⟨rfl, hw9⟩
           go_wp2_with fail
           go_ret
           exact ⟨rfl, hO8.below.trans (hw9.mono hO8.below.size)⟩
         | cons c5 L5 =>
           have hc5 := HL5.out c5 (by simp)
           have hc50 := hc5.1
           have hc51 := hc5.2
           have hl6 : L5.length + 1 ≤ 16 := hl5
           go_wp2_with fail
           refine (hO5.of 0 c5 true (sl_pop c5 L5 en5 told5)).mono ?_
           rintro e w7 ⟨rfl, hO7⟩
           have hsz7 := hO7.size
           go_wp2_with ((at_builtin; refine wpList_append_lies _ rfl _ _ 39 rfl W.heap.size 5 i0 (.int .u8 0) 1 1 Try.underlying39 hi hz0 hz1 hz2 rfl (by decide) _ G5.length _ rfl (hO7.rowG.alloc _) ⟨w7.heap.size, 0, none⟩ 1 1 [.int .u8 c5] rfl rfl ?c1 ?c2 (by decide) ?c3 ?c4 ?c5 _ rfl ?_; rotate_right; intro g' cap' w3 hown hgrow hat hlt'; have hO8 := hO7.pushG hgrow hown (by rw [World.size_alloc] at hat; exact hat)))
           case c1 => exact cell_one_new _ _ _
           case c2 => intro u hu; rw [List.mem_singleton] at hu; subst hu; rfl
           case c3 => simp only [maxLen]; omega
           case c4 => omega
           case c5 => rw [World.size_alloc]; omega
           go_roundw
           case rel => exact ⟨⟨L5, en5, told5⟩, G5 ++ [c5], by first | rfl | simp, by rw [HK5.out]; simp, hO8⟩
           case measure => simp [intOf]

end Go.Proofs.Ytoeppbngogjbaaa
