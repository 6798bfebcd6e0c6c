/- A controller behind some calls; what it claims (plain). Condition: the calls lie in memory. -/
import Derived.Test.YtjkbemonedohjaaPlicW
import Derived.Test.YtjkbemonedohjaaLook
namespace Go.Proofs.Ytjkbemonedohjaa
open Go.RowKit Go.ChangeShapes Go.WideShapes Go.Deep
attribute [local go_sem ↓] Go.wp_at_zero Go.wp_at_succ

theorem PHas.lift {W w w' : World} {p : Nat} {S : Pli} (hb : Below W.heap.size W w) (h : PHas w w' p S) : PHas W w' p S :=
  ⟨h.plic, hb.trans (h.below.mono hb.size), Nat.le_trans hb.size h.old⟩

set_option maxHeartbeats 4000000 in
theorem done_any (A : Option Addr) (n cap : Nat) (L : Nat → OpV) (W : World) (hn : n ≤ 300) (hL : OpsAt W A n L) :
    Calls Try.prog 30 #[.slice A n cap] W (fun e w' => ∃ S, e = .returned (.pointer (some ⟨W.heap.size, 0, none⟩)) ∧ PHas W w' W.heap.size S) := by
  have HL := Lib.hid hL
  clear hL
  go_enter Try.func30, Try.ntmps30
  go_wp2_with (fail)
  refine (new_phas (Below.refl _ W)).mono ?_
  rintro e w1 ⟨rfl, h1, hm1⟩
  have H1 := Lib.hid h1
  clear h1 hm1
  go_wp2_with (fail)
  go_loopw [4] (fun i wr => ∃ (k : Nat) (S : Pli), k ≤ n ∧ i = .int .i64 (k : Int) ∧ PHas W wr W.heap.size S) (fun i _ => n - (intOf i).toNat)
  case atStart => exact ⟨0, _, Nat.zero_le _, rfl, H1.out⟩
  case round =>
    obtain ⟨k, S, hk, rfl, hB⟩ := hrel
    obtain ⟨wo, rfl⟩ : ∃ wo : World, wo = wr := ⟨_, rfl⟩
    by_cases hkn : k < n
    · obtain ⟨b, off, rfl, hb, hok, hc⟩ := HL.out k hkn
      obtain ⟨f0, f1, f2, f3, f4⟩ := hc.below hB.below hb
      obtain ⟨hv, hm⟩ := hok
      have hbl : b < wo.heap.size := Nat.lt_of_lt_of_le hb hB.below.size
      have hbp : ¬ b = W.heap.size := by omega
      clear hc
      generalize (L k).K = K at *
      generalize (L k).O = O at *
      generalize (L k).S = Z at *
      generalize (L k).V = V at *
      generalize (L k).M = M at *
      have HP := Lib.hid hB
      clear hB
      go_wp2_with (fail)
      · refine (HP.out.lines M hm).mono ?_
        rintro e w3 ⟨rfl, hp, _⟩
        have HQ := Lib.hid hp
        clear hp HP
        go_wp2
        go_roundw
        case rel => exact ⟨k + 1, _, by omega, by go_num, HQ.out⟩
        case measure => simp [intOf]; omega
      · have hp := HP.out.nil (Mod.refl Nil _).drew
        go_region_held3 (fun w' => w'.cell? ⟨b, off + k * 5 + 1, none⟩ = some (.int .i64 O) ∧ w'.cell? ⟨b, off + k * 5 + 2, none⟩ = some (.int .i64 Z)) (first | exact ⟨(hm2.cell (p := ⟨b, _, none⟩) hbl hbp).trans f1, (hm2.cell (p := ⟨b, _, none⟩) hbl hbp).trans f2⟩ | exact ⟨f1, f2⟩ | go_keep) (first | (go_at_call 10; refine (hp.load O Z).mono ?_; rintro e w' ⟨rfl, hp, hm2⟩))
        have HQ := Lib.hid hp
        clear hp HP hm2
        go_wp2
        go_roundw
        case rel => exact ⟨k + 1, _, by omega, by go_num, HQ.out⟩
        case measure => simp [intOf]; omega
      · have hp := HP.out.nil (Mod.refl Nil _).drew
        go_region_held3 (fun w' => w'.cell? ⟨b, off + k * 5 + 1, none⟩ = some (.int .i64 O) ∧ w'.cell? ⟨b, off + k * 5 + 2, none⟩ = some (.int .i64 Z) ∧ w'.cell? ⟨b, off + k * 5 + 3, none⟩ = some (.int .u64 (V : Int))) (first | exact ⟨(hm2.cell (p := ⟨b, _, none⟩) hbl hbp).trans f1, (hm2.cell (p := ⟨b, _, none⟩) hbl hbp).trans f2, (hm2.cell (p := ⟨b, _, none⟩) hbl hbp).trans f3⟩ | exact ⟨f1, f2, f3⟩ | go_keep) (first | (go_at_call 12; refine (hp.store O Z V hv).mono ?_; rintro e w' ⟨rfl, hp, hm2⟩))
        have HQ := Lib.hid hp
        clear hp HP hm2
        go_wp2
        go_roundw
        case rel => exact ⟨k + 1, _, by omega, by go_num, HQ.out⟩
        case measure => simp [intOf]; omega
      · go_roundw
        case rel => exact ⟨k + 1, _, by omega, by go_num, HP.out⟩
        case measure => simp [intOf]; omega
    · obtain rfl : k = n := by omega
      have HB := Lib.hid hB
      clear hB
      go_wp2
      go_ret
      exact ⟨_, rfl, HB.out⟩

theorem w64_and {x y : Nat} {f g : Nat → Bool} (hx : Word x f) (hy : Word y g) : bits BinOp.and IntKind.u64 (x : Int) (y : Int) = ((wordOf (fun k => f k && g k) 32 : Nat) : Int) := by
  rw [u64_and_nat _ _ (by have := hx.1; omega) (by have := hy.1; omega), (word_and hx hy).eq]
theorem w64_andNot {x y : Nat} {f g : Nat → Bool} (hx : Word x f) (hy : Word y g) : bits BinOp.andNot IntKind.u64 (x : Int) (y : Int) = ((wordOf (fun k => f k && !g k) 32 : Nat) : Int) := by
  have h1 := hx.1
  have h2 := hy.1
  rw [u64_andNot_nat _ _ (by omega) (by omega)]
  have h : Word (x &&& (18446744073709551615 - y)) (fun k => f k && !g k) := ⟨Nat.lt_of_le_of_lt Nat.and_le_left h1, fun k hk => by
    rw [Nat.testBit_and, hx.2 k hk, show 18446744073709551615 - y = 2 ^ 64 - (y + 1) from by omega, Nat.testBit_two_pow_sub_succ (by omega), hy.2 k hk, decide_eq_true (show k < 64 from by omega), Bool.true_and]⟩
  rw [h.eq]
theorem bit_test64 (x s : Nat) (hx : x < 18446744073709551616) : (bits BinOp.and IntKind.u64 ((x : Int) / 2 ^ s) 1 == 1) = x.testBit s := by
  have e : ((x : Int) / 2 ^ s) = ((x / 2 ^ s : Nat) : Int) := by rw [Int.natCast_ediv, Int.natCast_pow]; rfl
  have hl : x / 2 ^ s < 18446744073709551616 := Nat.lt_of_le_of_lt (Nat.div_le_self _ _) hx
  rw [e, show (1 : Int) = ((1 : Nat) : Int) from rfl, u64_and_nat _ _ hl (by decide), Nat.and_one_is_mod, Nat.testBit_eq_decide_div_mod_eq]
  by_cases h : x / 2 ^ s % 2 = 1
  · rw [h]; rfl
  · have h0 : x / 2 ^ s % 2 = 0 := by omega
    rw [h0]; rfl

/-! The registers. -/
theorem load_pri (S : Pli) (s : Nat) (hs : s < 32) : S.load (4 * (s : Int)) 4 = ((S.pri s, true), S) := by
  have h : which (4 * (s : Int)) 4 = (1, s) := by
    unfold which
    rw [if_pos ⟨rfl, by omega⟩, if_pos ⟨by omega, by omega⟩, show (4 * (s : Int)).toNat / 4 = s from by omega]
  unfold Pli.load
  rw [h]
  rfl
theorem load_pend (S : Pli) : S.load 4096 4 = ((wordOf S.pend 32, true), S) := rfl
theorem load_en (S : Pli) (c : Nat) (hc : c < 2) : S.load (8192 + 128 * (c : Int)) 4 = ((wordOf (S.en c) 32, true), S) := by
  rcases c with _ | _ | c
  · rfl
  · rfl
  · omega
theorem load_claim (S : Pli) (c : Nat) (hc : c < 2) : S.load (2097156 + 4096 * (c : Int)) 4 = (((S.claim c).1, true), (S.claim c).2) := by
  rcases c with _ | _ | c
  · rfl
  · rfl
  · omega

theorem load_claim0 (S : Pli) : S.load 2097156 4 = (((S.claim 0).1, true), (S.claim 0).2) := load_claim S 0 (by omega)
theorem load_claim1 (S : Pli) : S.load 2101252 4 = (((S.claim 1).1, true), (S.claim 1).2) := load_claim S 1 (by omega)

/-- The greatest priority, and a threshold. -/
theorem most_told (p : Nat → Bool) (pri : Nat → Nat) (t : Nat) : decide (0 < best p pri t) = decide (t < (up p pri 0 31).2) := by
  obtain ⟨u1, u2, u3, u4, u5⟩ := up_spec p pri 0 31
  rw [decide_eq_decide]
  constructor
  · intro h
    obtain ⟨a, b, c, d⟩ := best_pos p pri t h
    have := u3 _ h (best_lt _ _ _) a
    omega
  · intro h
    refine Nat.pos_of_ne_zero fun h0 => ?_
    have hz := best_zero p pri t h0
    have hp : 0 < (up p pri 0 31).1 := Nat.pos_of_ne_zero fun e => by have := u4 e; omega
    obtain ⟨a, b, c, d⟩ := u5 hp
    have := hz _ hp u1 a
    omega

end Go.Proofs.Ytjkbemonedohjaa
