/- RamBack returns true at any numbers stored ahead, any offset, size and number. No other condition. -/
import Derived.Test.YthpjedbkdepglaaRamH
import Derived.Deep.CutBlock
import Derived.Deep.CutRange
namespace Go.Proofs.Ythpjedbkdepglaa
open Go.RowKit Go.ChangeShapes Go.WideShapes Go.Deep

theorem load_one (M : Mem) (i : Nat) (h : i < M.n) : M.load (i : Int) 1 = (M.B i, true) := by
  unfold Mem.load
  rw [if_pos ⟨.inl rfl, by unfold There; omega⟩]
  simp [num]
theorem store_yes (M : Mem) (o : Nat) (s : Int) (k : Nat) (hsk : s = k) (v : Nat) (hk : k = 1 ∨ k = 2 ∨ k = 4 ∨ k = 8) (h : o + k ≤ M.n) : ∃ M' : Mem, M.store (o : Int) s v = (true, M') ∧ M'.n = M.n ∧ M'.B = lay M.B o k v := by
  subst hsk
  unfold Mem.store
  rw [if_pos ⟨by unfold Sized; omega, by unfold There; omega⟩]
  exact ⟨_, rfl, rfl, rfl⟩
theorem store_not (M : Mem) (o : Nat) (s : Int) (v : Nat) (h : ¬ (Sized s ∧ (o : Int) + s ≤ M.n)) : M.store (o : Int) s v = (false, M) ∧ M.load (o : Int) s = (0, false) := by
  unfold Mem.store Mem.load
  have h2 : ¬ (Sized s ∧ There M (o : Int) s) := fun ⟨a, b⟩ => h ⟨a, b.2⟩
  rw [if_neg h2, if_neg h2]
  exact ⟨rfl, rfl⟩
theorem load_back (M : Mem) (B : Nat → Nat) (o : Nat) (s : Int) (k : Nat) (hsk : s = k) (v : Nat) (hk : k = 1 ∨ k = 2 ∨ k = 4 ∨ k = 8) (h : o + k ≤ M.n) (hB : M.B = lay B o k v) : M.load (o : Int) s = (v % 256 ^ k, true) := by
  subst hsk
  unfold Mem.load
  rw [if_pos ⟨by unfold Sized; omega, by unfold There; omega⟩, ← num_digits]
  congr 1
  rw [Int.toNat_natCast, Int.toNat_natCast]
  refine num_congr _ fun i hi => ?_
  rw [hB]
  unfold lay
  rw [if_pos (by omega), show o + i - o = i from by omega]

/-- The bytes copied so far. -/
def copied (B : Nat → Nat) (q : Nat) : Nat → Value := fun j => .int .u8 (((if j < q then B j else 0) : Nat) : Int)

theorem raminfo_u8' : (Try.prog.info? 5).map (fun i => (i.zero, i.size, i.bytes)) = some (some (.int .u8 0), 1, 1) := raminfo_u8
theorem make_bytes (w : World) : Sem.run Try.prog (Instr.makeSlice 42 (.int .i64 4096) (.int .i64 4096)) w = .ok (.slice (some ⟨w.heap.size, 0, none⟩) 4096 4096) (w.alloc (.cells (madeCells #[.int .u8 0] 4096) 5)) :=
  run_make_row' (P := Try.prog) 42 5 (.int .u8 0) 1 Try.underlying42 raminfo_u8 rfl .i64 .i64 4096 (by omega) (by omega) w

theorem shl_shr (v k : Nat) (hk : k = 1 ∨ k = 2 ∨ k = 4 ∨ k = 8) : v * 2 ^ (64 - 8 * k) % 18446744073709551616 / 2 ^ (64 - 8 * k) = v % 256 ^ k := by
  rcases hk with rfl | rfl | rfl | rfl <;> simp <;> omega

/-- Behind the store: every byte is looked at again. -/
def Behind (W w : World) (r rb wb : Nat) (M : Mem) (B : Nat → Nat) : Prop := Has W w r rb M ∧ M.n = 4096 ∧ w.rowIs wb 5 4096 (fun j => .int .u8 ((B j : Nat) : Int)) ∧ wb ≠ r ∧ wb ≠ rb

set_option maxHeartbeats 8000000 in
set_option maxRecDepth 100000 in
theorem back_any (va : Value) (n : Nat) (f : Nat → Int) (off size : Int) (v : Nat) (W : World) (hv : v < 18446744073709551616) (hI : Ints W .u64 va n f) (hf : ∀ i, i < n → 0 ≤ f i ∧ f i < 18446744073709551616) :
    Calls Try.prog 4 #[va, .int .i64 off, .int .i64 size, .int .u64 (v : Int)] W (fun e w' => e = .returned (.bool true) ∧ Below W.heap.size W w') := by
  obtain ⟨A, cap, rfl, _, hmax, hA⟩ := hI
  simp only [maxLen] at hmax
  have HA := Lib.hid hA
  have HF := Lib.hid hf
  clear hA hf
  have hnew := new_has (Below.refl _ W) 4096 (by omega) (by omega) (by omega)
  have HN := Lib.hid hnew
  clear hnew
  go_enter Try.func4, Try.ntmps4
  go_wp2_with (fail)
  refine HN.out.mono ?_
  rintro e w1 ⟨rfl, h1, hm1⟩
  have H1 := Lib.hid h1
  clear h1 hm1
  go_upto_block 0 with fail
  go_cut [11] from 32 to 49 (fun i wx => ∃ M : Mem, Has W wx (W.heap.size + 1) W.heap.size M ∧ M.n = 4096)
  case first =>
    go_wp2_with (fail)
    go_loopw [11] (fun i wr => ∃ (k : Nat) (M : Mem), k ≤ n ∧ k ≤ 512 ∧ i = .int .i64 (k : Int) ∧ Has W wr (W.heap.size + 1) W.heap.size M ∧ M.n = 4096) (fun i _ => n - (intOf i).toNat)
    case atStart => exact ⟨0, _, Nat.zero_le _, Nat.zero_le _, rfl, H1.out, rfl⟩
    case round =>
      obtain ⟨k, M, hk, hk2, rfl, hH, hM⟩ := hrel
      obtain ⟨wo, rfl⟩ : ∃ wo : World, wo = wr := ⟨_, rfl⟩
      have HH := Lib.hid hH
      have HM := Lib.hid hM
      clear hH hM
      by_cases hkn : k < n ∧ k < 512
      · obtain ⟨hkn, hk3⟩ := hkn
        obtain ⟨b, ob, rfl, hb, hc⟩ := HA.out (by omega)
        obtain ⟨x, hx⟩ : ∃ x : Nat, f k = (x : Int) := ⟨(f k).toNat, by have := HF.out k hkn; omega⟩
        have hx2 : x < 18446744073709551616 := by have := HF.out k hkn; omega
        have ck := (HH.out.below.cell (p := ⟨b, ob + k, none⟩) hb).trans (hc k hkn)
        rw [hx] at ck
        clear hc hx
        go_wp2_with (fail)
        refine (HH.out.store (8 * (k : Int)) 8 x hx2).mono ?_
        rintro e w2 ⟨rfl, h2, _⟩
        have H2 := Lib.hid h2
        clear h2
        go_wp2
        go_roundw
        case rel => exact ⟨k + 1, _, by omega, by omega, by go_num, H2.out, by rw [store_n]; exact HM.out⟩
        case measure => simp [intOf]; omega
      · have hkk : ¬ ((k : Int) < (n : Int)) ∨ ¬ ((k : Int) < 512) := by omega
        clear hkn HA HF H1 HN
        go_wp2_with (fail)
        all_goals
          go_meet
          exact ⟨M, HH.out, HM.out⟩
  case rest =>
    obtain ⟨M, hH, hM⟩ := hcut
    have HH := Lib.hid hH
    have HM := Lib.hid hM
    clear hH hM HA HF H1 HN
    have hmk := make_bytes
    obtain ⟨o, ho⟩ : ∃ o : Nat, off % 4100 = (o : Int) := ⟨(off % 4100).toNat, by omega⟩
    have ho2 : o < 4100 := by omega
    have HO := Lib.hid ho
    clear ho
    go_wp2_with (fail)
    refine (pick_any off 4100 _ (by omega) (by omega)).mono ?_
    rw [HO.out]
    rintro e w' ⟨rfl, rfl⟩
    go_wp2_with (fail)
    clear hmk
    obtain ⟨wo, rfl⟩ : ∃ wo : World, wo = wc := ⟨_, rfl⟩
    have hrow0 : (wo.alloc (.cells (madeCells #[.int .u8 0] 4096) 5)).rowIs wo.heap.size 5 4096 (copied M.B 0) := (World.rowIs_made wo (.int .u8 0) 4096 _).congr fun j _ => by unfold copied; rw [if_neg (by omega)]; rfl
    have HR0 := Lib.hid hrow0
    have hlt := HH.out.lt
    have hsz := HH.out.below.size
    clear hrow0
    go_loopw [13] (fun i wr => ∃ q : Nat, q ≤ 4096 ∧ i = .int .i64 (q : Int) ∧ Has W wr (W.heap.size + 1) W.heap.size M ∧ wr.rowIs wo.heap.size 5 4096 (copied M.B q)) (fun i _ => 4096 - (intOf i).toNat)
    case atStart => exact ⟨0, Nat.zero_le _, rfl, HH.out.alloc _, HR0.out⟩
    case round =>
      obtain ⟨q, hq, rfl, hH, hR⟩ := hrel
      obtain ⟨wa, rfl⟩ : ∃ wa : World, wa = wr := ⟨_, rfl⟩
      have H2 := Lib.hid hH
      have R2 := Lib.hid hR
      by_cases hqn : q < 4096
      · have fr := hR.frozen q
        have cr := hR.cell hqn
        have hbq := hH.ram.2.2.2.1 q
        have hl1 := load_one M q (by rw [HM.out]; exact hqn)
        have HL1 := Lib.hid hl1
        clear hH hR hl1
        obtain ⟨x, hx⟩ : ∃ x, x = M.B q := ⟨_, rfl⟩
        rw [← hx] at hbq
        have HX := Lib.hid hx
        clear hx
        go_wp2_with (fail)
        refine (H2.out.load (q : Int) 1).mono ?_
        rw [HL1.out, ← HX.out]
        rintro e w3 ⟨rfl, rfl⟩
        go_wp2
        go_roundw
        case rel =>
          refine ⟨q + 1, by omega, by go_num, H2.out.keep ((Mod.refl (fun g => g = wo.heap.size) _).setCell (.inl rfl) _) (fun i hi => by rw [hi]; exact hsz) (by omega) (by omega), (R2.out.set _ _).congr fun j hj => ?_⟩
          unfold copied
          by_cases e : j = q
          · subst e
            rw [if_pos rfl, if_pos (by omega), ← HX.out]
            try rw [Int.emod_eq_of_lt (by omega) (by omega)]
          · rw [if_neg e]
            by_cases e2 : j < q
            · rw [if_pos e2, if_pos (by omega)]
            · rw [if_neg e2, if_neg (by omega)]
        case measure => simp [intOf]; omega
      · obtain rfl : q = 4096 := by omega
        have hB : Behind W wa (W.heap.size + 1) W.heap.size wo.heap.size M M.B := ⟨H2.out, HM.out, R2.out.congr fun j hj => by unfold copied; rw [if_pos hj], by omega, by omega⟩
        have HB := Lib.hid hB
        clear hH hR H2 R2 HR0 hB hlt HH hsz
        go_upto_region 17 with fail
        go_cut [16] from 70 to 89 (fun c wx => c = .bool (decide (Sized size ∧ (o : Int) + size ≤ 4096)) ∧ wx = wa)
        case first =>
          rcases Decidable.em (Sized size) with hs | hs
          · unfold Sized at hs
            rcases hs with rfl | rfl | rfl | rfl
            all_goals
              go_wp2_with (fail)
              all_goals
                go_meet
                exact ⟨by congr 1; simp [Sized], rfl⟩
          · have e1 : (size == 1) = false := by unfold Sized at hs; simp; omega
            have e2 : (size == 2) = false := by unfold Sized at hs; simp; omega
            have e4 : (size == 4) = false := by unfold Sized at hs; simp; omega
            have e8 : (size == 8) = false := by unfold Sized at hs; simp; omega
            have hs2 : decide (Sized size ∧ (o : Int) + size ≤ 4096) = false := decide_eq_false fun h => hs h.1
            have HS2 := Lib.hid hs2
            clear hs hs2
            go_wp2_with (fail)
            go_meet
            exact ⟨by rw [HS2.out], rfl⟩
        case rest =>
          obtain ⟨rfl, rfl⟩ := hcut
          by_cases hfine : Sized size ∧ (o : Int) + size ≤ 4096
          · rw [decide_eq_true hfine]
            obtain ⟨hs, hle⟩ := hfine
            obtain ⟨k, rfl⟩ : ∃ k : Nat, size = (k : Int) := ⟨size.toNat, by unfold Sized at hs; omega⟩
            have hk : k = 1 ∨ k = 2 ∨ k = 4 ∨ k = 8 := by unfold Sized at hs; omega
            have hk1 : 1 ≤ k := by omega
            have hk8 : k ≤ 8 := by omega
            have hok : o + k ≤ 4096 := by omega
            obtain ⟨M', he, hn', hB'⟩ := store_yes M o k k rfl v hk (by have := HM.out; omega)
            have hlb := load_back M' M.B o k k rfl v hk (by have := HM.out; omega) hB'
            have hss := shl_shr v k hk
            have hsh : (v : Int) % 256 ^ k = IntKind.u64.wrap ((v : Int) * 2 ^ (64 - 8 * k)) / 2 ^ (64 - 8 * k) := by
              rw [IntKind.wrap_u64]
              have h2 : ((v * 2 ^ (64 - 8 * k) % 18446744073709551616 / 2 ^ (64 - 8 * k) : Nat) : Int) = ((v % 256 ^ k : Nat) : Int) := by rw [hss]
              rw [Int.natCast_ediv, Int.natCast_emod, Int.natCast_mul, Int.natCast_pow, Int.natCast_emod, Int.natCast_pow] at h2
              exact h2.symm
            have HE := Lib.hid he
            have HN' := Lib.hid hn'
            have HB' := Lib.hid hB'
            have HLb := Lib.hid hlb
            clear he hn' hB' hlb hs hle hk hss
            go_wp2_with (fail)
            refine (HB.out.1.store (o : Int) k v hv).mono ?_
            rw [HE.out]
            rintro e w3 ⟨rfl, h3, hm3⟩
            have hB3 : Behind W w3 (W.heap.size + 1) W.heap.size wo.heap.size M' M.B := ⟨h3, HN'.out.trans HB.out.2.1, hm3.row HB.out.2.2.1 (by have := HB.out.2.2.2; omega), HB.out.2.2.2⟩
            have HB3 := Lib.hid hB3
            clear hB3 h3 hm3
            go_wp2_with (fail)
            refine (HB3.out.1.load (o : Int) k).mono ?_
            rw [HLb.out]
            rintro e w4 ⟨rfl, rfl⟩
            go_wp2_with (fail)
            go_loopw [19] (fun i wr => ∃ q : Nat, q ≤ 4096 ∧ i = .int .i64 (q : Int) ∧ wr = w3) (fun i _ => 4096 - (intOf i).toNat)
            case atStart => exact ⟨0, Nat.zero_le _, rfl, rfl⟩
            case round =>
              obtain ⟨q, hq, rfl, rfl⟩ := hrel
              by_cases hqn : q < 4096
              · have cr := HB3.out.2.2.1.cell hqn
                have hl1 := load_one M' q (by have := HB3.out.2.1; omega)
                have HL1 := Lib.hid hl1
                clear hl1 hsh
                obtain ⟨x, hx⟩ : ∃ x, x = M'.B q := ⟨_, rfl⟩
                have HX := Lib.hid hx
                clear hx
                by_cases hin : o ≤ q ∧ q < o + k
                · obtain ⟨i1, i2⟩ := hin
                  have hbt : (((x : Int) != ((v : Int) / 2 ^ (8 * (q - o))).tmod 256) : Bool) = false := by
                    rw [HX.out, HB'.out]
                    unfold lay
                    rw [if_pos ⟨i1, i2⟩, byte_cast, Int.tmod_eq_emod_of_nonneg (Int.ediv_nonneg (by omega) (Int.le_of_lt (Int.pow_pos (by decide))))]
                    simp
                  go_wp2_with (fail)
                  refine (HB3.out.1.load (q : Int) 1).mono ?_
                  rw [HL1.out, ← HX.out]
                  rintro e w4 ⟨rfl, rfl⟩
                  go_wp2_with (fail)
                  go_roundw
                  case rel => exact ⟨q + 1, by omega, by go_num, trivial⟩
                  case measure => simp [intOf]; omega
                · have hxe : x = M.B q := by
                    rw [HX.out, HB'.out]
                    unfold lay
                    rw [if_neg hin]
                  have hxl : x < 256 := by rw [HX.out]; exact HB3.out.1.ram.2.2.2.1 q
                  rw [← hxe] at cr
                  have hxm : (x : Int) % 256 = (x : Int) := by omega
                  have hio : ¬ ((o : Int) ≤ (q : Int)) ∨ ¬ ((q : Int) < (o : Int) + (k : Int)) := by omega
                  clear hxe hin
                  go_wp2_with (fail)
                  refine (HB3.out.1.load (q : Int) 1).mono ?_
                  rw [HL1.out, ← HX.out]
                  rintro e w4 ⟨rfl, rfl⟩
                  go_wp2_with (fail)
                  all_goals
                    go_roundw
                    case rel => exact ⟨q + 1, by omega, by go_num, trivial⟩
                    case measure => simp [intOf]; omega
              · obtain rfl : q = 4096 := by omega
                go_wp2_with (fail)
                refine (known_any _).mono ?_
                rintro e w7 ⟨rfl, hb7⟩
                have hb := HB3.out.1.below.trans (hb7.mono HB3.out.1.below.size)
                go_wp2
                go_ret
                exact ⟨rfl, hb⟩
          · rw [decide_eq_false hfine]
            obtain ⟨he, hlb⟩ := store_not M o size v (by rw [HM.out]; exact hfine)
            have HE := Lib.hid he
            have HLb := Lib.hid hlb
            clear he hlb hfine
            go_wp2_with (fail)
            refine (HB.out.1.store (o : Int) size v hv).mono ?_
            rw [HE.out]
            rintro e w3 ⟨rfl, h3, hm3⟩
            have hB3 : Behind W w3 (W.heap.size + 1) W.heap.size wo.heap.size M M.B := ⟨h3, HB.out.2.1, hm3.row HB.out.2.2.1 (by have := HB.out.2.2.2; omega), HB.out.2.2.2⟩
            have HB3 := Lib.hid hB3
            clear hB3 h3 hm3
            go_wp2_with (fail)
            refine (HB3.out.1.load (o : Int) size).mono ?_
            rw [HLb.out]
            rintro e w4 ⟨rfl, rfl⟩
            go_wp2_with (fail)
            go_loopw [19] (fun i wr => ∃ q : Nat, q ≤ 4096 ∧ i = .int .i64 (q : Int) ∧ wr = w3) (fun i _ => 4096 - (intOf i).toNat)
            case atStart => exact ⟨0, Nat.zero_le _, rfl, rfl⟩
            case round =>
              obtain ⟨q, hq, rfl, rfl⟩ := hrel
              by_cases hqn : q < 4096
              · have cr := HB3.out.2.2.1.cell hqn
                have hl1 := load_one M q (by have := HB3.out.2.1; omega)
                have HL1 := Lib.hid hl1
                clear hl1
                have hxl := HB3.out.1.ram.2.2.2.1 q
                obtain ⟨x, hx⟩ : ∃ x, x = M.B q := ⟨_, rfl⟩
                rw [← hx] at cr hxl
                have HX := Lib.hid hx
                clear hx
                have hxm : (x : Int) % 256 = (x : Int) := by omega
                go_wp2_with (fail)
                refine (HB3.out.1.load (q : Int) 1).mono ?_
                rw [HL1.out, ← HX.out]
                rintro e w4 ⟨rfl, rfl⟩
                go_wp2_with (fail)
                go_roundw
                case rel => exact ⟨q + 1, by omega, by go_num, trivial⟩
                case measure => simp [intOf]; omega
              · obtain rfl : q = 4096 := by omega
                go_wp2_with (fail)
                refine (known_any _).mono ?_
                rintro e w7 ⟨rfl, hb7⟩
                have hb := HB3.out.1.below.trans (hb7.mono HB3.out.1.below.size)
                go_wp2
                go_ret
                exact ⟨rfl, hb⟩

theorem back_walk {H : Type} {enc : TypeId × Value → H} (W : World) {r0 r1 r2 r3 : Reach} {b0 b1 b2 b3 : Nat} (v0 : Value) {d0 d1 d2 d3 : DataW H} {p0 p1 p2 p3 : List MemPlace}
    (ok0 : Value.okWide Try.prog W r0 b0 41 v0) (h0 : DataW.Trod enc Try.prog W 0 (fun _ => true) true 41 v0 d0 p0)
    (v1 : Value) (ok1 : Value.okWide Try.prog W r1 b1 3 v1) (h1 : DataW.Trod enc Try.prog W 0 (fun _ => true) true 3 v1 d1 p1)
    (v2 : Value) (ok2 : Value.okWide Try.prog W r2 b2 3 v2) (h2 : DataW.Trod enc Try.prog W 0 (fun _ => true) true 3 v2 d2 p2)
    (v3 : Value) (ok3 : Value.okWide Try.prog W r3 b3 28 v3) (h3 : DataW.Trod enc Try.prog W 0 (fun _ => true) true 28 v3 d3 p3) :
    Calls Try.prog 4 #[v0, v1, v2, v3] W (fun e w' => e = .returned (.bool true) ∧ Below W.heap.size W w') := by
  obtain ⟨n, f, hI, hf⟩ := read_ints Try.underlying41 Try.underlying28 (by kernel_rfl) ok0 h0
  obtain ⟨off, rfl, _⟩ := read_arg Try.underlying3 ok1 h1
  obtain ⟨size, rfl, _⟩ := read_arg Try.underlying3 ok2 h2
  obtain ⟨v, rfl, hv⟩ := read_arg Try.underlying28 ok3 h3
  have hv := wf_u64 hv
  obtain ⟨x, rfl⟩ : ∃ x : Nat, v = (x : Int) := ⟨v.toNat, by omega⟩
  exact back_any v0 n f off size x W (by omega) hI fun i hi => wf_u64 (hf i hi)

end Go.Proofs.Ythpjedbkdepglaa
