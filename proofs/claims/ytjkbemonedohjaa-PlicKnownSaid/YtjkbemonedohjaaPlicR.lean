/- The reference's interrupt controller over the same abstract state: Lines, best, claim. Condition: such a controller lies there. -/
import Derived.Test.YtjkbemonedohjaaPlicF
import Derived.BigRegion
import Derived.Test.YtjkbemonedohjaaLook
namespace Go.Proofs.Ytjkbemonedohjaa
open Go.RowKit
attribute [local go_sem ↓] Go.wp_at_zero Go.wp_at_succ

theorem cells_rplic : Try.prog.cellsOf 59 = 162 := by kernel_rfl

/-- The cells of the reference's controller. -/
def rpc (S : Pli) (i : Nat) : Value :=
  if i < 160 then
    if i % 5 = 0 then .int .i64 ((S.pri (i / 5) : Nat) : Int) else if i % 5 = 1 then .bool (S.pend (i / 5)) else if i % 5 = 2 then .bool (S.serv (i / 5)) else if i % 5 = 3 then .bool (S.en 0 (i / 5)) else .bool (S.en 1 (i / 5))
  else .int .i64 ((S.thr (i - 160) : Nat) : Int)

theorem rpc_congr (S S' : Pli) (h : ∀ s, s < 32 → S.pri s = S'.pri s ∧ S.pend s = S'.pend s ∧ S.serv s = S'.serv s ∧ S.en 0 s = S'.en 0 s ∧ S.en 1 s = S'.en 1 s) (ht : ∀ c, c < 2 → S.thr c = S'.thr c) (i : Nat) (hi : i < 162) : rpc S i = rpc S' i := by
  unfold rpc
  by_cases h1 : i < 160
  · obtain ⟨a, b, c, d, e⟩ := h (i / 5) (by omega)
    rw [if_pos h1, if_pos h1, a, b, c, d, e]
  · rw [if_neg h1, if_neg h1, ht (i - 160) (by omega)]

section
variable (S : Pli) (s : Nat) (hs : s < 32)
include hs
theorem rpc_pri : rpc S (s * 5) = .int .i64 ((S.pri s : Nat) : Int) := by
  unfold rpc
  rw [if_pos (by omega), if_pos (by omega), show s * 5 / 5 = s from by omega]
theorem rpc_pend : rpc S (s * 5 + 1) = .bool (S.pend s) := by
  unfold rpc
  rw [if_pos (by omega), if_neg (by omega), if_pos (by omega), show (s * 5 + 1) / 5 = s from by omega]
theorem rpc_serv : rpc S (s * 5 + 2) = .bool (S.serv s) := by
  unfold rpc
  rw [if_pos (by omega), if_neg (by omega), if_neg (by omega), if_pos (by omega), show (s * 5 + 2) / 5 = s from by omega]
theorem rpc_en0 : rpc S (s * 5 + 3) = .bool (S.en 0 s) := by
  unfold rpc
  rw [if_pos (by omega), if_neg (by omega), if_neg (by omega), if_neg (by omega), if_pos (by omega), show (s * 5 + 3) / 5 = s from by omega]
theorem rpc_en1 : rpc S (s * 5 + 4) = .bool (S.en 1 s) := by
  unfold rpc
  rw [if_pos (by omega), if_neg (by omega), if_neg (by omega), if_neg (by omega), if_neg (by omega), show (s * 5 + 4) / 5 = s from by omega]
theorem rpc_en (c : Nat) (hc : c < 2) : rpc S (s * 5 + 3 + c) = .bool (S.en c s) := by
  rcases c with _ | _ | c
  · exact rpc_en0 S s hs
  · exact rpc_en1 S s hs
  · omega
end
theorem rpc_thr (S : Pli) (c : Nat) : rpc S (160 + c) = .int .i64 ((S.thr c : Nat) : Int) := by
  unfold rpc
  rw [if_neg (by omega), show 160 + c - 160 = c from by omega]

theorem rpc_setPend (S : Pli) (s : Nat) (b : Bool) (hs : s < 32) (i : Nat) (hi : i < 162) : (if i = s * 5 + 1 then .bool b else rpc S i) = rpc { S with pend := fun k => if k = s then b else S.pend k } i := by
  by_cases h : i = s * 5 + 1
  · rw [if_pos h]; subst h; rw [rpc_pend _ _ hs]; simp
  · rw [if_neg h]
    unfold rpc
    by_cases h1 : i < 160
    · rw [if_pos h1, if_pos h1]
      by_cases h2 : i % 5 = 1
      · have h3 : ¬ i / 5 = s := by omega
        simp [h2, h3]
      · simp [h2]
    · rw [if_neg h1, if_neg h1]
theorem rpc_setServ (S : Pli) (s : Nat) (b : Bool) (hs : s < 32) (i : Nat) (hi : i < 162) : (if i = s * 5 + 2 then .bool b else rpc S i) = rpc { S with serv := fun k => if k = s then b else S.serv k } i := by
  by_cases h : i = s * 5 + 2
  · rw [if_pos h]; subst h; rw [rpc_serv _ _ hs]; simp
  · rw [if_neg h]
    unfold rpc
    by_cases h1 : i < 160
    · rw [if_pos h1, if_pos h1]
      by_cases h2 : i % 5 = 2
      · have h3 : ¬ i / 5 = s := by omega
        simp [h2, h3]
      · simp [h2]
    · rw [if_neg h1, if_neg h1]
theorem rpc_setPri (S : Pli) (s : Nat) (b : Nat) (hs : s < 32) (i : Nat) (hi : i < 162) : (if i = s * 5 then .int .i64 ((b : Nat) : Int) else rpc S i) = rpc { S with pri := fun k => if k = s then b else S.pri k } i := by
  by_cases h : i = s * 5
  · rw [if_pos h]; subst h; rw [rpc_pri _ _ hs]; simp
  · rw [if_neg h]
    unfold rpc
    by_cases h1 : i < 160
    · rw [if_pos h1, if_pos h1]
      by_cases h2 : i % 5 = 0
      · have h3 : ¬ i / 5 = s := by omega
        simp [h2, h3]
      · simp [h2]
    · rw [if_neg h1, if_neg h1]
theorem rpc_setEn (S : Pli) (c s : Nat) (b : Bool) (hs : s < 32) (hc : c < 2) (i : Nat) (hi : i < 162) : (if i = s * 5 + 3 + c then .bool b else rpc S i) = rpc { S with en := fun d k => if d = c ∧ k = s then b else S.en d k } i := by
  by_cases h : i = s * 5 + 3 + c
  · rw [if_pos h]; subst h; rw [rpc_en _ _ hs _ hc]; simp
  · rw [if_neg h]
    unfold rpc
    by_cases h1 : i < 160
    · rw [if_pos h1, if_pos h1]
      by_cases h3 : i / 5 = s
      · by_cases h2 : i % 5 = 3
        · have h4 : ¬ 0 = c := by omega
          simp [h2, h4]
        · by_cases h5 : i % 5 = 4
          · have h4 : ¬ 1 = c := by omega
            simp [h5, h4]
          · have h6 : i % 5 = 0 ∨ i % 5 = 1 ∨ i % 5 = 2 := by omega
            rcases h6 with h6 | h6 | h6 <;> simp [h6]
      · simp [h3]
    · rw [if_neg h1, if_neg h1]
theorem rpc_setThr (S : Pli) (c b : Nat) (i : Nat) (hi : i < 162) : (if i = 160 + c then .int .i64 ((b : Nat) : Int) else rpc S i) = rpc { S with thr := fun k => if k = c then b else S.thr k } i := by
  by_cases h : i = 160 + c
  · rw [if_pos h]; subst h; rw [rpc_thr]; simp
  · rw [if_neg h]
    unfold rpc
    by_cases h1 : i < 160
    · rw [if_pos h1, if_pos h1]
    · rw [if_neg h1, if_neg h1]
      have h3 : ¬ i - 160 = c := by omega
      simp [h3]

def RPlicAt (w : World) (x : Nat) (S : Pli) : Prop := S.Ok ∧ w.rowIs x 59 162 (rpc S)
theorem RPlicAt.keep {w w' : World} {p : Nat} {S : Pli} {F : Nat → Prop} (h : RPlicAt w p S) (hm : Mod F w w') (h1 : ¬ F p) : RPlicAt w' p S := ⟨h.1, hm.row h.2 h1⟩
theorem RPlicAt.lt {w : World} {p : Nat} {S : Pli} (h : RPlicAt w p S) : p < w.heap.size := h.2.lt

/-- What is pending behind q sources. -/
def pendTo (S : Pli) (m q : Nat) : Nat → Bool := fun k => if 1 ≤ k ∧ k ≤ q then m.testBit k && !S.serv k else S.pend k

theorem mod_test (m s : Nat) : (((m : Int) / 2 ^ s % 2 == 1) : Bool) = m.testBit s := by
  have e : ((m : Int) / 2 ^ s) = ((m / 2 ^ s : Nat) : Int) := by rw [Int.natCast_ediv, Int.natCast_pow]; rfl
  rw [e, Nat.testBit_eq_decide_div_mod_eq]
  by_cases h : m / 2 ^ s % 2 = 1
  · rw [decide_eq_true h, beq_iff_eq]; omega
  · rw [decide_eq_false h, beq_eq_false_iff_ne]; omega

theorem tmod_test (m s : Nat) : ((((m : Int) / 2 ^ s).tmod 2 == 1) : Bool) = m.testBit s := by
  rw [Int.tmod_eq_emod_of_nonneg (Int.ediv_nonneg (Int.natCast_nonneg _) (Int.le_of_lt (Int.pow_pos (by decide))))]
  exact mod_test m s

set_option maxHeartbeats 1000000 in
theorem rlines_at (x : Nat) (S : Pli) (m : Nat) (w : World) (_hm : m < 4294967296) (h : RPlicAt w x S) :
    Calls Try.prog 9 #[.pointer (some ⟨x, 0, none⟩), .int .u32 (m : Int)] w (Ends (.tuple #[]) fun w' => RPlicAt w' x (S.lines m) ∧ Mod (fun g => g = x) w w') := by
  have H := Lib.hid h
  clear h
  go_enter Try.func9, Try.ntmps9
  go_wp2
  go_loopw [4] (fun i wr => ∃ q : Nat, q ≤ 31 ∧ i = .int .i64 ((q : Int) + 1) ∧ wr.rowIs x 59 162 (rpc { S with pend := pendTo S m q }) ∧ Mod (fun g => g = x) w wr) (fun i _ => 32 - (intOf i).toNat)
  case atStart =>
    refine ⟨0, by omega, rfl, H.out.2.congr fun i hi => rpc_congr S { S with pend := pendTo S m 0 } (fun s _ => ⟨rfl, ?_, rfl, rfl, rfl⟩) (fun _ _ => rfl) i hi, Mod.refl _ _⟩
    exact (if_neg (by omega)).symm
  case round =>
    obtain ⟨q, hq, rfl, hr, hm⟩ := hrel
    by_cases hqk : q < 31
    · have ht := tmod_test m (q + 1)
      have cs := hr.cell (i := (q + 1) * 5 + 2) (by omega)
      rw [rpc_serv _ _ (by omega)] at cs
      have cp := hr.cell (i := (q + 1) * 5 + 1) (by omega)
      have fp := hr.frozen ((q + 1) * 5 + 1)
      have q1 : (q : Int) + 1 < 32 := by omega
      have HR := Lib.hid hr
      have HM := Lib.hid hm
      clear hr hm
      dsimp only at cs
      have hnew : ∀ k, k < 32 → (if k = q + 1 then m.testBit (q + 1) && !S.serv (q + 1) else pendTo S m q k) = pendTo S m (q + 1) k := by
        intro k _
        unfold pendTo
        by_cases e : k = q + 1
        · subst e; rw [if_pos rfl, if_pos (by omega)]
        · rw [if_neg e]
          by_cases e2 : 1 ≤ k ∧ k ≤ q
          · rw [if_pos e2, if_pos (by omega)]
          · rw [if_neg e2, if_neg (by omega)]
      have HN := Lib.hid hnew
      clear hnew
      generalize m.testBit (q + 1) = tb at *
      generalize S.serv (q + 1) = sb at *
      rcases tb with _ | _
      · go_wp2_with (fail)
        go_big_region
        go_wp2
        go_roundw
        case rel =>
          refine ⟨q + 1, by omega, by go_num, ((HR.out.set _ _).congr fun i hi => ?_), (HM.out.setCell (.inl rfl) _).drew⟩
          refine (rpc_setPend { S with pend := pendTo S m q } (q + 1) false (by omega) i hi).trans (rpc_congr { S with pend := fun k => if k = q + 1 then false else pendTo S m q k } { S with pend := pendTo S m (q + 1) } (fun s hs => ⟨rfl, HN.out s hs, rfl, rfl, rfl⟩) (fun _ _ => rfl) i hi)
        case measure => simp [intOf]; omega
      · go_wp2_with (fail)
        go_big_region
        go_wp2
        go_roundw
        case rel =>
          refine ⟨q + 1, by omega, by go_num, ((HR.out.set _ _).congr fun i hi => ?_), (HM.out.setCell (.inl rfl) _).drew⟩
          refine (rpc_setPend { S with pend := pendTo S m q } (q + 1) (!sb) (by omega) i hi).trans (rpc_congr { S with pend := fun k => if k = q + 1 then (!sb) else pendTo S m q k } { S with pend := pendTo S m (q + 1) } (fun s hs => ⟨rfl, HN.out s hs, rfl, rfl, rfl⟩) (fun _ _ => rfl) i hi)
        case measure => simp [intOf]; omega
    · obtain rfl : q = 31 := by omega
      have HR := Lib.hid hr
      have HM := Lib.hid hm
      clear hr hm
      go_wp2
      go_end0
      refine ⟨rfl, ⟨H.out.1.lines m, HR.out.congr fun i hi => rpc_congr { S with pend := pendTo S m 31 } (S.lines m) (fun s hs => ⟨rfl, ?_, rfl, rfl, rfl⟩) (fun _ _ => rfl) i hi⟩, HM.out⟩
      show pendTo S m 31 s = (m.testBit s && !(s == 0 || S.serv s))
      unfold pendTo
      by_cases e : s = 0
      · subst e; rw [if_neg (by omega), H.out.1.pend]; simp
      · rw [if_pos (by omega), beq_eq_false_iff_ne.2 e, Bool.false_or]

/-- A source, copied. -/
theorem src_en (w : World) (a : Int) (p q : Bool) (en : Nat → Bool) (c : Nat) (hc : c < 2) (t : TypeId) : (w.alloc (.cells #[.int .i64 a, .bool p, .bool q, .bool (en 0), .bool (en 1)] t)).cell? ⟨w.heap.size, 3 + c, none⟩ = some (.bool (en c)) := by
  rcases c with _ | _ | c
  · simp
  · simp
  · omega
theorem src_born (w : World) (a : Int) (p q e0 e1 : Bool) (t : TypeId) : (w.alloc (.cells #[.int .i64 a, .bool p, .bool q, .bool e0, .bool e1] t)).cell? ⟨w.heap.size, 0, none⟩ = some (.int .i64 a) ∧ (w.alloc (.cells #[.int .i64 a, .bool p, .bool q, .bool e0, .bool e1] t)).cell? ⟨w.heap.size, 1, none⟩ = some (.bool p) := by
  constructor <;> simp

theorem down_le (p : Nat → Bool) (pri : Nat → Nat) (k : Nat) : down p pri k ≤ 31 := by
  induction k with
  | zero => simp [down]
  | succ k ih => simp only [down]; split <;> omega

set_option maxHeartbeats 4000000 in
theorem rbest_at (x : Nat) (S : Pli) (c : Nat) (w : World) (hc : c < 2) (h : RPlicAt w x S) :
    Calls Try.prog 34 #[.pointer (some ⟨x, 0, none⟩), .int .i64 (c : Int)] w (Ends (.int .i64 ((S.best c : Nat) : Int)) fun w' => Mod Nil w w') := by
  have hbd : down (S.may c) S.pri 31 = S.best c := best_down _ _ h.1.pri0
  have HBD := Lib.hid hbd
  have H := Lib.hid h
  clear h hbd
  go_enter Try.func34, Try.ntmps34
  go_wp2
  go_loopw [5, 6] (fun b i wr => ∃ q : Nat, q ≤ 31 ∧ i = .int .i64 (31 - (q : Int)) ∧ b = .int .i64 ((down (S.may c) S.pri q : Nat) : Int) ∧ Mod Nil w wr) (fun _ i _ => (intOf i).toNat)
  case atStart => exact ⟨0, by omega, rfl, rfl, Mod.refl _ _⟩
  case round =>
    obtain ⟨q, hq, rfl, rfl, hm⟩ := hrel
    by_cases hqk : q < 31
    · obtain ⟨s, hs⟩ : ∃ s, 31 - q = s := ⟨_, rfl⟩
      have e : (31 : Int) - (q : Int) = (s : Int) := by omega
      rw [e]
      have hr := hm.row H.out.2 (fun x => x)
      have c0 := hr.cell (i := s * 5) (by omega)
      have c1 := hr.cell (i := s * 5 + 1) (by omega)
      have c2 := hr.cell (i := s * 5 + 2) (by omega)
      have c3 := hr.cell (i := s * 5 + 3) (by omega)
      have c4 := hr.cell (i := s * 5 + 4) (by omega)
      rw [rpc_pri _ _ (by omega)] at c0
      rw [rpc_pend _ _ (by omega)] at c1
      rw [rpc_serv _ _ (by omega)] at c2
      rw [rpc_en0 _ _ (by omega)] at c3
      rw [rpc_en1 _ _ (by omega)] at c4
      have HM := Lib.hid hm
      have E := Lib.hid e
      have s1 : (s : Int) < 32 := by omega
      have s2 : (1 : Int) ≤ (s : Int) := by omega
      have hsrc := src_born wr ((S.pri s : Nat) : Int) (S.pend s) (S.serv s) (S.en 0 s) (S.en 1 s) 55
      have hen := src_en wr ((S.pri s : Nat) : Int) (S.pend s) (S.serv s) (fun d => S.en d s) c hc 55
      have hbl := down_le (S.may c) S.pri q
      have cb := (hr.alloc (.cells #[.int .i64 ((S.pri s : Nat) : Int), .bool (S.pend s), .bool (S.serv s), .bool (S.en 0 s), .bool (S.en 1 s)] 55)).cell (i := down (S.may c) S.pri q * 5) (by omega)
      rw [rpc_pri _ _ (by omega)] at cb
      obtain ⟨g0, g1⟩ := hsrc
      have hdn : down (S.may c) S.pri (q + 1) = if (S.pend s && S.en c s) && decide (0 < S.pri s) && decide (S.pri (down (S.may c) S.pri q) ≤ S.pri s) then s else down (S.may c) S.pri q := by
        rw [← hs]; rfl
      have HD := Lib.hid hdn
      have HS := Lib.hid hs
      have b1 : ((down (S.may c) S.pri q : Nat) : Int) < 32 := by omega
      clear hdn hs hr hm e hbl
      generalize down (S.may c) S.pri q = b at *
      generalize hP : S.pend s = P at *
      generalize S.pri s = z at *
      generalize S.pri b = y at *
      generalize hE : S.en c s = E1 at *
      clear hP hE
      rcases P with _ | _
      · simp only [Bool.false_and, Bool.false_eq_true, if_false] at HD
        go_wp2_with (fail)
        go_quiet (fail)
        go_wp2
        go_roundw
        case rel => exact ⟨q + 1, by omega, by have := HS.out; have := E.out; go_num, by rw [HD.out], (HM.out.alloc _).drewN _⟩
        case measure => have := E.out; simp [intOf]; omega
      · rcases E1 with _ | _
        · simp only [Bool.and_false, Bool.false_and, Bool.false_eq_true, if_false] at HD
          go_wp2_with (fail)
          go_quiet (fail)
          go_wp2
          go_roundw
          case rel => exact ⟨q + 1, by omega, by have := HS.out; have := E.out; go_num, by rw [HD.out], (HM.out.alloc _).drewN _⟩
          case measure => have := E.out; simp [intOf]; omega
        · by_cases hz : 0 < z
          · have d0 : decide ((0 : Int) < ((z : Nat) : Int)) = true := by simpa using hz
            have d1 : decide (0 < z) = true := by simpa using hz
            rw [d1] at HD
            by_cases hy : y ≤ z
            · have d2 : decide (y ≤ z) = true := by simpa using hy
              rw [d2] at HD
              simp only [Bool.and_self, if_true] at HD
              go_wp2_with (fail)
              go_quiet (fail)
              go_wp2
              go_roundw
              case rel => exact ⟨q + 1, by omega, by have := HS.out; have := E.out; go_num, by rw [HD.out], (HM.out.alloc _).drewN _⟩
              case measure => have := E.out; simp [intOf]; omega
            · have d2 : decide (y ≤ z) = false := by simpa using hy
              rw [d2] at HD
              simp only [Bool.and_false, Bool.false_eq_true, if_false] at HD
              go_wp2_with (fail)
              go_quiet (fail)
              go_wp2
              go_roundw
              case rel => exact ⟨q + 1, by omega, by have := HS.out; have := E.out; go_num, by rw [HD.out], (HM.out.alloc _).drewN _⟩
              case measure => have := E.out; simp [intOf]; omega
          · have d0 : decide ((0 : Int) < ((z : Nat) : Int)) = false := by simpa using hz
            have d1 : decide (0 < z) = false := by simpa using hz
            rw [d1] at HD
            simp only [Bool.and_false, Bool.false_and, Bool.false_eq_true, if_false] at HD
            go_wp2_with (fail)
            go_quiet (fail)
            go_wp2
            go_roundw
            case rel => exact ⟨q + 1, by omega, by have := HS.out; have := E.out; go_num, by rw [HD.out], (HM.out.alloc _).drewN _⟩
            case measure => have := E.out; simp [intOf]; omega
    · obtain rfl : q = 31 := by omega
      have HM := Lib.hid hm
      clear hm
      go_wp2
      go_ret
      exact ⟨ret_of (by rw [HBD.out]), HM.out⟩

end Go.Proofs.Ytjkbemonedohjaa
