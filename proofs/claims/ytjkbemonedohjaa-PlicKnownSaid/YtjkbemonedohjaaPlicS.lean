/- The reference's interrupt controller: claim, bits, enable, complete. Condition: such a controller lies there. -/
import Derived.Test.YtjkbemonedohjaaPlicR
import Derived.Test.YtjkbemonedohjaaLook
namespace Go.Proofs.Ytjkbemonedohjaa
open Go.RowKit
attribute [local go_sem ↓] Go.wp_at_zero Go.wp_at_succ

set_option maxHeartbeats 1000000 in
theorem rclaim_at (x : Nat) (S : Pli) (c : Nat) (w : World) (hc : c < 2) (h : RPlicAt w x S) :
    Calls Try.prog 25 #[.pointer (some ⟨x, 0, none⟩), .int .i64 (c : Int)] w (Ends (.int .u64 (((S.claim c).1 : Nat) : Int)) fun w' => RPlicAt w' x (S.claim c).2 ∧ Mod (fun g => g = x) w w') := by
  have hB := rbest_at x S c w hc h
  have hbl : S.best c ≤ 31 := best_lt _ _ _
  have HB := Lib.hid hB
  have H := Lib.hid h
  have HO := Lib.hid (h.1.claim c)
  have hcl : S.claim c = (S.best c, if 0 < S.best c then { S with pend := fun s => S.pend s && s != S.best c, serv := fun s => S.serv s || s == S.best c } else S) := rfl
  rw [hcl] at HO ⊢
  clear hcl hB h
  by_cases hb0 : 0 < S.best c
  · rw [if_pos hb0] at HO ⊢
    generalize S.best c = b at *
    go_enter Try.func25, Try.ntmps25
    go_wp2_with (fail)
    refine HB.out.mono ?_
    rintro e w1 ⟨rfl, hm1⟩
    have hr := hm1.row H.out.2 (fun x => x)
    have b1 : (b : Int) < 32 := by omega
    have c1 := hr.cell (i := b * 5 + 1) (by omega)
    have f1 := hr.frozen (b * 5 + 1)
    have hr2 := (hr.set (b * 5 + 1) (.bool false)).congr fun i hi => rpc_setPend S b false (by omega) i hi
    have c2 := hr2.cell (i := b * 5 + 2) (by omega)
    have f2 := hr2.frozen (b * 5 + 2)
    have hr3 := (hr2.set (b * 5 + 2) (.bool true)).congr fun i hi => rpc_setServ _ b true (by omega) i hi
    have HM1 := Lib.hid hm1
    have HR3 := Lib.hid hr3
    clear hm1 hr hr2 hr3
    go_wp2
    go_ret
    refine ⟨rfl, ⟨HO.out, HR3.out.congr fun i hi => rpc_congr { S with pend := fun k => if k = b then false else S.pend k, serv := fun k => if k = b then true else S.serv k } { S with pend := fun s => S.pend s && s != b, serv := fun s => S.serv s || s == b } (fun s _ => ⟨rfl, ?_, ?_, rfl, rfl⟩) (fun _ _ => rfl) i hi⟩, ((HM1.out.of_nil (fun g => g = x)).trans' (mod_set _ _ _ _)).trans' (mod_set _ _ _ _)⟩
    · dsimp only
      by_cases e : s = b
      · rw [if_pos e]; simp [e]
      · rw [if_neg e]; simp [e]
    · dsimp only
      by_cases e : s = b
      · rw [if_pos e]; simp [e]
      · rw [if_neg e]; simp [e]
  · rw [if_neg hb0] at HO ⊢
    generalize S.best c = b at *
    go_enter Try.func25, Try.ntmps25
    go_wp2_with (fail)
    refine HB.out.mono ?_
    rintro e w1 ⟨rfl, hm1⟩
    have HM1 := Lib.hid hm1
    clear hm1
    go_wp2
    go_ret
    exact ⟨rfl, H.out.keep HM1.out (fun x => x), HM1.out.of_nil _⟩

theorem wordOf_down (f : Nat → Bool) (q : Nat) (hq : q ≤ 31) : wordOf (fun k => f (31 - q + k)) (q + 1) = (if f (31 - q) then 1 else 0) + 2 * wordOf (fun k => f (32 - q + k)) q := by
  show (if f (31 - q + 0) then 1 else 0) + 2 * wordOf (fun k => f (31 - q + (k + 1))) q = _
  rw [Nat.add_zero, wordOf_congr q (fun k => f (31 - q + (k + 1))) (fun k => f (32 - q + k)) fun k _ => by rw [show 31 - q + (k + 1) = 32 - q + k from by omega]]

theorem rbits_pend (x : Nat) (S : Pli) (w : World) (h : w.rowIs x 59 162 (rpc S)) :
    Calls Try.prog 24 #[.pointer (some ⟨x, 0, none⟩), .int .i64 (-1)] w (Ends (.int .u64 ((wordOf S.pend 32 : Nat) : Int)) fun w' => w = w') := by
  have H := Lib.hid h
  clear h
  go_enter Try.func24, Try.ntmps24
  go_wp2
  go_loop [5, 6] (fun v i => ∃ q : Nat, q ≤ 32 ∧ i = .int .i64 (31 - (q : Int)) ∧ v = .int .u64 ((wordOf (fun k => S.pend (32 - q + k)) q : Nat) : Int)) (fun _ i => (intOf i + 1).toNat)
  case atStart => exact ⟨0, by omega, rfl, rfl⟩
  case round =>
    obtain ⟨q, hq, rfl, rfl⟩ := hrel
    by_cases hqk : q < 32
    · obtain ⟨s, hs⟩ : ∃ s, 31 - q = s := ⟨_, rfl⟩
      have e : (31 : Int) - (q : Int) = (s : Int) := by omega
      rw [e]
      have c1 := H.out.cell (i := s * 5 + 1) (by omega)
      rw [rpc_pend _ _ (by omega)] at c1
      have hw := wordOf_down S.pend q (by omega)
      have hl : wordOf (fun k => S.pend (32 - q + k)) q < 2 ^ 31 := Nat.lt_of_lt_of_le (wordOf_lt _ _) (Nat.pow_le_pow_right (by decide) (by omega))
      have hl : wordOf (fun k => S.pend (32 - q + k)) q < 2147483648 := hl
      rw [hs] at hw
      have HS := Lib.hid hs
      generalize wordOf (fun k => S.pend (32 - q + k)) q = V at *
      have HW := Lib.hid hw
      have E := Lib.hid e
      have s0 : (0 : Int) ≤ (s : Int) := by omega
      have s1 : (s : Int) < 32 := by omega
      clear hw e hs
      rcases hb : S.pend s with _ | _
      · rw [hb] at c1 HW
        go_wp2
        go_round
        case rel => exact ⟨q + 1, by omega, by have := E.out; go_num, congrArg (Value.int .u64) (by rw [show 32 - (q + 1) = s from by have := HS.out; omega, HW.out]; simp <;> omega)⟩
        case measure => simp [intOf]
      · rw [hb] at c1 HW
        go_wp2
        go_round
        case rel => exact ⟨q + 1, by omega, by have := E.out; go_num, congrArg (Value.int .u64) (by rw [show 32 - (q + 1) = s from by have := HS.out; omega, HW.out]; simp <;> omega)⟩
        case measure => simp [intOf]
    · obtain rfl : q = 32 := by omega
      go_wp2
      go_ret
      exact ⟨ret_of (by simp), rfl⟩

theorem rbits_en (x : Nat) (S : Pli) (c : Nat) (hc : c < 2) (w : World) (h : w.rowIs x 59 162 (rpc S)) :
    Calls Try.prog 24 #[.pointer (some ⟨x, 0, none⟩), .int .i64 (c : Int)] w (Ends (.int .u64 ((wordOf (S.en c) 32 : Nat) : Int)) fun w' => w = w') := by
  have H := Lib.hid h
  clear h
  have c0 : (0 : Int) ≤ (c : Int) := by omega
  have c2 : (c : Int) < 2 := by omega
  go_enter Try.func24, Try.ntmps24
  go_wp2
  go_loop [5, 6] (fun v i => ∃ q : Nat, q ≤ 32 ∧ i = .int .i64 (31 - (q : Int)) ∧ v = .int .u64 ((wordOf (fun k => S.en c (32 - q + k)) q : Nat) : Int)) (fun _ i => (intOf i + 1).toNat)
  case atStart => exact ⟨0, by omega, rfl, rfl⟩
  case round =>
    obtain ⟨q, hq, rfl, rfl⟩ := hrel
    by_cases hqk : q < 32
    · obtain ⟨s, hs⟩ : ∃ s, 31 - q = s := ⟨_, rfl⟩
      have e : (31 : Int) - (q : Int) = (s : Int) := by omega
      rw [e]
      have c1 := H.out.cell (i := s * 5 + 3 + c) (by omega)
      rw [rpc_en _ _ (by omega) _ hc] at c1
      have hw := wordOf_down (S.en c) q (by omega)
      have hl : wordOf (fun k => S.en c (32 - q + k)) q < 2 ^ 31 := Nat.lt_of_lt_of_le (wordOf_lt _ _) (Nat.pow_le_pow_right (by decide) (by omega))
      have hl : wordOf (fun k => S.en c (32 - q + k)) q < 2147483648 := hl
      rw [hs] at hw
      have HS := Lib.hid hs
      generalize wordOf (fun k => S.en c (32 - q + k)) q = V at *
      have HW := Lib.hid hw
      have E := Lib.hid e
      have s0 : (0 : Int) ≤ (s : Int) := by omega
      have s1 : (s : Int) < 32 := by omega
      clear hw e hs
      rcases hb : S.en c s with _ | _
      · rw [hb] at c1 HW
        go_wp2
        go_round
        case rel => exact ⟨q + 1, by omega, by have := E.out; go_num, congrArg (Value.int .u64) (by rw [show 32 - (q + 1) = s from by have := HS.out; omega, HW.out]; simp <;> omega)⟩
        case measure => simp [intOf]
      · rw [hb] at c1 HW
        go_wp2
        go_round
        case rel => exact ⟨q + 1, by omega, by have := E.out; go_num, congrArg (Value.int .u64) (by rw [show 32 - (q + 1) = s from by have := HS.out; omega, HW.out]; simp <;> omega)⟩
        case measure => simp [intOf]
    · obtain rfl : q = 32 := by omega
      go_wp2
      go_ret
      exact ⟨ret_of (by simp), rfl⟩

/-- What is enabled behind q sources. -/
def enTo (S : Pli) (c v q : Nat) : Nat → Nat → Bool := fun d k => if d = c ∧ 1 ≤ k ∧ k ≤ q then v.testBit k else S.en d k

set_option maxHeartbeats 1000000 in
theorem renable_at (x : Nat) (S : Pli) (c v : Nat) (w : World) (hc : c < 2) (_hv : v < 18446744073709551616) (h : RPlicAt w x S) :
    Calls Try.prog 27 #[.pointer (some ⟨x, 0, none⟩), .int .i64 (c : Int), .int .u64 (v : Int)] w (Ends (.tuple #[]) fun w' => RPlicAt w' x (S.setEn c v) ∧ Mod (fun g => g = x) w w') := by
  have H := Lib.hid h
  have HO := Lib.hid (h.1)
  have c0 : (0 : Int) ≤ (c : Int) := by omega
  have c2 : (c : Int) < 2 := by omega
  clear h
  go_enter Try.func27, Try.ntmps27
  go_wp2
  go_loopw [6] (fun i wr => ∃ q : Nat, q ≤ 31 ∧ i = .int .i64 ((q : Int) + 1) ∧ wr.rowIs x 59 162 (rpc { S with en := enTo S c v q }) ∧ Mod (fun g => g = x) w wr) (fun i _ => 32 - (intOf i).toNat)
  case atStart =>
    refine ⟨0, by omega, rfl, H.out.2.congr fun i hi => rpc_congr S { S with en := enTo S c v 0 } (fun s _ => ⟨rfl, rfl, rfl, ?_, ?_⟩) (fun _ _ => rfl) i hi, Mod.refl _ _⟩
    · exact (if_neg (by omega)).symm
    · exact (if_neg (by omega)).symm
  case round =>
    obtain ⟨q, hq, rfl, hr, hm⟩ := hrel
    by_cases hqk : q < 31
    · have ht := tmod_test v (q + 1)
      have cp := hr.cell (i := (q + 1) * 5 + 3 + c) (by omega)
      have fp := hr.frozen ((q + 1) * 5 + 3 + c)
      have q1 : (q : Int) + 1 < 32 := by omega
      have HR := Lib.hid hr
      have HM := Lib.hid hm
      clear hr hm
      have hnew : ∀ d k, k < 32 → (if d = c ∧ k = q + 1 then v.testBit (q + 1) else enTo S c v q d k) = enTo S c v (q + 1) d k := by
        intro d k _
        unfold enTo
        by_cases e : d = c ∧ k = q + 1
        · obtain ⟨rfl, rfl⟩ := e; rw [if_pos ⟨rfl, rfl⟩, if_pos (by omega)]
        · rw [if_neg e]
          by_cases e2 : d = c ∧ 1 ≤ k ∧ k ≤ q
          · rw [if_pos e2, if_pos (by omega)]
          · rw [if_neg e2, if_neg (by omega)]
      have HN := Lib.hid hnew
      clear hnew
      generalize v.testBit (q + 1) = tb at *
      go_wp2
      go_roundw
      case rel =>
        refine ⟨q + 1, by omega, by go_num, (HR.out.set _ _).congr fun i hi => ?_, HM.out.trans' (mod_set _ _ _ _)⟩
        exact (rpc_setEn { S with en := enTo S c v q } c (q + 1) tb (by omega) hc i hi).trans (rpc_congr { S with en := fun d k => if d = c ∧ k = q + 1 then tb else enTo S c v q d k } { S with en := enTo S c v (q + 1) } (fun s hs => ⟨rfl, rfl, rfl, HN.out 0 s hs, HN.out 1 s hs⟩) (fun _ _ => rfl) i hi)
      case measure => simp [intOf]; omega
    · obtain rfl : q = 31 := by omega
      have HR := Lib.hid hr
      have HM := Lib.hid hm
      clear hr hm
      go_wp2
      go_end0
      have he : ∀ d s, s < 32 → enTo S c v 31 d s = (S.setEn c v).en d s := by
        intro d s hs
        unfold enTo Pli.setEn
        dsimp only
        by_cases e : d = c
        · subst e
          rw [if_pos rfl]
          by_cases e : s = 0
          · subst e; rw [if_neg (by omega), HO.out.en]; simp
          · rw [if_pos (by omega), decide_eq_true hs, bne_iff_ne.2 e, Bool.and_true, Bool.and_true]
        · rw [if_neg e, if_neg (by omega)]
      have hok : (S.setEn c v).Ok := ⟨HO.out.pri, HO.out.pri0, HO.out.thr, HO.out.pend, fun d => by
        unfold Pli.setEn
        dsimp only
        split
        · simp
        · exact HO.out.en d⟩
      exact ⟨rfl, ⟨hok, HR.out.congr fun i hi => rpc_congr { S with en := enTo S c v 31 } (S.setEn c v) (fun s hs => ⟨rfl, rfl, rfl, he 0 s hs, he 1 s hs⟩) (fun _ _ => rfl) i hi⟩, HM.out⟩

set_option maxHeartbeats 1000000 in
theorem rcomplete_at (x : Nat) (S : Pli) (c v : Nat) (w : World) (hc : c < 2) (_hv : v < 18446744073709551616) (h : RPlicAt w x S) :
    Calls Try.prog 28 #[.pointer (some ⟨x, 0, none⟩), .int .i64 (c : Int), .int .u64 (v : Int)] w (Ends (.tuple #[]) fun w' => RPlicAt w' x (S.complete c v) ∧ Mod (fun g => g = x) w w') := by
  have H := Lib.hid h
  have c0 : (0 : Int) ≤ (c : Int) := by omega
  have c2 : (c : Int) < 2 := by omega
  have hco : S.complete c v = if v % 4294967296 < 32 then { S with serv := fun s => S.serv s && !(s == v % 4294967296 && S.en c s) } else S := rfl
  rw [hco]
  have hs : ((v : Int) % 4294967296) = ((v % 4294967296 : Nat) : Int) := by omega
  have hs2 : ((v : Int).tmod 4294967296) = ((v % 4294967296 : Nat) : Int) := by rw [Int.tmod_eq_emod_of_nonneg (Int.natCast_nonneg _)]; exact hs
  have hsl : v % 4294967296 < 4294967296 := Nat.mod_lt _ (by decide)
  generalize v % 4294967296 = s at *
  clear hco
  by_cases h32 : s < 32
  · rw [if_pos h32]
    have s1 : (s : Int) < 32 := by omega
    have ce := h.2.cell (i := s * 5 + 3 + c) (by omega)
    rw [rpc_en _ _ h32 _ hc] at ce
    have cs := h.2.cell (i := s * 5 + 2) (by omega)
    have fs := h.2.frozen (s * 5 + 2)
    clear h
    rcases he : S.en c s with _ | _
    · rw [he] at ce
      have HE := Lib.hid he
      clear he
      go_enter Try.func28, Try.ntmps28
      go_wp2
      go_end0
      refine ⟨rfl, ⟨⟨H.out.1.pri, H.out.1.pri0, H.out.1.thr, H.out.1.pend, H.out.1.en⟩, H.out.2.congr fun i hi => rpc_congr S { S with serv := fun k => S.serv k && !(k == s && S.en c k) } (fun k _ => ⟨rfl, rfl, ?_, rfl, rfl⟩) (fun _ _ => rfl) i hi⟩, Mod.refl _ _⟩
      dsimp only
      by_cases e : k = s
      · rw [e, HE.out]; simp
      · simp [e]
    · rw [he] at ce
      have HE := Lib.hid he
      clear he
      go_enter Try.func28, Try.ntmps28
      go_wp2
      go_end0
      refine ⟨rfl, ⟨⟨H.out.1.pri, H.out.1.pri0, H.out.1.thr, H.out.1.pend, H.out.1.en⟩, ((H.out.2.set (s * 5 + 2) (.bool false)).congr fun i hi => rpc_setServ S s false h32 i hi).congr fun i hi => rpc_congr { S with serv := fun k => if k = s then false else S.serv k } { S with serv := fun k => S.serv k && !(k == s && S.en c k) } (fun k _ => ⟨rfl, rfl, ?_, rfl, rfl⟩) (fun _ _ => rfl) i hi⟩, mod_set _ _ _ _⟩
      dsimp only
      by_cases e : k = s
      · rw [if_pos e, e, HE.out]; simp
      · rw [if_neg e]; simp [e]
  · rw [if_neg h32]
    have s1 : ¬ (s : Int) < 32 := by omega
    clear h
    go_enter Try.func28, Try.ntmps28
    go_wp2
    go_end0
    exact ⟨rfl, H.out, Mod.refl _ _⟩

end Go.Proofs.Ytjkbemonedohjaa
