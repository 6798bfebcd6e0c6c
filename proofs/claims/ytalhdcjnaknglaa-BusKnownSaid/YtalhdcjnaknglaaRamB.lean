/- The program's memory: put and tag: what each leaves and answers. Conditions: the rows named lie there. -/
import Derived.Test.YtalhdcjnaknglaaRamA
namespace Go.Proofs.Ytalhdcjnaknglaa
open Go.RowKit

def byteRow (B : Nat → Nat) : Nat → Value := fun i => .int .u8 ((B i : Nat) : Int)

theorem lay_zero (B : Nat → Nat) (o v : Nat) : lay B o 0 v = B := by
  funext i
  unfold lay
  rw [if_neg (by omega)]
theorem lay_succ (B : Nat → Nat) (o q v : Nat) : lay B o (q + 1) v = fun i => if i = o + q then v / 256 ^ q % 256 else lay B o q v i := by
  funext i
  unfold lay
  by_cases h : i = o + q
  · subst h
    rw [if_pos (by omega), if_pos rfl, show o + q - o = q from by omega]
  · rw [if_neg h]
    by_cases h2 : o ≤ i ∧ i < o + q
    · rw [if_pos (by omega), if_pos h2]
    · rw [if_neg (by omega), if_neg h2]

theorem byte_cast (v q : Nat) : ((v / 256 ^ q % 256 : Nat) : Int) = (v : Int) / 2 ^ (8 * q) % 256 := by
  rw [pow_256, Int.natCast_emod, Int.natCast_ediv, Int.natCast_pow]
  rfl

theorem put_any (rb n o k c : Nat) (B : Nat → Nat) (v : Nat) (w : World) (hk : k ≤ 8) (hok : o + k ≤ n) (hn : n ≤ 65536) (_hv : v < 18446744073709551616) (hrow : w.rowIs rb 5 n (byteRow B)) :
    Calls Try.prog 44 #[.slice (some ⟨rb, o, none⟩) k c, .int .u64 (v : Int)] w (Ends (.tuple #[]) fun w' => w'.rowIs rb 5 n (byteRow (lay B o k v)) ∧ Mod (fun g => g = rb) w w') := by
  have HR := Lib.hid hrow
  clear hrow
  go_enter Try.func44, Try.ntmps44
  go_wp2
  go_loopw [7] (fun i wr => ∃ q : Nat, q ≤ k ∧ i = .int .i64 (q : Int) ∧ wr.rowIs rb 5 n (byteRow (lay B o q v)) ∧ Mod (fun g => g = rb) w wr) (fun i _ => k - (intOf i).toNat)
  case atStart => exact ⟨0, Nat.zero_le _, rfl, by rw [lay_zero]; exact HR.out, Mod.refl _ _⟩
  case round =>
    obtain ⟨q, hq, rfl, hr, hm⟩ := hrel
    by_cases hqk : q < k
    · have cq := hr.cell (i := o + q) (by omega)
      have fr := hr.frozen (o + q)
      have Hr := Lib.hid hr
      have Hm := Lib.hid hm
      clear hr hm
      simp only [byteRow] at cq
      go_wp2
      go_roundw
      case rel =>
        refine ⟨q + 1, by omega, by go_num, (Hr.out.set _ _).congr ?_, Hm.out.setCell (.inl rfl) _⟩
        intro i hi
        rw [lay_succ]
        simp only [byteRow]
        by_cases e : i = o + q
        · rw [if_pos e, if_pos e, byte_cast]
        · rw [if_neg e, if_neg e]
      case measure => simp [intOf]; omega
    · obtain rfl : q = k := by omega
      go_wp2
      go_end0
      exact ⟨rfl, hr, hm⟩

set_option maxRecDepth 100000 in
theorem tag_any (r o : Nat) (w : World) (ho : o < 65536) :
    Calls Try.prog 41 #[.pointer (some ⟨r, 0, none⟩), .int .i64 (o : Int)] w (Ends (.tuple #[.pointer (some ⟨r, 1 + o / 16 / 64, none⟩), .int .u64 ((2 ^ (o / 16 % 64) : Nat) : Int)]) fun w' => Mod Nil w w') := by
  have h1 : (0 : Int) ≤ (o : Int) / 16 / 64 := by omega
  have h2 : (o : Int) / 16 / 64 < 64 := by omega
  have h3 : (0 : Int) ≤ (o : Int) / 16 % 64 := by omega
  have h4 : (o : Int) / 16 % 64 < 64 := by omega
  go_enter Try.func41, Try.ntmps41
  go_wp2
  go_quiet (fail)
  go_wp2
  go_ret2
  refine ⟨?_, (Mod.refl Nil w).drewN nq⟩
  have hx : (2 : Nat) ^ (o / 16 % 64) < 18446744073709551616 := by
    have h : o / 16 % 64 < 64 := by omega
    exact (Nat.pow_lt_pow_iff_right (a := 2) (by decide)).2 h
  have e : IntKind.u64.wrap (2 ^ (o / 16 % 64)) = ((2 ^ (o / 16 % 64) : Nat) : Int) := by
    rw [IntKind.wrap_u64, show ((2 : Int) ^ (o / 16 % 64)) = ((2 ^ (o / 16 % 64) : Nat) : Int) from by push_cast; rfl]
    generalize 2 ^ (o / 16 % 64) = p at hx
    exact Int.emod_eq_of_lt (Int.natCast_nonneg _) (by omega)
  rw [← e]
  rfl

end Go.Proofs.Ytalhdcjnaknglaa
