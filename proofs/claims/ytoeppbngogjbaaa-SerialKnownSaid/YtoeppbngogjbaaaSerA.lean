/- The UART's and the switch's methods, program and reference: what each answers and leaves, over one abstract state. -/
import Derived.Test.YtoeppbngogjbaaaProg
import Derived.Test.YtoeppbngogjbaaaBase
import Derived.Maps.AppendAt
namespace Go.Proofs.Ytoeppbngogjbaaa
open Go.RowKit

/-- What a UART has: the bytes that wait, whether it is enabled, the byte that was told. -/
structure Ser where
  L : List Int
  en : Bool
  told : Option Int

def uf (q : Nat → Int) (first n : Int) (en : Bool) (v : Value) (i : Nat) : Value :=
  if i < 16 then .int .u8 (q i) else if i = 16 then .int .i64 first else if i = 17 then .int .i64 n else if i = 18 then .bool en else v

/-- What stands in 'told'. -/
def ToldIn (w : World) (base b : Nat) (D : Nat → Prop) (told : Option Int) (v : Value) : Prop :=
  match told with
  | none => v = .slice none 0 0
  | some c => 0 ≤ c ∧ c < 256 ∧ w.ownsRow base 5 1 v 1 [.int .u8 c] ∧ ∀ g, v.ownBlock = some g → D g ∧ g ≠ b

/-- A UART of the program at block b, all its blocks in D. -/
def UartIn (w : World) (base b : Nat) (D : Nat → Prop) (s : Ser) : Prop :=
  D b ∧ base ≤ b ∧ ∃ (q : Nat → Int) (first : Nat) (v : Value), w.rowIs b 41 20 (uf q first s.L.length s.en v) ∧ s.L.length ≤ 16 ∧ first < 16 ∧
    (∀ k, k < s.L.length → s.L[k]? = some (q ((first + k) % 16))) ∧ (∀ c, c ∈ s.L → 0 ≤ c ∧ c < 256) ∧ ToldIn w base b D s.told v

theorem there_any (off size : Int) (w : World) :
    Calls Try.prog 31 #[.int .i64 off, .int .i64 size] w fun e w' => e = .returned (.bool (decide (size = 1 ∧ 0 ≤ off ∧ off ≤ 7))) ∧ w = w' := by
  by_cases h1 : size = 1 <;> by_cases h2 : 0 ≤ off <;> by_cases h3 : off ≤ 7
  all_goals
    go_enter Try.func31, Try.ntmps31
    go_wp2
    go_ret
    exact ⟨by simp [h1, h2, h3], rfl⟩

theorem one_any (x : Bool) (w : World) :
    Calls Try.prog 33 #[.bool x] w fun e w' => e = .returned (.int .u64 (if x then 1 else 0)) ∧ w = w' := by
  cases x
  all_goals
    go_enter Try.func33, Try.ntmps33
    go_wp2
    go_ret
    exact ⟨rfl, rfl⟩

end Go.Proofs.Ytoeppbngogjbaaa
