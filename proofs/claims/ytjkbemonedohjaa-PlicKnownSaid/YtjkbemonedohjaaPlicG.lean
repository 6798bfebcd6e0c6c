/- What was written into a register is read (plain, and PlicRegisters). Condition: the calls lie in memory. -/
import Derived.Test.YtjkbemonedohjaaPlicZ
import Derived.Deep.AppendLies
import Derived.Laws.OwnMore
import Derived.OwnWalk
import Derived.Test.YtjkbemonedohjaaLook
namespace Go.Proofs.Ytjkbemonedohjaa
open Go.RowKit Go.ChangeShapes Go.WideShapes Go.Deep
attribute [local go_sem ↓] Go.wp_at_zero Go.wp_at_succ

/-- The registers, one by one. -/
def regOf (i : Nat) : Int := if i = 0 then 4096 else if i = 1 then 8192 else if i = 2 then 8320 else if i = 3 then 2097152 else if i = 4 then 2101248 else 4 * ((i - 5 : Nat) : Int)
theorem regOf_s (q : Nat) : regOf (5 + q) = 4 * (q : Int) := by
  unfold regOf
  rw [if_neg (by omega), if_neg (by omega), if_neg (by omega), if_neg (by omega), if_neg (by omega), show 5 + q - 5 = q from by omega]
def regL (n : Nat) : List Int := (List.range n).map regOf
theorem regL_succ (n : Nat) : regL (n + 1) = regL n ++ [regOf n] := by simp [regL, List.range_succ]
theorem regL_len (n : Nat) : (regL n).length = n := by simp [regL]
/-- What they have. -/
def hasL (S : Pli) (n : Nat) : List Int := (List.range n).map fun i => (((S.load (regOf i) 4).1.1 : Nat) : Int)
theorem hasL_succ (S : Pli) (n : Nat) : hasL S (n + 1) = hasL S n ++ [(((S.load (regOf n) 4).1.1 : Nat) : Int)] := by simp [hasL, List.range_succ]
theorem hasL_len (S : Pli) (n : Nat) : (hasL S n).length = n := by simp [hasL]

/-- A register's kind and number. -/
theorem reg_kind (i : Nat) (hi : i < 37) : (which (regOf i) 4 = (2, 0) ∧ regOf i = 4096) ∨ (which (regOf i) 4 = (3, 0) ∧ regOf i = 8192) ∨ (which (regOf i) 4 = (3, 1) ∧ regOf i = 8320) ∨ (which (regOf i) 4 = (4, 0) ∧ regOf i = 2097152) ∨ (which (regOf i) 4 = (4, 1) ∧ regOf i = 2101248) ∨ ∃ s : Nat, s < 32 ∧ which (regOf i) 4 = (1, s) ∧ regOf i = 4 * (s : Int) := by
  rcases i with _ | _ | _ | _ | _ | i
  · exact .inl ⟨rfl, rfl⟩
  · exact .inr (.inl ⟨rfl, rfl⟩)
  · exact .inr (.inr (.inl ⟨rfl, rfl⟩))
  · exact .inr (.inr (.inr (.inl ⟨rfl, rfl⟩)))
  · exact .inr (.inr (.inr (.inr (.inl ⟨rfl, rfl⟩))))
  · refine .inr (.inr (.inr (.inr (.inr ⟨i, by omega, ?_, ?_⟩))))
    · rw [show i + 5 = 5 + i from by omega, regOf_s]
      unfold which
      rw [if_pos ⟨rfl, by omega⟩, if_pos ⟨by omega, by omega⟩, show (4 * (i : Int)).toNat / 4 = i from by omega]
    · rw [show i + 5 = 5 + i from by omega, regOf_s]

/-- What a register of a kind has. -/
def valOf (S : Pli) : Nat × Nat → Nat
  | (1, n) => S.pri n
  | (2, _) => wordOf S.pend 32
  | (3, n) => wordOf (S.en n) 32
  | (4, n) => S.thr n
  | (5, n) => (S.claim n).1
  | _ => 0
/-- What a store into a register of a kind makes. -/
def storeK (S : Pli) (v : Nat) : Nat × Nat → Pli
  | (1, n) => S.setPri n v
  | (2, _) => S
  | (3, n) => S.setEn n v
  | (4, n) => S.setThr n v
  | (5, n) => S.complete n v
  | _ => S
theorem load_val (S : Pli) (r z : Int) : (S.load r z).1.1 = valOf S (which r z) := by
  unfold Pli.load valOf
  split <;> simp_all
theorem store_val (S : Pli) (r z : Int) (v : Nat) : (S.store r z v).2 = storeK S v (which r z) := by
  unfold Pli.store storeK
  split <;> simp_all
theorem reg_still (S : Pli) (i : Nat) (hi : i < 37) : (S.load (regOf i) 4).2 = S := by
  unfold Pli.load
  rcases reg_kind i hi with ⟨h, _⟩ | ⟨h, _⟩ | ⟨h, _⟩ | ⟨h, _⟩ | ⟨h, _⟩ | ⟨s, _, h, _⟩ <;> rw [h] <;> rfl

/-- What a register of a kind gets. -/
def newVal (v old : Nat) : Nat × Nat → Nat
  | (1, n) => if 0 < n then v % 8 else old
  | (3, _) => wordOf (fun k => v.testBit k && !(k == 0)) 32
  | (4, _) => v % 8
  | _ => old

theorem en_word (S : Pli) (n v : Nat) : wordOf ((S.setEn n v).en n) 32 = wordOf (fun k => v.testBit k && !(k == 0)) 32 := by
  refine wordOf_congr 32 _ _ fun k hk => ?_
  simp only [Pli.setEn, if_true]
  rw [decide_eq_true hk, Bool.and_true]
  rfl

theorem after_pri (S : Pli) (v n : Nat) (k : Nat × Nat) : valOf (storeK S v k) (1, n) = if k = (1, n) then newVal v (valOf S (1, n)) k else valOf S (1, n) := by
  show (storeK S v k).pri n = if k = (1, n) then newVal v (S.pri n) k else S.pri n
  unfold storeK
  split
  · rename_i m
    show (S.setPri m v).pri n = if (1, m) = (1, n) then (if 0 < m then v % 8 else S.pri n) else S.pri n
    unfold Pli.setPri
    by_cases h0 : 0 < m
    · rw [if_pos h0, if_pos h0]
      by_cases e : n = m
      · subst e; simp
      · rw [if_neg (by simp; exact Ne.symm e)]
        simp [e]
    · rw [if_neg h0, if_neg h0]
      simp
  · rw [if_neg (by simp)]
  · rw [if_neg (by simp)]; rfl
  · rw [if_neg (by simp)]; rfl
  · rw [if_neg (by simp)]
    unfold Pli.complete
    split <;> rfl
  · rename_i h1 h2 h3 h4 h5
    by_cases e : k = (1, n)
    · exact absurd e (h1 n)
    · rw [if_neg e]
theorem after_pend (S : Pli) (v : Nat) (k : Nat × Nat) : valOf (storeK S v k) (2, 0) = valOf S (2, 0) := by
  show wordOf (storeK S v k).pend 32 = wordOf S.pend 32
  unfold storeK
  split
  · unfold Pli.setPri
    split <;> rfl
  · rfl
  · rfl
  · rfl
  · unfold Pli.complete
    split <;> rfl
  · rfl
theorem after_en (S : Pli) (v n : Nat) (k : Nat × Nat) : valOf (storeK S v k) (3, n) = if k = (3, n) then newVal v (valOf S (3, n)) k else valOf S (3, n) := by
  show wordOf ((storeK S v k).en n) 32 = if k = (3, n) then newVal v (wordOf (S.en n) 32) k else wordOf (S.en n) 32
  unfold storeK
  split
  · rw [if_neg (by simp)]
    unfold Pli.setPri
    split <;> rfl
  · rw [if_neg (by simp)]
  · rename_i m
    by_cases e : n = m
    · subst e
      rw [if_pos rfl, en_word]
      rfl
    · rw [if_neg (by simp; exact Ne.symm e)]
      refine wordOf_congr 32 _ _ fun k _ => ?_
      simp [Pli.setEn, e]
  · rw [if_neg (by simp)]; rfl
  · rw [if_neg (by simp)]
    unfold Pli.complete
    split <;> rfl
  · rename_i h1 h2 h3 h4 h5
    by_cases e : k = (3, n)
    · exact absurd e (h3 n)
    · rw [if_neg e]
theorem after_thr (S : Pli) (v n : Nat) (k : Nat × Nat) : valOf (storeK S v k) (4, n) = if k = (4, n) then newVal v (valOf S (4, n)) k else valOf S (4, n) := by
  show (storeK S v k).thr n = if k = (4, n) then newVal v (S.thr n) k else S.thr n
  unfold storeK
  split
  · rw [if_neg (by simp)]
    unfold Pli.setPri
    split <;> rfl
  · rw [if_neg (by simp)]
  · rw [if_neg (by simp)]; rfl
  · rename_i m
    by_cases e : n = m
    · subst e
      simp [Pli.setThr, newVal]
    · rw [if_neg (by simp; exact Ne.symm e)]
      simp [Pli.setThr, e]
  · rw [if_neg (by simp)]
    unfold Pli.complete
    split <;> rfl
  · rename_i h1 h2 h3 h4 h5
    by_cases e : k = (4, n)
    · exact absurd e (h4 n)
    · rw [if_neg e]

/-- What a register has behind a store. -/
def wantOf (S : Pli) (i : Nat) (off size : Int) (v : Nat) : Nat :=
  if size = 4 ∧ regOf i = off then
    if off = 8192 ∨ off = 8320 then wordOf (fun k => v.testBit k && !(k == 0)) 32 else if off ≠ 0 ∧ off ≠ 4096 then v % 8 else (S.load (regOf i) 4).1.1
  else (S.load (regOf i) 4).1.1

theorem which_inj (i : Nat) (hi : i < 37) (off size : Int) : which off size = which (regOf i) 4 ↔ size = 4 ∧ regOf i = off := by
  constructor
  · intro h
    rcases which_cases off size with ⟨hs, hw⟩ | ⟨rfl, ⟨h0, h1, h2, hw⟩ | ⟨rfl, hw⟩ | ⟨rfl, hw⟩ | ⟨rfl, hw⟩ | ⟨rfl, hw⟩ | ⟨rfl, hw⟩ | ⟨rfl, hw⟩ | ⟨rfl, hw⟩ | ⟨hn, e0, e1, e2, e3, e4, e5, e6, hw⟩⟩ <;>
    rcases reg_kind i hi with ⟨h', e⟩ | ⟨h', e⟩ | ⟨h', e⟩ | ⟨h', e⟩ | ⟨h', e⟩ | ⟨s, hs', h', e⟩ <;> rw [hw, h'] at h <;> simp at h <;> first | exact ⟨rfl, e⟩ | exact ⟨rfl, by omega⟩
  · rintro ⟨rfl, rfl⟩
    rfl

theorem reg_after (S : Pli) (off size : Int) (v i : Nat) (hi : i < 37) : ((S.store off size v).2.load (regOf i) 4).1.1 = wantOf S i off size v := by
  have hinj := which_inj i hi off size
  unfold wantOf
  rw [load_val, load_val, store_val]
  by_cases hc : size = 4 ∧ regOf i = off
  · rw [if_pos hc]
    have hk := hinj.2 hc
    obtain ⟨rfl, rfl⟩ := hc
    rcases reg_kind i hi with ⟨h', e⟩ | ⟨h', e⟩ | ⟨h', e⟩ | ⟨h', e⟩ | ⟨h', e⟩ | ⟨s, hs', h', e⟩
    · rw [h', after_pend, if_neg (by omega), if_neg (by omega)]
    · rw [h', after_en, if_pos rfl, if_pos (by omega)]; rfl
    · rw [h', after_en, if_pos rfl, if_pos (by omega)]; rfl
    · rw [h', after_thr, if_pos rfl, if_neg (by omega), if_pos (by omega)]; rfl
    · rw [h', after_thr, if_pos rfl, if_neg (by omega), if_pos (by omega)]; rfl
    · rw [h', after_pri, if_pos rfl, if_neg (by omega)]
      by_cases h0 : 0 < s
      · rw [if_pos (by omega)]
        exact if_pos h0
      · rw [if_neg (by omega)]
        exact if_neg h0
  · rw [if_neg hc]
    have hk : ¬ which off size = which (regOf i) 4 := fun h => hc (hinj.1 h)
    rcases reg_kind i hi with ⟨h', e⟩ | ⟨h', e⟩ | ⟨h', e⟩ | ⟨h', e⟩ | ⟨h', e⟩ | ⟨s, hs', h', e⟩ <;> rw [h'] at hk ⊢
    · rw [after_pend]
    · rw [after_en, if_neg hk]
    · rw [after_en, if_neg hk]
    · rw [after_thr, if_neg hk]
    · rw [after_thr, if_neg hk]
    · rw [after_pri, if_neg hk]

/-- Is it a register that was met among the first q? -/
def thereTo (off size : Int) (q : Nat) : Bool := (off == 2097156) || (off == 2101252) || ((size == 4) && (List.range q).any fun i => regOf i == off)
theorem thereTo_zero (off size : Int) : thereTo off size 0 = ((off == 2097156) || (off == 2101252)) := by simp [thereTo]
theorem thereTo_succ (off size : Int) (q : Nat) : thereTo off size (q + 1) = (thereTo off size q || ((size == 4) && (regOf q == off))) := by
  simp only [thereTo, List.range_succ, List.any_append, List.any_cons, List.any_nil, Bool.or_false]
  cases (size == 4) <;> simp [Bool.or_assoc]
theorem stored_there (S : Pli) (off size : Int) (v : Nat) : (S.store off size v).1 = ((size == 4) && thereTo off size 37) := by
  have hst : (S.store off size v).1 = decide ((which off size).1 ≠ 0) := by
    unfold Pli.store
    split <;> simp_all
    rename_i h1 h2 h3 h4 h5
    have := (which_lt off size).2.2
    generalize which off size = x at *
    obtain ⟨a, b⟩ := x
    dsimp only at this ⊢
    have g1 : a ≠ 1 := fun e => h1 b (by rw [e])
    have g2 : a ≠ 2 := fun e => h2 b (by rw [e])
    have g3 : a ≠ 3 := fun e => h3 b (by rw [e])
    have g4 : a ≠ 4 := fun e => h4 b (by rw [e])
    have g5 : a ≠ 5 := fun e => h5 b (by rw [e])
    omega
  rw [hst]
  have hany : ∀ i, i < 37 → regOf i = off → thereTo off 4 37 = true := by
    intro i hi e
    simp only [thereTo, Bool.or_eq_true, Bool.and_eq_true, List.any_eq_true, List.mem_range, beq_iff_eq]
    exact .inr ⟨trivial, i, hi, e⟩
  rcases which_cases off size with ⟨hs, hw⟩ | ⟨rfl, ⟨h0, h1, h2, hw⟩ | ⟨rfl, hw⟩ | ⟨rfl, hw⟩ | ⟨rfl, hw⟩ | ⟨rfl, hw⟩ | ⟨rfl, hw⟩ | ⟨rfl, hw⟩ | ⟨rfl, hw⟩ | ⟨hn, e0, e1, e2, e3, e4, e5, e6, hw⟩⟩ <;> rw [hw]
  · rw [beq_eq_false_iff_ne.2 hs]; rfl
  · rw [hany (5 + off.toNat / 4) (by omega) (by rw [regOf_s]; omega)]; rfl
  · rw [hany 0 (by omega) rfl]; rfl
  · rw [hany 1 (by omega) rfl]; rfl
  · rw [hany 2 (by omega) rfl]; rfl
  · rw [hany 3 (by omega) rfl]; rfl
  · rw [hany 4 (by omega) rfl]; rfl
  · rfl
  · rfl
  · have : thereTo off 4 37 = false := by
      unfold thereTo
      rw [beq_eq_false_iff_ne.2 e5, beq_eq_false_iff_ne.2 e6, Bool.false_or, Bool.false_or, Bool.and_eq_false_iff]
      refine .inr ?_
      rw [List.any_eq_false]
      intro i hi e
      rw [beq_iff_eq] at e
      rcases reg_kind i (List.mem_range.1 hi) with ⟨h', e'⟩ | ⟨h', e'⟩ | ⟨h', e'⟩ | ⟨h', e'⟩ | ⟨h', e'⟩ | ⟨s, hs', h', e'⟩ <;> omega
    rw [this]; rfl

end Go.Proofs.Ytjkbemonedohjaa
