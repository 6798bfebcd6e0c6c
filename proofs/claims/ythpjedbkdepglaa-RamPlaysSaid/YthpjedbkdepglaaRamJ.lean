/- RamApart returns true at any two acts. No other condition. -/
import Derived.Test.YthpjedbkdepglaaRamI
namespace Go.Proofs.Ythpjedbkdepglaa
open Go.RowKit Go.ChangeShapes Go.WideShapes Go.Deep

/-- Two memories of this call, apart; beside them nothing has turned since w0. -/
structure Two (W w0 w : World) (r1 b1 r2 b2 : Nat) (M N : Mem) : Prop where
  one : Has W w r1 b1 M
  two : Has W w r2 b2 N
  ne : r1 ≠ r2 ∧ r1 ≠ b2 ∧ b1 ≠ r2 ∧ b1 ≠ b2
  mod : Mod (fun k => k = r1 ∨ k = b1 ∨ k = r2 ∨ k = b2) w0 w

section
variable {W w0 w w' : World} {r1 b1 r2 b2 : Nat} {M N M' N' : Mem}
theorem Two.nil (h : Two W w0 w r1 b1 r2 b2 M N) (hm : Mod Nil w w') : Two W w0 w' r1 b1 r2 b2 M N := ⟨h.one.nil hm, h.two.nil hm, h.ne, h.mod.trans hm fun _ _ x => x.elim⟩
theorem Two.first (h : Two W w0 w r1 b1 r2 b2 M N) (h1 : Has W w' r1 b1 M') (hm : Mod (fun g => g = r1 ∨ g = b1) w w') : Two W w0 w' r1 b1 r2 b2 M' N := by
  have hn := h.ne
  refine ⟨h1, h.two.keep hm ?_ (by omega) (by omega), hn, h.mod.trans hm fun i _ hi => by omega⟩
  rintro k (rfl | rfl)
  · exact h1.old.1
  · exact h1.old.2
theorem Two.second (h : Two W w0 w r1 b1 r2 b2 M N) (h1 : Has W w' r2 b2 N') (hm : Mod (fun g => g = r2 ∨ g = b2) w w') : Two W w0 w' r1 b1 r2 b2 M N' := by
  have hn := h.ne
  refine ⟨h.one.keep hm ?_ (by omega) (by omega), h1, hn, h.mod.trans hm fun i _ hi => by omega⟩
  rintro k (rfl | rfl)
  · exact h1.old.1
  · exact h1.old.2
end

theorem store_all (M : Mem) (o : Nat) (s : Int) (k : Nat) (hsk : s = k) (v : Nat) (hk : k = 1 ∨ k = 2 ∨ k = 4 ∨ k = 8) (h : o + k ≤ M.n) :
    M.store (o : Int) s v = (true, { M with B := lay M.B o k v, T := fun g => if g = o / 16 ∨ g = (o + k - 1) / 16 then false else M.T g }) := by
  subst hsk
  unfold Mem.store
  rw [if_pos ⟨by unfold Sized; omega, by unfold There; omega⟩]
  rfl
theorem lay_swap (B : Nat → Nat) (a x u b y v : Nat) (h : ¬ (a < b + y ∧ b < a + x)) : lay (lay B a x u) b y v = lay (lay B b y v) a x u := by
  funext i
  unfold lay
  by_cases h1 : a ≤ i ∧ i < a + x
  · rw [if_pos h1, if_pos h1, if_neg (by omega)]
  · rw [if_neg h1, if_neg h1]
theorem apart_swap (M : Mem) (a x u b y v : Nat) (h : ¬ (a < b + y ∧ b < a + x)) (hx : x = 1 ∨ x = 2 ∨ x = 4 ∨ x = 8) (hy : y = 1 ∨ y = 2 ∨ y = 4 ∨ y = 8) (ha : a + x ≤ M.n) (hb : b + y ≤ M.n) :
    ∃ P Q1 Q2 : Mem, M.store (a : Int) (x : Int) u = (true, Q1) ∧ Q1.store (b : Int) (y : Int) v = (true, P) ∧ M.store (b : Int) (y : Int) v = (true, Q2) ∧ Q2.store (a : Int) (x : Int) u = (true, P) ∧ P.n = M.n ∧
      P.T = fun g => if g = a / 16 ∨ g = (a + x - 1) / 16 ∨ g = b / 16 ∨ g = (b + y - 1) / 16 then false else M.T g := by
  refine ⟨⟨M.n, lay (lay M.B a x u) b y v, fun g => if g = a / 16 ∨ g = (a + x - 1) / 16 ∨ g = b / 16 ∨ g = (b + y - 1) / 16 then false else M.T g⟩, _, _, store_all M a x x rfl u hx ha, ?_, store_all M b y y rfl v hy hb, ?_, rfl, rfl⟩
  · refine (store_all _ b y y rfl v hy (by exact hb)).trans ?_
    congr 2
    funext g
    dsimp only
    by_cases h1 : g = b / 16 ∨ g = (b + y - 1) / 16
    · rw [if_pos h1, if_pos (by omega)]
    · rw [if_neg h1]
      by_cases h2 : g = a / 16 ∨ g = (a + x - 1) / 16
      · rw [if_pos h2, if_pos (by omega)]
      · rw [if_neg h2, if_neg (by omega)]
  · refine (store_all _ a x x rfl u hx (by exact ha)).trans ?_
    rw [lay_swap M.B a x u b y v h]
    congr 2
    funext g
    dsimp only
    by_cases h1 : g = a / 16 ∨ g = (a + x - 1) / 16
    · rw [if_pos h1, if_pos (by omega)]
    · rw [if_neg h1]
      by_cases h2 : g = b / 16 ∨ g = (b + y - 1) / 16
      · rw [if_pos h2, if_pos (by omega)]
      · rw [if_neg h2, if_neg (by omega)]
/-- One granule alone may bear a tag. -/
theorem tagged_none (P : Mem) (c : Nat) (hn : P.n = 4096) (hc : c < 256) (h : ∀ g, g ≠ c → P.T g = false) : (P.tagged.length = 0) ↔ P.T c = false := by
  unfold Mem.tagged
  rw [List.length_map, hn, List.length_eq_zero_iff, List.filter_eq_nil_iff]
  constructor
  · intro h1
    have := h1 c (List.mem_range.2 hc)
    simpa using this
  · intro h1 g _
    by_cases e : g = c
    · subst e; simp [h1]
    · simp [h g e]
theorem zero_cap (γ u v : Nat) (h : γ < 256) : ∃ Mg : Mem, (Mem.zero 4096).storeCap (((γ : Nat) : Int) * 16) true u v = (true, Mg) ∧ Mg.n = 4096 ∧ Mg.T = fun g => if g = γ then true else false := by
  unfold Mem.storeCap
  rw [if_pos ⟨by unfold There Mem.zero; simp; omega, by omega⟩]
  refine ⟨_, rfl, rfl, ?_⟩
  show (fun g => if g = (((γ : Nat) : Int) * 16).toNat / 16 then true else false) = _
  rw [show (((γ : Nat) : Int) * 16).toNat / 16 = γ from by omega]

/-- An act as an argument. -/
theorem read_actArg {H : Type} {enc : TypeId × Value → H} {W : World} {r : Reach} {b0 : Nat} {v : Value} {d : DataW H} {p : List MemPlace} (ok : Value.okWide Try.prog W r b0 30 v)
    (h : DataW.Trod enc Try.prog W 0 (fun _ => true) true 30 v d p) : ∃ o : ActV, v = .agg o.cells ∧ o.ok := by
  obtain ⟨cs, rfl, _⟩ := okWide_struct Try.underlying30 ok
  obtain ⟨m, hm⟩ := h
  obtain ⟨o, ho, hok⟩ := read_act hm
  refine ⟨o, ?_, hok⟩
  congr 1
  exact Array.toList_inj.1 ho

theorem lit_four (w : World) (t : TypeId) (s : Nat) (h : s < 4) : ∃ x : Nat, (x = 1 ∨ x = 2 ∨ x = 4 ∨ x = 8) ∧ (w.alloc (.cells #[.int .i64 1, .int .i64 2, .int .i64 4, .int .i64 8] t)).cell? ⟨w.heap.size, s, none⟩ = some (.int .i64 (x : Int)) := by
  rcases s with _ | _ | _ | _ | s
  · exact ⟨1, by omega, by simp⟩
  · exact ⟨2, by omega, by simp⟩
  · exact ⟨4, by omega, by simp⟩
  · exact ⟨8, by omega, by simp⟩
  · omega

set_option maxHeartbeats 8000000 in
set_option maxRecDepth 100000 in
theorem apart_any (K O S : Int) (T : Bool) (A V : Nat) (K2 O2 S2 : Int) (T2 : Bool) (A2 V2 : Nat) (W : World) (hA : A < 18446744073709551616) (hV : V < 18446744073709551616) (hA2 : A2 < 18446744073709551616) (hV2 : V2 < 18446744073709551616) :
    Calls Try.prog 5 #[.agg #[.int .i64 K, .int .i64 O, .int .i64 S, .bool T, .int .u64 (A : Int), .int .u64 (V : Int)], .agg #[.int .i64 K2, .int .i64 O2, .int .i64 S2, .bool T2, .int .u64 (A2 : Int), .int .u64 (V2 : Int)]] W (fun e w' => e = .returned (.bool true) ∧ Below W.heap.size W w') := by
  go_enter Try.func5, Try.ntmps5
  go_wp2_with (fail)
  have ca := (act_born W K O S T A V 30).mod (w' := (W.alloc (.cells #[.int .i64 K, .int .i64 O, .int .i64 S, .bool T, .int .u64 (A : Int), .int .u64 (V : Int)] 30)).alloc (.cells #[.int .i64 K2, .int .i64 O2, .int .i64 S2, .bool T2, .int .u64 (A2 : Int), .int .u64 (V2 : Int)] 30)) ((Mod.refl Nil _).alloc _) (by simp) (fun x => x)
  have cb := act_born (W.alloc (.cells #[.int .i64 K, .int .i64 O, .int .i64 S, .bool T, .int .u64 (A : Int), .int .u64 (V : Int)] 30)) K2 O2 S2 T2 A2 V2 30
  have hbw : Below W.heap.size W ((W.alloc (.cells #[.int .i64 K, .int .i64 O, .int .i64 S, .bool T, .int .u64 (A : Int), .int .u64 (V : Int)] 30)).alloc (.cells #[.int .i64 K2, .int .i64 O2, .int .i64 S2, .bool T2, .int .u64 (A2 : Int), .int .u64 (V2 : Int)] 30)) := ((Below.refl _ W).alloc (Nat.le_refl _) _).alloc (by simp) _
  rw [World.size_alloc] at cb
  have hsz : ((W.alloc (.cells #[.int .i64 K, .int .i64 O, .int .i64 S, .bool T, .int .u64 (A : Int), .int .u64 (V : Int)] 30)).alloc (.cells #[.int .i64 K2, .int .i64 O2, .int .i64 S2, .bool T2, .int .u64 (A2 : Int), .int .u64 (V2 : Int)] 30)).heap.size = W.heap.size + 2 := by simp
  generalize (W.alloc (.cells #[.int .i64 K, .int .i64 O, .int .i64 S, .bool T, .int .u64 (A : Int), .int .u64 (V : Int)] 30)).alloc (.cells #[.int .i64 K2, .int .i64 O2, .int .i64 S2, .bool T2, .int .u64 (A2 : Int), .int .u64 (V2 : Int)] 30) = wa at *
  refine (new_has hbw 4096 (by omega) (by omega) (by omega)).mono ?_
  rintro e w1 ⟨rfl, h1, hm1⟩
  rw [hsz] at h1
  go_wp2_with (fail)
  refine (new_has h1.below 4096 (by omega) (by omega) (by omega)).mono ?_
  rintro e w2 ⟨rfl, h2, hm2⟩
  have hs1 := h1.lt
  have h1 := h1.nil hm2
  have hm12 := hm1.trans' hm2
  obtain ⟨R1, hR1⟩ : ∃ R1, R1 = W.heap.size + 2 + 1 := ⟨_, rfl⟩
  obtain ⟨B1, hB1⟩ : ∃ B1, B1 = W.heap.size + 2 := ⟨_, rfl⟩
  obtain ⟨R2, hR2⟩ : ∃ R2, R2 = w1.heap.size + 1 := ⟨_, rfl⟩
  obtain ⟨B2, hB2⟩ : ∃ B2, B2 = w1.heap.size := ⟨_, rfl⟩
  rw [← hR1, ← hB1] at h1
  rw [← hR2, ← hB2] at h2
  rw [← hR1, ← hR2]
  have hT0 : Two W w2 w2 R1 B1 R2 B2 (Mem.zero 4096) (Mem.zero 4096) := ⟨h1, h2, by omega, Mod.refl _ _⟩
  have hT1 := hT0.nil ((Mod.refl Nil w2).alloc (.cells #[.int .i64 1, .int .i64 2, .int .i64 4, .int .i64 8] 3))
  have ca := (ca.mod hm12 (by omega) (fun x => x)).mod ((Mod.refl Nil w2).alloc (.cells #[.int .i64 1, .int .i64 2, .int .i64 4, .int .i64 8] 3)) (by have := hm12.size; omega) (fun x => x)
  have cb := (cb.mod hm12 (by omega) (fun x => x)).mod ((Mod.refl Nil w2).alloc (.cells #[.int .i64 1, .int .i64 2, .int .i64 4, .int .i64 8] 3)) (by have := hm12.size; omega) (fun x => x)
  obtain ⟨s, hs⟩ : ∃ s : Nat, S % 4 = (s : Int) := ⟨(S % 4).toNat, by omega⟩
  obtain ⟨s2, hs2⟩ : ∃ s : Nat, S2 % 4 = (s : Int) := ⟨(S2 % 4).toNat, by omega⟩
  obtain ⟨x, hx, cx⟩ := lit_four w2 3 s (by omega)
  obtain ⟨y, hy, cy⟩ := lit_four w2 3 s2 (by omega)
  have s4 : (s : Int) < 4 := by omega
  have s24 : (s2 : Int) < 4 := by omega
  obtain ⟨a, ha⟩ : ∃ a : Nat, O % 4089 = (a : Int) := ⟨(O % 4089).toNat, by omega⟩
  obtain ⟨b, hb⟩ : ∃ b : Nat, O2 % 4089 = (b : Int) := ⟨(O2 % 4089).toNat, by omega⟩
  obtain ⟨γ, hγ⟩ : ∃ γ : Nat, K % 256 = (γ : Int) := ⟨(K % 256).toNat, by omega⟩
  have a4 : a < 4089 := by omega
  have b4 : b < 4089 := by omega
  have γ4 : γ < 256 := by omega
  have la : W.heap.size < (w2.alloc (.cells #[.int .i64 1, .int .i64 2, .int .i64 4, .int .i64 8] 3)).heap.size := by rw [World.size_alloc]; have := hm12.size; omega
  have lb : W.heap.size + 1 < (w2.alloc (.cells #[.int .i64 1, .int .i64 2, .int .i64 4, .int .i64 8] 3)).heap.size := by rw [World.size_alloc]; have := hm12.size; omega
  have na : ¬ (W.heap.size = R1 ∨ W.heap.size = B1 ∨ W.heap.size = R2 ∨ W.heap.size = B2) := by omega
  have nb : ¬ (W.heap.size + 1 = R1 ∨ W.heap.size + 1 = B1 ∨ W.heap.size + 1 = R2 ∨ W.heap.size + 1 = B2) := by omega
  have hT1 : Two W (w2.alloc (.cells #[.int .i64 1, .int .i64 2, .int .i64 4, .int .i64 8] 3)) (w2.alloc (.cells #[.int .i64 1, .int .i64 2, .int .i64 4, .int .i64 8] 3)) R1 B1 R2 B2 (Mem.zero 4096) (Mem.zero 4096) := ⟨hT1.one, hT1.two, hT1.ne, Mod.refl _ _⟩
  have HT1 := Lib.hid hT1
  have HS := Lib.hid hs
  have HS2 := Lib.hid hs2
  have HOA := Lib.hid ha
  have HOB := Lib.hid hb
  have HG := Lib.hid hγ
  clear hT1 hT0 h1 h2 hs1 hm1 hm2 hm12 hbw hs hs2 ha hb hγ
  have Hca := Lib.hid ca
  have Hcb := Lib.hid cb
  have HR := Lib.hid (And.intro hR1 (And.intro hB1 (And.intro hR2 hB2)))
  clear hR1 hB1 hR2 hB2 hsz
  obtain ⟨p0, p1, p2, p3, p4, p5⟩ := ca
  obtain ⟨q0, q1, q2, q3, q4, q5⟩ := cb
  go_wp2_with (fail)
  refine (pick_any S 4 _ (by omega) (by omega)).mono ?_
  rw [HS.out]
  rintro e w' ⟨rfl, rfl⟩
  go_wp2_with (fail)
  refine (pick_any S2 4 _ (by omega) (by omega)).mono ?_
  rw [HS2.out]
  rintro e w' ⟨rfl, rfl⟩
  go_wp2_with (fail)
  refine (pick_any O 4089 _ (by omega) (by omega)).mono ?_
  rw [HOA.out]
  rintro e w' ⟨rfl, rfl⟩
  go_wp2_with (fail)
  refine (pick_any O2 4089 _ (by omega) (by omega)).mono ?_
  rw [HOB.out]
  rintro e w' ⟨rfl, rfl⟩
  have hx8 : x ≤ 8 := by omega
  have hy8 : y ≤ 8 := by omega
  have hx1 : 1 ≤ x := by omega
  have hy1 : 1 ≤ y := by omega
  by_cases hov : a < b + y ∧ b < a + x
  · obtain ⟨o1, o2⟩ := hov
    have o1' : (a : Int) < (b : Int) + (y : Int) := by omega
    have o2' : (b : Int) < (a : Int) + (x : Int) := by omega
    clear o1 o2
    go_wp2_with (fail)
    refine (known_any _).mono ?_
    rintro e w7 ⟨rfl, hb7⟩
    have hb := HT1.out.one.below.trans (hb7.mono HT1.out.one.below.size)
    go_wp2
    go_ret
    exact ⟨rfl, hb⟩
  · obtain ⟨Mg, hg, hgn, hgT⟩ := zero_cap γ V V2 γ4
    obtain ⟨P, Q1, Q2, e1, e2, e3, e4, hPn, hPT⟩ := apart_swap Mg a x A b y A2 hov hx hy (by omega) (by omega)
    have HX := Lib.hid hx
    have HY := Lib.hid hy
    have HMg := Lib.hid (And.intro hg (And.intro hgn hgT))
    have HE := Lib.hid (And.intro e1 (And.intro e2 (And.intro e3 e4)))
    have HP := Lib.hid (And.intro hPn hPT)
    have hov2 : ¬ ((a : Int) < (b : Int) + (y : Int)) ∨ ¬ ((b : Int) < (a : Int) + (x : Int)) := by omega
    clear hx hy hg hgn hgT e1 e2 e3 e4 hPn hPT hov cx cy p1 p2 p3 q0 q1 q2 q3 s4 s24
    go_upto_region 10 with fail
    go_cut [73] from 62 to 73 (fun c wx => c = .bool false ∧ wx = w2.alloc (.cells #[.int .i64 1, .int .i64 2, .int .i64 4, .int .i64 8] 3))
    case first =>
      go_wp2_with (fail)
      all_goals
        go_meet
        refine ⟨congrArg Value.bool ?_, rfl⟩
        first | rfl | (simp; omega)
    case rest =>
    obtain ⟨rfl, rfl⟩ := hcut
    generalize w2.alloc (.cells #[.int .i64 1, .int .i64 2, .int .i64 4, .int .i64 8] 3) = w3 at *
    go_wp2_with (fail)
    refine (pick_any K 256 _ (by omega) (by omega)).mono ?_
    rw [HG.out]
    rintro e w' ⟨rfl, rfl⟩
    go_wp2_with (fail)
    refine (HT1.out.one.storeCap ((γ : Int) * 16) true V V2 hV hV2).mono ?_
    rw [HMg.out.1]
    rintro e w4 ⟨rfl, h4, m4⟩
    have hT4 := HT1.out.first h4 m4
    obtain ⟨pa4, pb4, pc4, pd4, pe4, pf4⟩ := Hca.out.mod hT4.mod la na
    obtain ⟨qa4, qb4, qc4, qd4, qe4, qf4⟩ := Hcb.out.mod hT4.mod lb nb
    have HT4 := Lib.hid hT4
    clear h4 m4 hT4
    go_wp2_with (fail)
    refine (HT4.out.two.storeCap ((γ : Int) * 16) true V V2 hV hV2).mono ?_
    rw [HMg.out.1]
    rintro e w5 ⟨rfl, h5, m5⟩
    have hT5 := HT4.out.second h5 m5
    obtain ⟨pa5, pb5, pc5, pd5, pe5, pf5⟩ := Hca.out.mod hT5.mod la na
    obtain ⟨qa5, qb5, qc5, qd5, qe5, qf5⟩ := Hcb.out.mod hT5.mod lb nb
    have HT5 := Lib.hid hT5
    clear h5 m5 hT5
    clear pa4 pb4 pc4 pd4 pe4 pf4 qa4 qb4 qc4 qd4 qe4 qf4
    go_wp2_with (fail)
    refine (HT5.out.one.store (a : Int) (x : Int) A hA).mono ?_
    rw [HE.out.1]
    rintro e w6 ⟨rfl, h6, m6⟩
    have hT6 := HT5.out.first h6 m6
    obtain ⟨pa6, pb6, pc6, pd6, pe6, pf6⟩ := Hca.out.mod hT6.mod la na
    obtain ⟨qa6, qb6, qc6, qd6, qe6, qf6⟩ := Hcb.out.mod hT6.mod lb nb
    have HT6 := Lib.hid hT6
    clear h6 m6 hT6
    go_wp2_with (fail)
    refine (HT6.out.one.store (b : Int) (y : Int) A2 hA2).mono ?_
    rw [HE.out.2.1]
    rintro e w7 ⟨rfl, h7, m7⟩
    have hT7 := HT6.out.first h7 m7
    obtain ⟨pa7, pb7, pc7, pd7, pe7, pf7⟩ := Hca.out.mod hT7.mod la na
    obtain ⟨qa7, qb7, qc7, qd7, qe7, qf7⟩ := Hcb.out.mod hT7.mod lb nb
    have HT7 := Lib.hid hT7
    clear h7 m7 hT7
    go_wp2_with (fail)
    refine (HT7.out.two.store (b : Int) (y : Int) A2 hA2).mono ?_
    rw [HE.out.2.2.1]
    rintro e w8 ⟨rfl, h8, m8⟩
    have hT8 := HT7.out.second h8 m8
    obtain ⟨pa8, pb8, pc8, pd8, pe8, pf8⟩ := Hca.out.mod hT8.mod la na
    obtain ⟨qa8, qb8, qc8, qd8, qe8, qf8⟩ := Hcb.out.mod hT8.mod lb nb
    have HT8 := Lib.hid hT8
    clear h8 m8 hT8
    go_wp2_with (fail)
    refine (HT8.out.two.store (a : Int) (x : Int) A hA).mono ?_
    rw [HE.out.2.2.2]
    rintro e w9 ⟨rfl, h9, m9⟩
    have hT9 := HT8.out.second h9 m9
    obtain ⟨pa9, pb9, pc9, pd9, pe9, pf9⟩ := Hca.out.mod hT9.mod la na
    obtain ⟨qa9, qb9, qc9, qd9, qe9, qf9⟩ := Hcb.out.mod hT9.mod lb nb
    have HT9 := Lib.hid hT9
    clear h9 m9 hT9
    go_wp2_with (fail)
    refine HT9.out.one.tagged.mono ?_
    rintro e w10 ⟨v1, rfl, i1, _, _, m10⟩
    have HT10 := Lib.hid (HT9.out.nil m10)
    have HI1 := Lib.hid i1
    clear i1 m10
    go_wp2_with (fail)
    refine HT10.out.two.tagged.mono ?_
    rintro e w11 ⟨v2, rfl, i2, _, _, m11⟩
    have HT11 := Lib.hid (HT10.out.nil m11)
    have HI2 := Lib.hid i2
    have HI1' := Lib.hid (HI1.out.keep m11 fun _ _ x => x)
    clear i2 m11
    go_wp2_with (fail)
    refine (same_ints _ _ _ _ _ HI1'.out HI2.out).mono ?_
    rintro e w12 ⟨rfl, m12⟩
    have HT12 := Lib.hid (HT11.out.nil m12)
    clear m12 HI1 HI2 HI1' HT1 HT4 HT5 HT6 HT7 HT8 HT9 HT10 HT11 HE Hca Hcb
    go_wp2_with (fail)
    go_loopw [15] (fun i wr => ∃ o : Nat, o ≤ 4096 ∧ o % 8 = 0 ∧ i = .int .i64 (o : Int) ∧ wr = w12) (fun i _ => 4096 - (intOf i).toNat)
    case atStart => exact ⟨0, Nat.zero_le _, rfl, rfl, rfl⟩
    case round =>
      obtain ⟨o, ho, ho8, rfl, rfl⟩ := hrel
      by_cases hon : o < 4096
      · obtain ⟨z, hz⟩ : ∃ z, z = (P.load (o : Int) 8).1 := ⟨_, rfl⟩
        have HZ := Lib.hid hz
        clear hz
        go_wp2_with (fail)
        refine (HT12.out.one.load (o : Int) 8).mono ?_
        rw [← HZ.out]
        rintro e w' ⟨rfl, rfl⟩
        go_wp2_with (fail)
        refine (HT12.out.two.load (o : Int) 8).mono ?_
        rw [← HZ.out]
        rintro e w' ⟨rfl, rfl⟩
        go_wp2
        go_roundw
        case rel => exact ⟨o + 8, by omega, by omega, by go_num, trivial⟩
        case measure => simp [intOf]; omega
      · obtain rfl : o = 4096 := by omega
        go_upto_region 24 with fail
        go_cut [20] from 154 to 179 (fun c wx => c = .bool (decide (((γ : Int) * 16 ≤ (a : Int) + (x : Int) - 1 ∧ (a : Int) ≤ (γ : Int) * 16 + 15) ∨ ((γ : Int) * 16 ≤ (b : Int) + (y : Int) - 1 ∧ (b : Int) ≤ (γ : Int) * 16 + 15))) ∧ wx = wr)
        case first =>
          go_wp2_with (fail)
          all_goals
            go_meet
            refine ⟨congrArg Value.bool ?_, rfl⟩
            first | (symm; exact decide_eq_true (by omega)) | (symm; exact decide_eq_false (by omega)) | (rw [decide_eq_decide]; omega) | (rw [Bool.eq_iff_iff]; simp only [Bool.or_eq_true, decide_eq_true_eq]; omega)
        case rest =>
          obtain ⟨rfl, rfl⟩ := hcut
          have hX := HX.out
          have hY := HY.out
          have hPt := tagged_none P γ (HP.out.1.trans HMg.out.2.1) γ4 fun g hg => by
            rw [HP.out.2]
            dsimp only
            split
            · rfl
            · rw [HMg.out.2.2]
              exact if_neg hg
          have hPg : P.T γ = false ↔ (((γ : Int) * 16 ≤ (a : Int) + (x : Int) - 1 ∧ (a : Int) ≤ (γ : Int) * 16 + 15) ∨ ((γ : Int) * 16 ≤ (b : Int) + (y : Int) - 1 ∧ (b : Int) ≤ (γ : Int) * 16 + 15)) := by
            rw [HP.out.2]
            dsimp only
            by_cases hin : γ = a / 16 ∨ γ = (a + x - 1) / 16 ∨ γ = b / 16 ∨ γ = (b + y - 1) / 16
            · rw [if_pos hin]
              exact ⟨fun _ => by omega, fun _ => rfl⟩
            · rw [if_neg hin, HMg.out.2.2]
              dsimp only
              rw [if_pos rfl]
              exact ⟨fun h => by simp at h, fun h => absurd h (by omega)⟩
          have hiff := hPt.trans hPg
          have hdec : decide (P.tagged.length = 0) = decide (((γ : Int) * 16 ≤ (a : Int) + (x : Int) - 1 ∧ (a : Int) ≤ (γ : Int) * 16 + 15) ∨ ((γ : Int) * 16 ≤ (b : Int) + (y : Int) - 1 ∧ (b : Int) ≤ (γ : Int) * 16 + 15)) := decide_eq_decide.2 hiff
          rw [← hdec]
          clear hPt hPg hiff hdec hX hY
          by_cases hl0 : P.tagged.length = 0
          · rw [decide_eq_true hl0]
            have HL0 := Lib.hid hl0
            clear hl0
            go_wp2_with (fail)
            refine HT12.out.one.tagged.mono ?_
            rw [HL0.out]
            rintro e w13 ⟨v3, rfl, i3, _, h3, _⟩
            obtain ⟨A3, c3, rfl, _, _, _⟩ := i3
            have H3 := Lib.hid h3
            clear h3
            go_wp2_with (fail)
            refine (known_any _).mono ?_
            rintro e w7 ⟨rfl, hb7⟩
            have hb := H3.out.below.trans (hb7.mono H3.out.below.size)
            go_wp2
            go_ret
            exact ⟨rfl, hb⟩
          · rw [decide_eq_false hl0]
            obtain ⟨l, hl⟩ : ∃ l, l = P.tagged.length := ⟨_, rfl⟩
            rw [← hl] at hl0
            have hlz : (((l : Int) == 0) : Bool) = false := by simp; exact hl0
            have HL := Lib.hid hl
            clear hl hl0
            go_wp2_with (fail)
            refine HT12.out.one.tagged.mono ?_
            rw [← HL.out]
            rintro e w13 ⟨v3, rfl, i3, _, h3, _⟩
            obtain ⟨A3, c3, rfl, _, _, _⟩ := i3
            have H3 := Lib.hid h3
            clear h3
            go_wp2_with (fail)
            refine (known_any _).mono ?_
            rintro e w7 ⟨rfl, hb7⟩
            have hb := H3.out.below.trans (hb7.mono H3.out.below.size)
            go_wp2
            go_ret
            exact ⟨rfl, hb⟩

theorem apart_walk {H : Type} {enc : TypeId × Value → H} (W : World) {r0 r1 : Reach} {b0 b1 : Nat} (v0 : Value) {d0 d1 : DataW H} {p0 p1 : List MemPlace}
    (ok0 : Value.okWide Try.prog W r0 b0 30 v0) (h0 : DataW.Trod enc Try.prog W 0 (fun _ => true) true 30 v0 d0 p0)
    (v1 : Value) (ok1 : Value.okWide Try.prog W r1 b1 30 v1) (h1 : DataW.Trod enc Try.prog W 0 (fun _ => true) true 30 v1 d1 p1) :
    Calls Try.prog 5 #[v0, v1] W (fun e w' => e = .returned (.bool true) ∧ Below W.heap.size W w') := by
  obtain ⟨a, rfl, ha⟩ := read_actArg ok0 h0
  obtain ⟨b, rfl, hb⟩ := read_actArg ok1 h1
  exact apart_any a.K a.O a.S a.T a.A a.M b.K b.O b.S b.T b.A b.M W ha.1 ha.2 hb.1 hb.2

end Go.Proofs.Ythpjedbkdepglaa
