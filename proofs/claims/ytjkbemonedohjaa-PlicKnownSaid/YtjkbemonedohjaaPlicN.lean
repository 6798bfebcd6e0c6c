/- PlicKnown returns true. No condition. -/
import Derived.Test.YtjkbemonedohjaaPlicH
import Derived.Deep.RegionLaw
namespace Go.Proofs.Ytjkbemonedohjaa
open Go.RowKit Go.ChangeShapes Go.WideShapes Go.Deep
attribute [local go_sem ↓] Go.wp_at_zero Go.wp_at_succ
attribute [local irreducible] wordOf

theorem info_op : (Try.prog.info? 31).map (fun i => (i.zero, i.size, i.bytes)) = some (some (.agg #[.int .i64 0, .int .i64 0, .int .i64 0, .int .u64 0, .int .u32 0]), 5, 40) := by kernel_rfl

/-- Calls of one's own, n of them. -/
def OwnOps (w : World) (B : Nat) (v : Value) (n : Nat) : Prop := ∃ L : List OpV, L.length = n ∧ (∀ o ∈ L, o.ok) ∧ w.ownsRow B 31 5 v n (L.flatMap fun o => o.cells.toList)

theorem flat_at (L : List OpV) (k j : Nat) (hk : k < L.length) (hj : j < 5) : (L.flatMap fun o => o.cells.toList)[k * 5 + j]? = (L.getD k ⟨0, 0, 0, 0, 0⟩).cells.toList[j]? := by
  induction L generalizing k with
  | nil => simp at hk
  | cons o L ih =>
    have hl : o.cells.toList.length = 5 := rfl
    rw [List.flatMap_cons]
    rcases k with _ | k
    · rw [List.getElem?_append_left (by omega), Nat.zero_mul, Nat.zero_add]
      rfl
    · rw [List.getElem?_append_right (by omega), hl, show (k + 1) * 5 + j - 5 = k * 5 + j from by omega, ih k (by simpa using hk)]
      rfl

theorem OwnOps.at {w : World} {B : Nat} {v : Value} {n : Nat} (h : OwnOps w B v n) (hn : 0 < n) (from_ m : Nat) (hm : from_ + m ≤ n) :
    ∃ g cap L, v = .slice (some ⟨g, 0, none⟩) n cap ∧ n ≤ cap ∧ B ≤ g ∧ g < w.heap.size ∧ OpsAt w (some ⟨g, from_ * 5, none⟩) m L := by
  obtain ⟨L, hl, hok, hr⟩ := h
  obtain ⟨g, cap, rfl, hb, hlt⟩ := hr.form hn
  have hc : n ≤ cap := by
    obtain ⟨A, c, e, hc⟩ := owns_form hr
    injection e with e1 e2 e3
    omega
  refine ⟨g, cap, fun k => L.getD (from_ + k) ⟨0, 0, 0, 0, 0⟩, rfl, hc, hb, hlt, fun k hk => ⟨g, from_ * 5, rfl, hlt, ?_, ?_⟩⟩
  · refine hok _ ?_
    show L.getD (from_ + k) ⟨0, 0, 0, 0, 0⟩ ∈ L
    rw [List.getD_eq_getElem?_getD, List.getElem?_eq_getElem (by omega)]
    exact List.getElem_mem _
  · have hcell : ∀ j, j < 5 → w.cell? ⟨g, from_ * 5 + k * 5 + j, none⟩ = (L.getD (from_ + k) ⟨0, 0, 0, 0, 0⟩).cells.toList[j]? := by
      intro j hj
      rw [show from_ * 5 + k * 5 + j = (from_ + k) * 5 + j from by omega, hr.cellAt _ (by omega), flat_at L (from_ + k) j (by omega) hj]
    exact ⟨hcell 0 (by omega), hcell 1 (by omega), hcell 2 (by omega), hcell 3 (by omega), hcell 4 (by omega)⟩

theorem OwnOps.mod {w w' : World} {B : Nat} {v : Value} {n : Nat} {F : Nat → Prop} (h : OwnOps w B v n) (hm : Mod F w w') (hF : ∀ g, v.ownBlock = some g → ¬ F g) : OwnOps w' B v n := by
  obtain ⟨L, hl, hok, hr⟩ := h
  exact ⟨L, hl, hok, hm.owns hr hF⟩
theorem OwnOps.below {w w' : World} {B : Nat} {v : Value} {n : Nat} (h : OwnOps w B v n) (hb : Below w.heap.size w w') : OwnOps w' B v n := h.mod (Mod.of_below hb Nil) fun _ _ x => x

theorem lit_new (w : World) (cs : List Value) (t : TypeId) : ∀ (j : Nat) (u : Value), cs[j]? = some u → (w.alloc (.cells cs.toArray t)).cell? ((⟨w.heap.size, 0, none⟩ : Addr).add j) = some u := by
  intro j u h
  have hj : j < cs.length := (List.getElem?_eq_some_iff.1 h).1
  have hr := World.rowIs_alloc w cs.toArray t (fun i => cs.getD i (.bool false)) fun i hi => by
    have hi : i < cs.length := by simpa using hi
    simp [List.getElem?_eq_getElem hi]
  have hc := hr.cell (i := j) (by simpa using hj)
  have ha : (⟨w.heap.size, 0, none⟩ : Addr).add j = ⟨w.heap.size, j, none⟩ := by
    unfold Addr.add
    by_cases e : j = 0 <;> simp [e]
  rw [ha, hc, List.getD_eq_getElem?_getD, h]
  rfl

theorem lit3 (w : World) (t : TypeId) : Ints (w.alloc (.cells #[.int .u32 0, .int .u32 4294967295, .int .u32 6] t)) .u32 (.slice (some ⟨w.heap.size, 0, none⟩) 3 3) 3 (fun i => [(0 : Int), 4294967295, 6].getD i 0) :=
  ⟨_, _, rfl, by omega, by decide, fun _ => ⟨w.heap.size, 0, rfl, by simp, fun i hi => by
    rcases i with _ | _ | _ | i
    · simp
    · simp
    · simp
    · omega⟩⟩
theorem OpsAt.below {w w' : World} {A : Option Addr} {n : Nat} {L : Nat → OpV} (h : OpsAt w A n L) (hb : Below w.heap.size w w') : OpsAt w' A n L := by
  intro k hk
  obtain ⟨b, off, e, hl, hok, hc⟩ := h k hk
  exact ⟨b, off, e, Nat.lt_of_lt_of_le hl hb.size, hok, hc.below hb hl⟩

def kOffs : List Int := [-4, 0, 4, 5, 124, 128, 0xFFC, 0x1000, 0x1004, 0x2000, 0x2004, 0x2080, 0x2100, 0x200000, 0x200004, 0x200008, 0x201000, 0x201004, 0x202000, 0x202004, -9223372036854775808, 9223372036854775804]

set_option maxHeartbeats 16000000 in
set_option maxRecDepth 100000 in
theorem plic_known (W : World) : Calls Try.prog 4 #[] W (fun e w' => e = .returned (.bool true) ∧ Below W.heap.size W w') := by
  obtain ⟨i0, hi, hz0, hz1, hz2⟩ := info_parts info_op
  go_enter Try.func4, Try.ntmps4
  go_wp2_with (fail)
  have hl : (W.alloc (.cells (kOffs.map (Value.int .i64)).toArray 3)).rowIs W.heap.size 3 22 (fun i => .int .i64 (kOffs.getD i 0)) := World.rowIs_alloc _ _ _ _ fun i hi => by
    have hi : i < kOffs.length := by simpa using hi
    simp [List.getElem?_eq_getElem hi]
  have hb0 : Below W.heap.size W (W.alloc (.cells (kOffs.map (Value.int .i64)).toArray 3)) := (Below.refl _ W).alloc (Nat.le_refl _) _
  have HL := Lib.hid hl
  have HB0 := Lib.hid hb0
  clear hl hb0
  go_loopw [2, 3] (fun v i wr => ∃ q : Nat, q ≤ 31 ∧ i = .int .i64 ((q : Int) + 1) ∧ OwnOps wr (W.heap.size + 1) v q ∧ wr.rowIs W.heap.size 3 22 (fun i => .int .i64 (kOffs.getD i 0)) ∧ Below W.heap.size W wr) (fun _ i _ => 32 - (intOf i).toNat)
  case atStart => exact ⟨0, by omega, rfl, ⟨[], rfl, (fun _ h => by cases h), World.ownsRow_nil _ _ _ _⟩, HL.out, HB0.out⟩
  case round =>
    obtain ⟨q, hq, rfl, ho, hr, hb⟩ := hrel
    by_cases hqn : q < 31
    · obtain ⟨L, hl, hok, ho⟩ := ho
      have HO := Lib.hid ho
      have HOK := Lib.hid hok
      have HR := Lib.hid hr
      have HB := Lib.hid hb
      have HLn := Lib.hid hl
      have hlt := hr.lt
      clear ho hok hr hb hl
      obtain ⟨x, hx⟩ : ∃ x : Nat, x = (q + 1) * 5 % 11 := ⟨_, rfl⟩
      have hx1 : ((q : Int) + 1) * 5 % 11 = (x : Int) := by omega
      have hx2 : x < 11 := by omega
      clear hx
      go_wp2_with (at_builtin; refine wpList_append_lies _ rfl _ _ 22 rfl (W.heap.size + 1) 31 i0 _ 5 40 Try.underlying22 hi hz0 hz1 hz2 rfl (by decide) _ q _ rfl (HO.out.alloc _) ⟨wr.heap.size, 0, none⟩ 1 1 [.int .i64 2, .int .i64 (4 * ((q : Int) + 1)), .int .i64 4, .int .u64 (x : Int), .int .u32 0] rfl rfl ?c1 ?c2 (by decide) ?c3 ?c4 ?c5 _ rfl ?_; rotate_right; intro g' cap' w4 hown hgrow hat hlt')
      case c1 => exact lit_new wr [.int .i64 2, .int .i64 (4 * ((q : Int) + 1)), .int .i64 4, .int .u64 (x : Int), .int .u32 0] _
      case c2 => intro u hu; simp only [List.mem_cons, List.not_mem_nil, or_false] at hu; rcases hu with rfl | rfl | rfl | rfl | rfl <;> rfl
      case c3 => simp only [maxLen]; omega
      case c4 => omega
      case c5 => rw [World.size_alloc]; omega
      go_roundw
      case rel =>
        have hm : Mod (fun k => W.heap.size + 1 ≤ k) wr w4 := ((Mod.refl _ wr).alloc _).grown hgrow fun k hk => .inl (HO.out.lt k hk).1
        refine ⟨q + 1, by omega, by go_num, ⟨L ++ [⟨2, 4 * ((q : Int) + 1), 4, x, 0⟩], by rw [List.length_append, HLn.out]; rfl, ?_, by rw [List.flatMap_append]; exact hown⟩, hm.row HR.out (by omega), HB.out.trans (hm.toBelow HB.out.size fun k hk => by omega)⟩
        intro o ho
        rcases List.mem_append.1 ho with ho | ho
        · exact HOK.out o ho
        · rw [List.mem_singleton] at ho
          subst ho
          exact ⟨by show x < _; omega, by show 0 < _; decide⟩
      case measure => simp [intOf]; omega
    · rw [show ((q : Nat) : Int) = 31 from by omega]
      obtain rfl : q = 31 := by omega
      obtain ⟨L, hl, hok, ho⟩ := ho
      have HO := Lib.hid ho
      have HOK := Lib.hid hok
      have HR := Lib.hid hr
      have HB := Lib.hid hb
      have HLn := Lib.hid hl
      have hlt := hr.lt
      clear ho hok hr hb hl HL HB0
      go_wp2_with (at_builtin; refine wpList_append_lies _ rfl _ _ 22 rfl (W.heap.size + 1) 31 i0 _ 5 40 Try.underlying22 hi hz0 hz1 hz2 rfl (by decide) _ 31 _ rfl (HO.out.alloc _) ⟨wr.heap.size, 0, none⟩ 3 3 [.int .i64 2, .int .i64 8192, .int .i64 4, .int .u64 4294967295, .int .u32 0, .int .i64 2, .int .i64 8320, .int .i64 4, .int .u64 4042322161, .int .u32 0, .int .i64 0, .int .i64 0, .int .i64 0, .int .u64 0, .int .u32 4294967295] rfl rfl ?e1 ?e2 (by decide) ?e3 ?e4 ?e5 _ rfl ?_; rotate_right; intro g' cap' w4 hown hgrow hat hlt')
      case e1 => exact lit_new wr [.int .i64 2, .int .i64 8192, .int .i64 4, .int .u64 4294967295, .int .u32 0, .int .i64 2, .int .i64 8320, .int .i64 4, .int .u64 4042322161, .int .u32 0, .int .i64 0, .int .i64 0, .int .i64 0, .int .u64 0, .int .u32 4294967295] _
      case e2 => intro u hu; simp only [List.mem_cons, List.not_mem_nil, or_false] at hu; rcases hu with rfl | rfl | rfl | rfl | rfl | rfl | rfl | rfl | rfl | rfl | rfl | rfl | rfl | rfl | rfl <;> rfl
      case e3 => simp only [maxLen]; omega
      case e4 => omega
      case e5 => rw [World.size_alloc]; omega
      have hm : Mod (fun k => W.heap.size + 1 ≤ k) wr w4 := ((Mod.refl _ wr).alloc _).grown hgrow fun k hk => .inl (HO.out.lt k hk).1
      have hOW : OwnOps w4 (W.heap.size + 1) (.slice (some ⟨g', 0, none⟩) 34 cap') 34 := ⟨L ++ [⟨2, 8192, 4, 4294967295, 0⟩, ⟨2, 8320, 4, 4042322161, 0⟩, ⟨0, 0, 0, 0, 4294967295⟩], by rw [List.length_append, HLn.out]; rfl, by
        intro o ho
        rcases List.mem_append.1 ho with ho | ho
        · exact HOK.out o ho
        · simp only [List.mem_cons, List.not_mem_nil, or_false] at ho
          rcases ho with rfl | rfl | rfl <;> exact ⟨by decide, by decide⟩, by rw [List.flatMap_append]; exact hown⟩
      have HOW := Lib.hid hOW
      have HR4 := Lib.hid (hm.row HR.out (by omega))
      have HB4 := Lib.hid (HB.out.trans (hm.toBelow HB.out.size fun k hk => by omega))
      clear hm hOW hown hgrow hat hlt' HO HOK HR HB HLn
      go_loopw [2, 4] (fun v i wr => ∃ k : Nat, k ≤ 22 ∧ i = .int .i64 (k : Int) ∧ OwnOps wr (W.heap.size + 1) v (34 + 12 * k) ∧ wr.rowIs W.heap.size 3 22 (fun i => .int .i64 (kOffs.getD i 0)) ∧ Below W.heap.size W wr) (fun _ i _ => 22 - (intOf i).toNat)
      case atStart => exact ⟨0, by omega, rfl, HOW.out, HR4.out, HB4.out⟩
      case round =>
        obtain ⟨k, hk, rfl, ho, hr, hb⟩ := hrel
        obtain ⟨wo, rfl⟩ : ∃ wo : World, wo = wr := ⟨_, rfl⟩
        have HO := Lib.hid ho
        have HR := Lib.hid hr
        have HB := Lib.hid hb
        clear ho hr hb HOW HR4 HB4
        by_cases hkn : k < 22
        · have k0 : (0 : Int) ≤ (k : Int) := by omega
          have k1 : (k : Int) < 22 := by omega
          go_wp2_with (fail)
          go_loopw [2, 5] (fun v z wr => ∃ j : Nat, j ≤ 3 ∧ z = .int .i64 (4 * (j : Int)) ∧ OwnOps wr (W.heap.size + 1) v (34 + 12 * k + 4 * j) ∧ wr.rowIs W.heap.size 3 22 (fun i => .int .i64 (kOffs.getD i 0)) ∧ Below W.heap.size W wr) (fun _ z _ => 12 - (intOf z).toNat)
          case atStart => exact ⟨0, by omega, rfl, HO.out, HR.out, HB.out⟩
          case round =>
            obtain ⟨j, hj, rfl, ho, hr, hb⟩ := hrel
            have HO2 := Lib.hid ho
            have HR2 := Lib.hid hr
            have HB2 := Lib.hid hb
            clear ho hr hb
            by_cases hjn : j < 3
            · have ck := HR2.out.cell hkn
              obtain ⟨z, hz⟩ : ∃ z, kOffs.getD k 0 = z := ⟨_, rfl⟩
              rw [hz] at ck
              have HZ := Lib.hid hz
              clear hz
              obtain ⟨L, hl, hok, ho⟩ := HO2.out
              have HO3 := Lib.hid ho
              have HOK := Lib.hid hok
              have HLn := Lib.hid hl
              clear ho hok hl HO2
              obtain ⟨y, hy, hyl⟩ : ∃ y : Nat, (IntKind.u32.wrap (252645135 * 2 ^ min (IntKind.u64.wrap ((k : Int).tmod 4)).toNat 32)) = (y : Int) ∧ y < 4294967296 := by
                have h := Int.emod_nonneg (252645135 * 2 ^ min (IntKind.u64.wrap ((k : Int).tmod 4)).toNat 32) (show (4294967296 : Int) ≠ 0 by decide)
                have h2 := Int.emod_lt_of_pos (252645135 * 2 ^ min (IntKind.u64.wrap ((k : Int).tmod 4)).toNat 32) (show (0 : Int) < 4294967296 by decide)
                rw [IntKind.wrap_u32]
                exact ⟨_, (Int.toNat_of_nonneg h).symm, by omega⟩
              obtain ⟨x, hx, hxl⟩ : ∃ x : Nat, (IntKind.u64.wrap (18446744069414584326 + IntKind.u64.wrap (k : Int))) = (x : Int) ∧ x < 18446744073709551616 := by
                have h := Int.emod_nonneg (18446744069414584326 + IntKind.u64.wrap (k : Int)) (show (18446744073709551616 : Int) ≠ 0 by decide)
                have h2 := Int.emod_lt_of_pos (18446744069414584326 + IntKind.u64.wrap (k : Int)) (show (0 : Int) < 18446744073709551616 by decide)
                rw [IntKind.wrap_u64]
                exact ⟨_, (Int.toNat_of_nonneg h).symm, by omega⟩
              have hone : ∀ u ∈ [Value.int .i64 1, .int .i64 z, .int .i64 (4 * (j : Int)), .int .u64 0, .int .u32 0, .int .i64 2, .int .i64 z, .int .i64 (4 * (j : Int)), .int .u64 (x : Int), .int .u32 0, .int .i64 0, .int .i64 0, .int .i64 0, .int .u64 0, .int .u32 (y : Int), .int .i64 3, .int .i64 0, .int .i64 0, .int .u64 0, .int .u32 0], u.oneCell' = true := by
                intro u hu; simp only [List.mem_cons, List.not_mem_nil, or_false] at hu; rcases hu with rfl | rfl | rfl | rfl | rfl | rfl | rfl | rfl | rfl | rfl | rfl | rfl | rfl | rfl | rfl | rfl | rfl | rfl | rfl | rfl <;> rfl
              have HON := Lib.hid hone
              clear hone
              have hbytes : (34 + 12 * k + 4 * j + 4) * 40 ≤ 140737488355328 := by omega
              have h63 : 34 + 12 * k + 4 * j + 4 ≤ maxLen := by simp only [maxLen]; omega
              have HBY := Lib.hid hbytes
              have H63 := Lib.hid h63
              have hbs := HB2.out.size
              have hlt2 := HR2.out.lt
              have hsz1 : W.heap.size + 1 ≤ (wr.alloc (.cells #[Value.int .i64 1, .int .i64 z, .int .i64 (4 * (j : Int)), .int .u64 0, .int .u32 0, .int .i64 2, .int .i64 z, .int .i64 (4 * (j : Int)), .int .u64 (x : Int), .int .u32 0, .int .i64 0, .int .i64 0, .int .i64 0, .int .u64 0, .int .u32 (y : Int), .int .i64 3, .int .i64 0, .int .i64 0, .int .u64 0, .int .u32 0] 31)).heap.size := by rw [World.size_alloc]; omega
              have HSZ := Lib.hid hsz1
              clear hbytes h63 hsz1
              go_wp2_with (fail)
              go_region_law ((refine step_append_lies _ rfl (.tmp 37) (.tmp 59) 22 rfl (W.heap.size + 1) 31 i0 _ 5 40 Try.underlying22 hi hz0 hz1 hz2 rfl (by decide) _ (34 + 12 * k + 4 * j) _ (by simp [Act.eval]) ((HO3.out.alloc _).drew) ⟨wr.heap.size, 0, none⟩ 4 4 [Value.int .i64 1, .int .i64 z, .int .i64 (4 * (j : Int)), .int .u64 0, .int .u32 0, .int .i64 2, .int .i64 z, .int .i64 (4 * (j : Int)), .int .u64 (x : Int), .int .u32 0, .int .i64 0, .int .i64 0, .int .i64 0, .int .u64 0, .int .u32 (y : Int), .int .i64 3, .int .i64 0, .int .i64 0, .int .u64 0, .int .u32 0] (by simp [Act.eval]) rfl (lit_new wr _ _) HON.out (by decide) H63.out HBY.out HSZ.out _ rfl ?_; intro g2 cap2 w4 hown hgrow hat hlt'))
              all_goals
                have hmd : Mod (fun k => W.heap.size + 1 ≤ k) wr w4 := (((Mod.refl _ wr).alloc _).drew).grown hgrow fun k hk => .inl (HO3.out.lt k hk).1
                have hOW : OwnOps w4 (W.heap.size + 1) (.slice (some ⟨g2, 0, none⟩) (34 + 12 * k + 4 * j + 4) cap2) (34 + 12 * k + 4 * j + 4) := ⟨L ++ [⟨1, z, 4 * (j : Int), 0, 0⟩, ⟨2, z, 4 * (j : Int), x, 0⟩, ⟨0, 0, 0, 0, y⟩, ⟨3, 0, 0, 0, 0⟩], by rw [List.length_append, HLn.out]; rfl, by
                  intro o ho
                  rcases List.mem_append.1 ho with ho | ho
                  · exact HOK.out o ho
                  · simp only [List.mem_cons, List.not_mem_nil, or_false] at ho
                    rcases ho with rfl | rfl | rfl | rfl
                    · exact ⟨by show 0 < _; decide, by show 0 < _; decide⟩
                    · exact ⟨hxl, by show 0 < _; decide⟩
                    · exact ⟨by show 0 < _; decide, hyl⟩
                    · exact ⟨by show 0 < _; decide, by show 0 < _; decide⟩, by rw [List.flatMap_append]; exact hown⟩
                obtain ⟨g3, cap3, L3, e3, hcap, _, hg2l, hops⟩ := hOW.at (by omega) 0 34 (by omega)
                injection e3 with e31 e32 e33
                injection e31 with e31
                injection e31 with e31
                subst e31 e33
                rw [Nat.zero_mul] at hops
                have HOPS := Lib.hid hops
                have HOW5 := Lib.hid hOW
                have HR5 := Lib.hid (hmd.row HR2.out (by omega))
                have HB5 := Lib.hid (HB2.out.trans (hmd.toBelow HB2.out.size fun k hk => by omega))
                have hlt5 := HR5.out.lt
                have ck5 := HR5.out.cell hkn
                rw [HZ.out] at ck5
                clear hmd hOW hown hgrow hat hops
                obtain ⟨v, hv, hvl⟩ : ∃ v : Nat, (IntKind.u64.wrap (9223372036854775808 + IntKind.u64.wrap (IntKind.i64.wrap (7 * (k : Int))))) = (v : Int) ∧ v < 18446744073709551616 := by
                  have h := Int.emod_nonneg (9223372036854775808 + IntKind.u64.wrap (IntKind.i64.wrap (7 * (k : Int)))) (show (18446744073709551616 : Int) ≠ 0 by decide)
                  have h2 := Int.emod_lt_of_pos (9223372036854775808 + IntKind.u64.wrap (IntKind.i64.wrap (7 * (k : Int)))) (show (0 : Int) < 18446744073709551616 by decide)
                  rw [IntKind.wrap_u64]
                  exact ⟨_, (Int.toNat_of_nonneg h).symm, by omega⟩
                have hc1 : ¬ (cap2 : Int) < 34 := by omega
                clear hx hy
                go_wp2_with (fail)
                have hR := regs_any (some ⟨g2, 0, none⟩) 34 cap2 L3 z (4 * (j : Int)) v w4.drew (by omega) hvl HOPS.out
                have HRG := Lib.hid hR
                clear hR
                go_region_held3 (fun w' => w'.cell? ⟨W.heap.size, k, none⟩ = some (.int .i64 z)) (first | exact (hb6.cell (p := ⟨W.heap.size, k, none⟩) hlt5).trans ck5 | exact ck5 | go_keep) (first | (go_at_call 16; refine HRG.out.mono ?_; rintro e w6 ⟨rfl, hb6⟩))
                have hb6 : Below w4.heap.size w4 w6 := ⟨hb6.os, hb6.tape, hb6.output, hb6.size, hb6.block⟩
                have HOW6 := Lib.hid (HOW5.out.below hb6)
                have HR6 := Lib.hid (HR5.out.of_block (hb6.block _ hlt5))
                have HB6 := Lib.hid (HB5.out.trans (hb6.mono HB5.out.size))
                clear hb6 HRG
                go_wp2
                go_roundw
                case rel => exact ⟨j + 1, by omega, by go_num, HOW6.out, HR6.out, HB6.out⟩
                case measure => simp [intOf]; omega
            · rw [show 4 * ((j : Nat) : Int) = 12 from by omega]
              obtain rfl : j = 3 := by omega
              obtain ⟨g, cap, L, rfl, hcap, _, hgl, hops⟩ := HO2.out.at (by omega) 0 (34 + k) (by omega)
              rw [Nat.zero_mul] at hops
              have HOPS := Lib.hid hops
              clear hops
              have hc1 : ¬ (cap : Int) < 34 + (k : Int) := by omega
              by_cases hpar : k % 2 = 0
              · have hz2 : (((k : Int) % 2 == 0) : Bool) = true := by simp only [beq_iff_eq]; omega
                go_wp2_with (fail)
                refine (claims_1 (some ⟨g, 0, none⟩) (34 + k) cap L _ (by omega) HOPS.out).mono ?_
                rintro e w6 ⟨rfl, hb6⟩
                have hlt6 := HR2.out.lt
                have HOPS6 := Lib.hid (HOPS.out.below hb6)
                have HOW6 := Lib.hid (HO2.out.below hb6)
                have HR6 := Lib.hid (HR2.out.of_block (hb6.block _ hlt6))
                have HB6 := Lib.hid (HB2.out.trans (hb6.mono HB2.out.size))
                clear hb6
                go_wp2_with (fail)
                have hlt7 := HR6.out.lt
                refine (once_1 (some ⟨g, 0, none⟩) (34 + k) cap L _ 3 _ _ (by omega) (by omega) (HOPS6.out.below ((Below.refl _ w6).alloc (Nat.le_refl _) _)) (lit3 w6 _) ?_).mono ?_
                · intro i hi
                  rcases i with _ | _ | _ | i
                  · exact ⟨by decide, by decide⟩
                  · exact ⟨by decide, by decide⟩
                  · exact ⟨by decide, by decide⟩
                  · omega
                rintro e w7 ⟨rfl, hb7⟩
                have hb8 : Below w6.heap.size w6 w7 := ((Below.refl _ w6).alloc (Nat.le_refl _) _).trans (hb7.mono (by rw [World.size_alloc]; omega))
                have HOW8 := Lib.hid (HOW6.out.below hb8)
                have HR8 := Lib.hid (HR6.out.of_block (hb8.block _ hlt7))
                have HB8 := Lib.hid (HB6.out.trans (hb8.mono HB6.out.size))
                clear hb7 hb8
                go_wp2
                go_roundw
                case rel => exact ⟨k + 1, by omega, by go_num, HOW8.out, HR8.out, HB8.out⟩
                case measure => simp [intOf]; omega
              · have hz2 : (((k : Int) % 2 == 0) : Bool) = false := by simp only [beq_eq_false_iff_ne, ne_eq]; omega
                go_wp2_with (fail)
                refine (claims_0 (some ⟨g, 0, none⟩) (34 + k) cap L _ (by omega) HOPS.out).mono ?_
                rintro e w6 ⟨rfl, hb6⟩
                have hlt6 := HR2.out.lt
                have HOPS6 := Lib.hid (HOPS.out.below hb6)
                have HOW6 := Lib.hid (HO2.out.below hb6)
                have HR6 := Lib.hid (HR2.out.of_block (hb6.block _ hlt6))
                have HB6 := Lib.hid (HB2.out.trans (hb6.mono HB2.out.size))
                clear hb6
                go_wp2_with (fail)
                have hlt7 := HR6.out.lt
                refine (once_0 (some ⟨g, 0, none⟩) (34 + k) cap L _ 3 _ _ (by omega) (by omega) (HOPS6.out.below ((Below.refl _ w6).alloc (Nat.le_refl _) _)) (lit3 w6 _) ?_).mono ?_
                · intro i hi
                  rcases i with _ | _ | _ | i
                  · exact ⟨by decide, by decide⟩
                  · exact ⟨by decide, by decide⟩
                  · exact ⟨by decide, by decide⟩
                  · omega
                rintro e w7 ⟨rfl, hb7⟩
                have hb8 : Below w6.heap.size w6 w7 := ((Below.refl _ w6).alloc (Nat.le_refl _) _).trans (hb7.mono (by rw [World.size_alloc]; omega))
                have HOW8 := Lib.hid (HOW6.out.below hb8)
                have HR8 := Lib.hid (HR6.out.of_block (hb8.block _ hlt7))
                have HB8 := Lib.hid (HB6.out.trans (hb8.mono HB6.out.size))
                clear hb7 hb8
                go_wp2
                go_roundw
                case rel => exact ⟨k + 1, by omega, by go_num, HOW8.out, HR8.out, HB8.out⟩
                case measure => simp [intOf]; omega
        · rw [show ((k : Nat) : Int) = 22 from by omega]
          obtain rfl : k = 22 := by omega
          obtain ⟨g, cap, L, rfl, hcap, _, hgl, hops⟩ := HO.out.at (by omega) 0 298 (by omega)
          obtain ⟨g5, cap5, L5, e5, _, _, _, hops5⟩ := HO.out.at (by omega) 34 264 (by omega)
          injection e5 with e51 e52 e53
          injection e51 with e51
          injection e51 with e51
          subst e51 e53
          rw [Nat.zero_mul] at hops
          have HOPS := Lib.hid hops
          have HOPS5 := Lib.hid hops5
          have HOW := HO
          clear hops hops5 HO
          simp only [Nat.reduceMul, Nat.reduceAdd] at *
          have hc1 : ¬ (cap : Int) < 298 := by omega
          have hc2 : ¬ cap = 34 := by omega
          go_wp2_with (fail)
          refine (runs_any (some ⟨g, 0, none⟩) 298 cap L _ (by omega) HOPS.out).mono ?_
          rintro e w6 ⟨rfl, hb6⟩
          have HOPS6 := Lib.hid (HOPS5.out.below hb6)
          have HB6 := Lib.hid (HB.out.trans (hb6.mono HB.out.size))
          clear hb6
          go_wp2_with (fail)
          refine (runs_any _ 264 _ L5 _ (by omega) HOPS6.out).mono ?_
          rintro e w7 ⟨rfl, hb7⟩
          have HB7 := Lib.hid (HB6.out.trans (hb7.mono HB6.out.size))
          clear hb7
          go_wp2_with (fail)
          refine (works_any _).mono ?_
          rintro e w8 ⟨rfl, hb8⟩
          have hb := HB7.out.trans (hb8.mono HB7.out.size)
          go_wp2
          go_ret
          exact ⟨rfl, hb⟩

end Go.Proofs.Ytjkbemonedohjaa
