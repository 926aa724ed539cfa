import Derived.Test.YtfgeengdmbabhaaA4
import Derived.Test.YtfgeengdmbabhaaA5
namespace Go.Proofs.Ytfgeengdmbabhaa
open Go.RowKit
attribute [local go_sem ↓] Go.wp_at_zero Go.wp_at_succ

theorem rotZ_length (l : List Z2) : (rotZ l).length = l.length := by
  have := firstTo_le l l.length
  unfold rotZ; rw [List.length_append, List.length_drop, List.length_take]; omega
theorem normZ_three {ps : List Z2} (h : chkZ ps = 0) : 3 ≤ (normZ ps).length := by
  have h1 := corners_three h
  rw [normZ_pos h]
  unfold normR
  rw [rotZ_length]
  unfold corn
  split
  · rw [List.length_reverse]; exact h1
  · exact h1
theorem split58' (A : Option Addr) (n c : Nat) (ps : List Z2) (w : World) (hl : ps.length = n) (hsp : Sp w A ps) (hcap : n ≤ c) : Calls Try.prog 58 #[.slice A n c] w (RetSS (splitZ ps) (splitE ps) w) :=
  split58 A n c ps w hl hsp hcap normZ_three (normZ_mem (corners_mem _ (Nat.le_refl _)))

def bracketZ : List Z2 := [⟨0, 0⟩, ⟨4, 0⟩, ⟨4, 1⟩, ⟨1, 1⟩, ⟨1, 3⟩, ⟨0, 3⟩]
theorem bracket_split : splitZ bracketZ = [[⟨0, 0⟩, ⟨4, 0⟩, ⟨4, 1⟩], [⟨0, 0⟩, ⟨4, 1⟩, ⟨1, 1⟩], [⟨0, 3⟩, ⟨0, 0⟩, ⟨1, 1⟩], [⟨1, 1⟩, ⟨1, 3⟩, ⟨0, 3⟩]] ∧ splitE bracketZ = 0 ∧ splitZ (bracketZ.take 2) = [] ∧ splitE (bracketZ.take 2) = 11 := by decide +kernel
def tZ : List Z2 := [⟨0, 0⟩, ⟨4, 0⟩, ⟨0, 4⟩]
theorem t_holds : holdsZ tZ ⟨1, 1⟩ = 1 ∧ holdsZ tZ ⟨2, 2⟩ = 0 ∧ holdsZ tZ ⟨3, 2⟩ = -1 := by decide +kernel

/-- garmentlaw13.bracket -/
theorem bracket90 (w : World) : Calls Try.prog 90 #[] w fun e w' => e = .returned (.slice (some ⟨w.heap.size, 0, none⟩) 6 6) ∧ Sp w' (some ⟨w.heap.size, 0, none⟩) bracketZ ∧ Below w.heap.size w w' := by
  go_enter Try.func90, Try.ntmps90
  go_wp2
  go_ret
  refine ⟨rfl, ?_, below_alloc _ _⟩
  exact (Blk.new w 30 (flat bracketZ).toArray).sp

theorem many56 (A : Option Addr) (n c : Nat) (w : World) : Calls Try.prog 56 #[.slice A n c] w fun e w' => e = .returned (.bool (decide (60 < n))) ∧ w = w' := by
  go_enter Try.func56, Try.ntmps56
  go_wp2
  go_ret
  exact ⟨ret_bool (by rw [Bool.eq_iff_iff]; simp; omega), rfl⟩

theorem SSp.at {w : World} {A : Option Addr} {rs : List (List Z2)} (h : SSp w A rs) (hne : rs ≠ []) : ∃ b off, A = some ⟨b, off, none⟩ ∧ ∀ k, k < rs.length → ∃ A' c', w.cell? ⟨b, off + k, none⟩ = some (.slice A' (rs.getD k []).length c') ∧ (rs.getD k []).length ≤ c' ∧ Sp w A' (rs.getD k []) := h hne

set_option maxRecDepth 100000 in
set_option maxHeartbeats 4000000 in
/-- garmentlaw13.alive -/
theorem alive57 (w : World) : Calls Try.prog 57 #[] w fun e w' => e = .returned (.bool true) ∧ Below w.heap.size w w' := by
  go_enter Try.func57, Try.ntmps57
  go_wp2_with fail
  refine (bracket90 _).mono ?_
  rintro e w1 ⟨rfl, hs1, hb1⟩
  have H1 := Lib.hid (And.intro hs1 hb1)
  clear hs1 hb1
  go_wp2_with fail
  refine (split58' (some ⟨w.heap.size, 0, none⟩) 6 6 bracketZ _ rfl H1.out.1 (by omega)).mono ?_
  rintro e w2 ⟨A2, c2, rfl, hc2, hs2, hb2⟩
  rw [bracket_split.1, bracket_split.2.1]
  rw [bracket_split.1] at hs2
  have H2 := Lib.hid (And.intro hs2 (below_trans H1.out.2 hb2))
  clear hs2 hb2 hc2 H1
  go_wp2_with fail
  refine (bracket90 _).mono ?_
  rintro e w3 ⟨rfl, hs3, hb3⟩
  have H3 := Lib.hid (And.intro (H2.out.1.later hb3) (And.intro hs3 (below_trans H2.out.2 hb3)))
  clear hs3 hb3 H2
  go_wp2_with fail
  refine (split58' (some ⟨w2.heap.size, 0, none⟩) 2 6 (bracketZ.take 2) _ rfl (H3.out.2.1.take 2) (by omega)).mono ?_
  rintro e w4 ⟨A4, c4, rfl, hc4, hs4, hb4⟩
  rw [bracket_split.2.2.1, bracket_split.2.2.2]
  have H4 := Lib.hid (And.intro (H3.out.1.later hb4) (below_trans H3.out.2.2 hb4))
  clear hs4 hb4 hc4 H3
  obtain ⟨b, off, rfl, hc⟩ := H4.out.1.at (by simp)
  obtain ⟨A5, c5, r1, _, s5⟩ := hc 0 (by simp)
  obtain ⟨A6, c6, r2, _, s6⟩ := hc 3 (by simp)
  simp only [List.getD_cons_zero, List.getD_cons_succ, Nat.add_zero] at r1 r2 s5 s6
  clear hc
  have nb := World.block_lt_of_cell? _ _ r1
  simp only at nb
  go_upto_region 6 with fail
  have hb := below_alloc w4 (.cells (flat tZ).toArray 30)
  have hk := (Blk.new w4 30 (flat tZ).toArray).sp
  have H5 := Lib.hid (And.intro (s5.later hb) (And.intro (s6.later hb) (And.intro hk (below_trans H4.out.2 hb))))
  replace r1 := cell_later hb r1; replace r2 := cell_later hb r2
  clear hb hk H4 nb
  simp only [flat, tZ] at H5 r1 r2
  revert H5 r1 r2
  generalize hw5 : w4.alloc (.cells #[iv 0, iv 0, iv 4, iv 0, iv 0, iv 4] 30) = W5
  intro H5 r1 r2
  clear hw5
  generalize w4.heap.size = h4 at *
  go_wp2_with fail
  have hb := below_alloc W5 (.cells (flat [⟨0, 0⟩, ⟨4, 0⟩, ⟨4, 1⟩]).toArray 30)
  have hk := (Blk.new W5 30 (flat [⟨0, 0⟩, ⟨4, 0⟩, ⟨4, 1⟩]).toArray).sp
  simp only [flat] at hb hk
  refine (same34 A5 (some ⟨W5.heap.size, 0, none⟩) 3 3 c5 3 [⟨0, 0⟩, ⟨4, 0⟩, ⟨4, 1⟩] [⟨0, 0⟩, ⟨4, 0⟩, ⟨4, 1⟩] _ rfl rfl (H5.out.1.later hb) hk (by decide)).mono ?_
  rintro e w6 ⟨rfl, hb6⟩
  rw [decide_eq_true (show [⟨0, 0⟩, ⟨4, 0⟩, ⟨4, 1⟩] = ([⟨0, 0⟩, ⟨4, 0⟩, ⟨4, 1⟩] : List Z2) from rfl)]
  have hb7 := below_trans hb hb6
  have H6 := Lib.hid (And.intro (H5.out.2.1.later hb7) (And.intro (H5.out.2.2.1.later hb7) (below_trans H5.out.2.2.2 hb7)))
  replace r2 := cell_later hb7 r2
  clear hb hk hb6 hb7 H5 r1
  go_wp2_with fail
  have hb := below_alloc w6 (.cells (flat [⟨1, 1⟩, ⟨1, 3⟩, ⟨0, 3⟩]).toArray 30)
  have hk := (Blk.new w6 30 (flat [⟨1, 1⟩, ⟨1, 3⟩, ⟨0, 3⟩]).toArray).sp
  simp only [flat] at hb hk
  refine (same34 A6 (some ⟨w6.heap.size, 0, none⟩) 3 3 c6 3 [⟨1, 1⟩, ⟨1, 3⟩, ⟨0, 3⟩] [⟨1, 1⟩, ⟨1, 3⟩, ⟨0, 3⟩] _ rfl rfl (H6.out.1.later hb) hk (by decide)).mono ?_
  rintro e w7 ⟨rfl, hb7⟩
  rw [decide_eq_true (show [⟨1, 1⟩, ⟨1, 3⟩, ⟨0, 3⟩] = ([⟨1, 1⟩, ⟨1, 3⟩, ⟨0, 3⟩] : List Z2) from rfl)]
  have hb8 := below_trans hb hb7
  have H7 := Lib.hid (And.intro (H6.out.2.1.later hb8) (below_trans H6.out.2.2 hb8))
  clear hb hk hb7 hb8 H6 r2
  go_wp2_with fail
  refine (holds60 (some ⟨h4, 0, none⟩) 3 3 tZ ⟨1, 1⟩ _ rfl H7.out.1).mono ?_
  rintro e w8 ⟨rfl, hb⟩
  rw [t_holds.1]
  have H8 := Lib.hid (And.intro (H7.out.1.later hb) (below_trans H7.out.2 hb))
  clear hb H7
  go_wp2_with fail
  refine (holds60 (some ⟨h4, 0, none⟩) 3 3 tZ ⟨2, 2⟩ _ rfl H8.out.1).mono ?_
  rintro e w9 ⟨rfl, hb⟩
  rw [t_holds.2.1]
  have H9 := Lib.hid (And.intro (H8.out.1.later hb) (below_trans H8.out.2 hb))
  clear hb H8
  go_wp2_with fail
  refine (holds60 (some ⟨h4, 0, none⟩) 3 3 tZ ⟨3, 2⟩ _ rfl H9.out.1).mono ?_
  rintro e w10 ⟨rfl, hb⟩
  rw [t_holds.2.2]
  have H10 := Lib.hid (below_trans H9.out.2 hb)
  clear hb H9
  go_wp2
  go_ret
  exact ⟨rfl, H10.out⟩
end Go.Proofs.Ytfgeengdmbabhaa

namespace Go.Proofs.Ytfgeengdmbabhaa
open Go.RowKit
attribute [local go_sem ↓] Go.wp_at_zero Go.wp_at_succ

set_option maxHeartbeats 400000 in
/-- garmentref13.sign -/
theorem sign119 (n : Int) (w : World) : Calls Try.prog 119 #[iv n] w fun e w' => e = .returned (iv (sgn n)) ∧ w = w' := by
  go_enter Try.func119, Try.ntmps119
  go_wp2
  all_goals
    go_ret
    exact ⟨ret_int (by unfold sgn; first | (rw [if_neg (by omega), if_pos (by omega)]) | (rw [if_pos (by omega)]) | (rw [if_neg (by omega), if_neg (by omega)])), rfl⟩

set_option maxHeartbeats 400000 in
/-- garmentref13.Far -/
theorem far102 (a : Z2) (w : World) : Calls Try.prog 102 #[sv a] w fun e w' => e = .returned (.bool (outZ a)) ∧ Below w.heap.size w w' := by
  go_enter Try.func102, Try.ntmps102
  go_wp2
  all_goals
    go_ret
    refine ⟨ret_bool ?_, below_alloc _ _⟩
    rw [Bool.eq_iff_iff]
    simp [outZ]
    try omega

/-- the least of the first k turns -/
def outTo (t : List Z2) (q : Z2) : Nat → Int
  | 0 => 1
  | k + 1 => min (outTo t q k) (sgn (crZ (pt t 0) (pt t 1) (pt t 2)) * sgn (crZ (pt t k) (pt t ((k + 1) % 3)) q))
theorem outTo_eq {a b c q : Z2} (h : crZ a b c ≠ 0) : outTo [a, b, c] q 3 = tri3Z a b c q := by
  have e0 : pt [a, b, c] 0 = a := rfl
  have e1 : pt [a, b, c] 1 = b := rfl
  have e2 : pt [a, b, c] 2 = c := rfl
  simp only [outTo, Nat.zero_add, Nat.reduceAdd, Nat.reduceMod, Nat.mod_self, e0, e1, e2]
  by_cases hp : 0 < crZ a b c
  · rw [tri3Z_pos hp, sgn_pos hp]
    rcases sgn_cases (crZ a b q) with ⟨h1, e1⟩ | ⟨h1, e1⟩ | ⟨h1, e1⟩ <;> rcases sgn_cases (crZ b c q) with ⟨h2, e2⟩ | ⟨h2, e2⟩ | ⟨h2, e2⟩ <;> rcases sgn_cases (crZ c a q) with ⟨h3, e3⟩ | ⟨h3, e3⟩ | ⟨h3, e3⟩ <;> rw [e1, e2, e3] <;>
      rcases sgn_cases (min (crZ a b q) (min (crZ b c q) (crZ c a q))) with ⟨h4, e4⟩ | ⟨h4, e4⟩ | ⟨h4, e4⟩ <;> rw [e4] <;> omega
  · rw [tri3Z_neg (by omega), sgn_neg (by omega)]
    have f1 := crZ_swap a b q; have f2 := crZ_swap b c q; have f3 := crZ_swap c a q
    rcases sgn_cases (crZ a b q) with ⟨h1, e1⟩ | ⟨h1, e1⟩ | ⟨h1, e1⟩ <;> rcases sgn_cases (crZ b c q) with ⟨h2, e2⟩ | ⟨h2, e2⟩ | ⟨h2, e2⟩ <;> rcases sgn_cases (crZ c a q) with ⟨h3, e3⟩ | ⟨h3, e3⟩ | ⟨h3, e3⟩ <;> rw [e1, e2, e3] <;>
      rcases sgn_cases (min (crZ a c q) (min (crZ c b q) (crZ b a q))) with ⟨h4, e4⟩ | ⟨h4, e4⟩ | ⟨h4, e4⟩ <;> rw [e4] <;> omega
theorem outTo_bd (t : List Z2) (q : Z2) (k : Nat) : -1 ≤ outTo t q k ∧ outTo t q k ≤ 1 := by
  induction k with
  | zero => simp [outTo]
  | succ k ih =>
    have h1 := sgn_bd (crZ (pt t 0) (pt t 1) (pt t 2))
    have h2 := sgn_bd (crZ (pt t k) (pt t ((k + 1) % 3)) q)
    have h3 := mul_bd h1.1 h1.2 h2.1 h2.2
    simp only [outTo]; omega

attribute [local go_sem ↓] run_min2
set_option maxRecDepth 100000 in
set_option maxHeartbeats 4000000 in
/-- garmentref13.place -/
theorem place103 (A : Option Addr) (cap : Nat) (a b c q : Z2) (w : World) (hsp : Sp w A [a, b, c]) (ha : Bd a) (hb : Bd b) (hc : Bd c) (hq : Bd q) :
    Calls Try.prog 103 #[.slice A 3 cap, sv q] w fun e w' => e = .returned (iv (outTo [a, b, c] q 3)) ∧ Below w.heap.size w w' := by
  obtain ⟨b3, o3, rfl, hc5⟩ := hsp (by simp)
  obtain ⟨g1, g2⟩ := hc5 0 (by simp)
  obtain ⟨g3, g4⟩ := hc5 1 (by simp)
  obtain ⟨g5, g6⟩ := hc5 2 (by simp)
  have p0 : pt [a, b, c] 0 = a := rfl
  have p1 : pt [a, b, c] 1 = b := rfl
  have p2 : pt [a, b, c] 2 = c := rfl
  rw [p0] at g1 g2
  rw [p1] at g3 g4
  rw [p2] at g5 g6
  simp only [Nat.zero_mul, Nat.add_zero, Nat.one_mul, Nat.reduceMul] at g1 g2 g3 g4 g5 g6
  clear hc5
  have HO := Lib.hid (fun k => show outTo [a, b, c] q (k + 1) = min (outTo [a, b, c] q k) (sgn (crZ a b c) * sgn (crZ (pt [a, b, c] k) (pt [a, b, c] ((k + 1) % 3)) q)) from rfl)
  have HB := Lib.hid (outTo_bd [a, b, c] q)
  have BA := Lib.hid ha; have BB := Lib.hid hb; have BC := Lib.hid hc; have BQ := Lib.hid hq
  clear ha hb hc hq
  go_enter Try.func103, Try.ntmps103
  go_upto_region 1 with fail
  have F := boxes1 w q
  revert F
  generalize w.alloc (.cells #[iv q.x, iv q.y] 30) = W
  rintro ⟨hW, f1, f2⟩
  replace g1 := cell_later hW g1; replace g2 := cell_later hW g2; replace g3 := cell_later hW g3; replace g4 := cell_later hW g4; replace g5 := cell_later hW g5; replace g6 := cell_later hW g6
  go_region_held3 (fun w' => Below w.heap.size w w' ∧ w'.cell? ⟨w.heap.size, 0, none⟩ = some (iv q.x) ∧ w'.cell? ⟨w.heap.size, 1, none⟩ = some (iv q.y) ∧ w'.cell? ⟨b3, o3, none⟩ = some (iv a.x) ∧ w'.cell? ⟨b3, o3 + 1, none⟩ = some (iv a.y) ∧ w'.cell? ⟨b3, o3 + 2, none⟩ = some (iv b.x) ∧ w'.cell? ⟨b3, o3 + 2 + 1, none⟩ = some (iv b.y) ∧ w'.cell? ⟨b3, o3 + 4, none⟩ = some (iv c.x) ∧ w'.cell? ⟨b3, o3 + 4 + 1, none⟩ = some (iv c.y))
    (first | exact ⟨hW.drew, f1, f2, g1, g2, g3, g4, g5, g6⟩ | assumption | (go_split_ands; refine ⟨below_trans (by assumption) hbq, ?_, ?_, ?_, ?_, ?_, ?_, ?_, ?_⟩ <;> exact cell_later hbq (by assumption)))
    (first | (go_at_call 41; refine (cross41 a b c _ BA.out BB.out BC.out).mono ?_; rintro e w' ⟨rfl, hbq⟩) | (go_at_call 119; refine (sign119 _ _).mono ?_; rintro e w' ⟨rfl, rfl⟩))
  clear hW f1 f2 g1 g2 g3 g4 g5 g6
  go_split_ands
  rename_i hW f1 f2 g1 g2 g3 g4 g5 g6
  go_wp2_with fail
  go_loopw [6, 7] (fun u v wr => ∃ k : Nat, k ≤ 3 ∧ v = .int .i64 k ∧ u = iv (outTo [a, b, c] q k) ∧ Below w.heap.size w wr ∧ wr.cell? ⟨w.heap.size, 0, none⟩ = some (iv q.x) ∧ wr.cell? ⟨w.heap.size, 1, none⟩ = some (iv q.y) ∧ wr.cell? ⟨b3, o3, none⟩ = some (iv a.x) ∧ wr.cell? ⟨b3, o3 + 1, none⟩ = some (iv a.y) ∧ wr.cell? ⟨b3, o3 + 2, none⟩ = some (iv b.x) ∧ wr.cell? ⟨b3, o3 + 2 + 1, none⟩ = some (iv b.y) ∧ wr.cell? ⟨b3, o3 + 4, none⟩ = some (iv c.x) ∧ wr.cell? ⟨b3, o3 + 4 + 1, none⟩ = some (iv c.y)) (fun _ v _ => 3 - (intOf v).toNat)
  case atStart => exact ⟨0, by omega, rfl, rfl, hW, f1, f2, g1, g2, g3, g4, g5, g6⟩
  case round =>
    clear hW f1 f2 g1 g2 g3 g4 g5 g6
    obtain ⟨k, hk, rfl, rfl, hW, f1, f2, g1, g2, g3, g4, g5, g6⟩ := hrel
    by_cases hlt : k < 3
    · have HK := Lib.hid (HO.out k)
      have hb := HB.out k
      generalize outTo [a, b, c] q k = m at *
      obtain rfl | rfl | rfl : k = 0 ∨ k = 1 ∨ k = 2 := by omega
      · have s1 := sgn_wrap (crZ a b c) (crZ a b q)
        have t1 : (IntKind.i64.wrap 1).tmod 3 = 1 := by decide
        go_wp2_with fail
        go_region_held3 (fun w' => Below w.heap.size w w' ∧ w'.cell? ⟨w.heap.size, 0, none⟩ = some (iv q.x) ∧ w'.cell? ⟨w.heap.size, 1, none⟩ = some (iv q.y) ∧ w'.cell? ⟨b3, o3, none⟩ = some (iv a.x) ∧ w'.cell? ⟨b3, o3 + 1, none⟩ = some (iv a.y) ∧ w'.cell? ⟨b3, o3 + 2, none⟩ = some (iv b.x) ∧ w'.cell? ⟨b3, o3 + 2 + 1, none⟩ = some (iv b.y) ∧ w'.cell? ⟨b3, o3 + 4, none⟩ = some (iv c.x) ∧ w'.cell? ⟨b3, o3 + 4 + 1, none⟩ = some (iv c.y))
          (first | exact ⟨hW.drew, f1, f2, g1, g2, g3, g4, g5, g6⟩ | assumption | (go_split_ands; refine ⟨below_trans (by assumption) hbq, ?_, ?_, ?_, ?_, ?_, ?_, ?_, ?_⟩ <;> exact cell_later hbq (by assumption)))
          (first | (go_at_call 41; refine (cross41 a b q _ BA.out BB.out BQ.out).mono ?_; rintro e w' ⟨rfl, hbq⟩) | (go_at_call 119; refine (sign119 _ _).mono ?_; rintro e w' ⟨rfl, rfl⟩))
        go_split_ands
        clear s1 t1
        go_wp2_with fail
        go_roundw
        case rel => exact ⟨1, by omega, by go_num, congrArg iv HK.out.symm, by assumption, by assumption, by assumption, by assumption, by assumption, by assumption, by assumption, by assumption, by assumption⟩
        case measure => simp [intOf]
      · have s1 := sgn_wrap (crZ a b c) (crZ b c q)
        have t1 : (IntKind.i64.wrap 2).tmod 3 = 2 := by decide
        go_wp2_with fail
        go_region_held3 (fun w' => Below w.heap.size w w' ∧ w'.cell? ⟨w.heap.size, 0, none⟩ = some (iv q.x) ∧ w'.cell? ⟨w.heap.size, 1, none⟩ = some (iv q.y) ∧ w'.cell? ⟨b3, o3, none⟩ = some (iv a.x) ∧ w'.cell? ⟨b3, o3 + 1, none⟩ = some (iv a.y) ∧ w'.cell? ⟨b3, o3 + 2, none⟩ = some (iv b.x) ∧ w'.cell? ⟨b3, o3 + 2 + 1, none⟩ = some (iv b.y) ∧ w'.cell? ⟨b3, o3 + 4, none⟩ = some (iv c.x) ∧ w'.cell? ⟨b3, o3 + 4 + 1, none⟩ = some (iv c.y))
          (first | exact ⟨hW.drew, f1, f2, g1, g2, g3, g4, g5, g6⟩ | assumption | (go_split_ands; refine ⟨below_trans (by assumption) hbq, ?_, ?_, ?_, ?_, ?_, ?_, ?_, ?_⟩ <;> exact cell_later hbq (by assumption)))
          (first | (go_at_call 41; refine (cross41 b c q _ BB.out BC.out BQ.out).mono ?_; rintro e w' ⟨rfl, hbq⟩) | (go_at_call 119; refine (sign119 _ _).mono ?_; rintro e w' ⟨rfl, rfl⟩))
        go_split_ands
        clear s1 t1
        go_wp2_with fail
        go_roundw
        case rel => exact ⟨2, by omega, by go_num, congrArg iv HK.out.symm, by assumption, by assumption, by assumption, by assumption, by assumption, by assumption, by assumption, by assumption, by assumption⟩
        case measure => simp [intOf]
      · have s1 := sgn_wrap (crZ a b c) (crZ c a q)
        have t1 : (IntKind.i64.wrap 3).tmod 3 = 0 := by decide
        go_wp2_with fail
        go_region_held3 (fun w' => Below w.heap.size w w' ∧ w'.cell? ⟨w.heap.size, 0, none⟩ = some (iv q.x) ∧ w'.cell? ⟨w.heap.size, 1, none⟩ = some (iv q.y) ∧ w'.cell? ⟨b3, o3, none⟩ = some (iv a.x) ∧ w'.cell? ⟨b3, o3 + 1, none⟩ = some (iv a.y) ∧ w'.cell? ⟨b3, o3 + 2, none⟩ = some (iv b.x) ∧ w'.cell? ⟨b3, o3 + 2 + 1, none⟩ = some (iv b.y) ∧ w'.cell? ⟨b3, o3 + 4, none⟩ = some (iv c.x) ∧ w'.cell? ⟨b3, o3 + 4 + 1, none⟩ = some (iv c.y))
          (first | exact ⟨hW.drew, f1, f2, g1, g2, g3, g4, g5, g6⟩ | assumption | (go_split_ands; refine ⟨below_trans (by assumption) hbq, ?_, ?_, ?_, ?_, ?_, ?_, ?_, ?_⟩ <;> exact cell_later hbq (by assumption)))
          (first | (go_at_call 41; refine (cross41 c a q _ BC.out BA.out BQ.out).mono ?_; rintro e w' ⟨rfl, hbq⟩) | (go_at_call 119; refine (sign119 _ _).mono ?_; rintro e w' ⟨rfl, rfl⟩))
        go_split_ands
        clear s1 t1
        go_wp2_with fail
        go_roundw
        case rel => exact ⟨3, by omega, by go_num, congrArg iv HK.out.symm, by assumption, by assumption, by assumption, by assumption, by assumption, by assumption, by assumption, by assumption, by assumption⟩
        case measure => simp [intOf]
    · obtain rfl : k = 3 := by omega
      go_wp2
      go_ret
      exact ⟨rfl, hW⟩
def properZ (t : List Z2) : Bool := decide (t.length = 3) && !(outZ (pt t 0) || outZ (pt t 1) || outZ (pt t 2)) && decide (crZ (pt t 0) (pt t 1) (pt t 2) ≠ 0)

set_option maxRecDepth 100000 in
set_option maxHeartbeats 4000000 in
/-- garmentref13.Proper -/
theorem proper101 (A : Option Addr) (n cap : Nat) (t : List Z2) (w : World) (hl : t.length = n) (hsp : Sp w A t) :
    Calls Try.prog 101 #[.slice A n cap] w fun e w' => e = .returned (.bool (properZ t)) ∧ Below w.heap.size w w' := by
  by_cases h3 : n = 3
  case neg =>
    have hd : ((n : Int) != 3) = true := by simp; omega
    have HE := Lib.hid (show properZ t = false by unfold properZ; rw [decide_eq_false (by omega)]; rfl)
    clear hsp hl
    go_enter Try.func101, Try.ntmps101
    go_wp2
    go_ret
    exact ⟨ret_bool HE.out.symm, Below.refl _ _⟩
  case pos =>
    subst h3
    have hne : t ≠ [] := by intro h; simp [h] at hl
    obtain ⟨b, off, rfl, hc⟩ := hsp hne
    obtain ⟨g1, g2⟩ := hc 0 (by omega)
    obtain ⟨g3, g4⟩ := hc 1 (by omega)
    obtain ⟨g5, g6⟩ := hc 2 (by omega)
    simp only [Nat.zero_mul, Nat.add_zero, Nat.one_mul, Nat.reduceMul] at g1 g2 g3 g4 g5 g6
    have HP := Lib.hid (show properZ t = (!(outZ (pt t 0) || outZ (pt t 1) || outZ (pt t 2)) && decide (crZ (pt t 0) (pt t 1) (pt t 2) ≠ 0)) by unfold properZ; rw [decide_eq_true hl]; rfl)
    clear hc hl hne hsp
    generalize pt t 0 = p0 at *
    generalize pt t 1 = p1 at *
    generalize pt t 2 = p2 at *
    have hW := Below.refl w.heap.size w
    go_enter Try.func101, Try.ntmps101
    cases ho : (outZ p0 || outZ p1 || outZ p2)
    case true =>
      have HE := Lib.hid (show properZ t = false by rw [HP.out, ho]; rfl)
      have HOR := Lib.hid ho
      clear ho
      go_wp2_with (first | (go_at_call 102; refine (far102 _ _).mono ?_; rintro e w' ⟨rfl, hbq⟩; replace hW := below_trans hW hbq; replace g1 := cell_later hbq g1; replace g2 := cell_later hbq g2; replace g3 := cell_later hbq g3; replace g4 := cell_later hbq g4; replace g5 := cell_later hbq g5; replace g6 := cell_later hbq g6; clear hbq))
      iterate 3
        go_ret
        exact ⟨ret_bool HE.out.symm, hW⟩
      exfalso
      have := HOR.out
      simp_all
    case false =>
      have HE := Lib.hid (show properZ t = decide (crZ p0 p1 p2 ≠ 0) by rw [HP.out, ho]; rfl)
      simp only [Bool.or_eq_false_iff] at ho
      obtain ⟨⟨o1, o2⟩, o3⟩ := ho
      have B0 := Lib.hid (bd_of_out o1); have B1 := Lib.hid (bd_of_out o2); have B2 := Lib.hid (bd_of_out o3)
      go_upto_region 3 with (first | (go_at_call 102; refine (far102 _ _).mono ?_; rintro e w' ⟨rfl, hbq⟩; replace hW := below_trans hW hbq; replace g1 := cell_later hbq g1; replace g2 := cell_later hbq g2; replace g3 := cell_later hbq g3; replace g4 := cell_later hbq g4; replace g5 := cell_later hbq g5; replace g6 := cell_later hbq g6; clear hbq))
      clear o1 o2 o3
      go_region_held3 (fun w5 => Below w.heap.size w w5 ∧ w5.cell? ⟨b, off, none⟩ = some (iv p0.x) ∧ w5.cell? ⟨b, off + 1, none⟩ = some (iv p0.y) ∧ w5.cell? ⟨b, off + 2, none⟩ = some (iv p1.x) ∧ w5.cell? ⟨b, off + 2 + 1, none⟩ = some (iv p1.y) ∧ w5.cell? ⟨b, off + 4, none⟩ = some (iv p2.x) ∧ w5.cell? ⟨b, off + 4 + 1, none⟩ = some (iv p2.y))
        (first | exact ⟨hW.drew, g1, g2, g3, g4, g5, g6⟩ | assumption | (go_split_ands; refine ⟨below_trans (by assumption) hbq, ?_, ?_, ?_, ?_, ?_, ?_⟩ <;> exact cell_later hbq (by assumption)))
        (first | (go_at_call 41; refine (cross41 p0 p1 p2 _ B0.out B1.out B2.out).mono ?_; rintro e w' ⟨rfl, hbq⟩))
      go_split_ands
      go_wp2
      go_ret
      refine ⟨ret_bool ?_, by assumption⟩
      rw [HE.out, Bool.eq_iff_iff, decide_eq_true_eq]
      simp

theorem holds_proper {t : List Z2} {q : Z2} : (properZ t = false → holdsZ t q = -1) ∧ (outZ q = true → holdsZ t q = -1) ∧ (properZ t = true → outZ q = false → ∃ a b c, t = [a, b, c] ∧ Bd a ∧ Bd b ∧ Bd c ∧ Bd q ∧ holdsZ t q = outTo [a, b, c] q 3) := by
  refine ⟨fun h => ?_, fun h => ?_, fun h hq => ?_⟩
  · unfold holdsZ
    by_cases hl : t.length = 3
    · rw [if_neg (by omega)]
      unfold properZ at h
      rw [decide_eq_true hl] at h
      unfold anyOut
      split
      · rfl
      · rename_i hno
        have hno' : (outZ (pt t 0) || outZ (pt t 1) || outZ (pt t 2)) = false := by
          cases h1 : outZ (pt t 0) <;> cases h2 : outZ (pt t 1) <;> cases h3 : outZ (pt t 2) <;> simp_all
        rw [hno'] at h
        simp only [Bool.not_false, Bool.true_and, decide_eq_false_iff_not, Decidable.not_not] at h
        unfold tri3Z; rw [if_pos h]
    · rw [if_pos hl]
  · unfold holdsZ anyOut
    split
    · rfl
    · rw [h]; rfl
  · unfold properZ at h
    simp only [Bool.and_eq_true, decide_eq_true_eq, Bool.not_eq_true', Bool.or_eq_false_iff] at h
    obtain ⟨⟨hl, ⟨o1, o2⟩, o3⟩, hz⟩ := h
    match t, hl with
    | [a, b, c], _ =>
      have e0 : pt [a, b, c] 0 = a := rfl
      have e1 : pt [a, b, c] 1 = b := rfl
      have e2 : pt [a, b, c] 2 = c := rfl
      rw [e0] at o1 hz; rw [e1] at o2 hz; rw [e2] at o3 hz
      exact ⟨a, b, c, rfl, bd_of_out o1, bd_of_out o2, bd_of_out o3, bd_of_out hq, by rw [outTo_eq hz, holds3, hq, o1, o2, o3]; rfl⟩

set_option maxHeartbeats 1000000 in
/-- garmentref13.Holds -/
theorem holds61 (A : Option Addr) (n cap : Nat) (t : List Z2) (q : Z2) (w : World) (hl : t.length = n) (hsp : Sp w A t) :
    Calls Try.prog 61 #[.slice A n cap, sv q] w fun e w' => e = .returned (iv (holdsZ t q)) ∧ Below w.heap.size w w' := by
  have HS := Lib.hid hsp; clear hsp
  have HH := Lib.hid (holds_proper (t := t) (q := q))
  go_enter Try.func61, Try.ntmps61
  go_upto_region 1 with fail
  have F := boxes1 w q
  revert F
  generalize w.alloc (.cells #[iv q.x, iv q.y] 30) = W
  rintro ⟨hW, f1, f2⟩
  go_wp2_with fail
  refine (proper101 A n cap t _ hl (HS.out.later hW)).mono ?_
  rintro e w1 ⟨rfl, hb⟩
  replace hW := below_trans hW hb; replace f1 := cell_later hb f1; replace f2 := cell_later hb f2
  clear hb
  cases hp : properZ t
  case false =>
    have HE := Lib.hid (HH.out.1 hp)
    clear hp
    go_wp2_with fail
    go_ret
    exact ⟨ret_int HE.out.symm, hW⟩
  case true =>
    have HP := Lib.hid hp
    clear hp
    go_wp2_with fail
    refine (far102 q _).mono ?_
    rintro e w2 ⟨rfl, hb⟩
    replace hW := below_trans hW hb; replace f1 := cell_later hb f1; replace f2 := cell_later hb f2
    clear hb
    cases ho : outZ q
    case true =>
      have HE := Lib.hid (HH.out.2.1 ho)
      clear ho
      go_wp2_with fail
      go_ret
      exact ⟨ret_int HE.out.symm, hW⟩
    case false =>
      obtain ⟨a, b, c, rfl, ba, bb, bc, bq, he⟩ := HH.out.2.2 HP.out ho
      subst hl
      have HE := Lib.hid he
      clear ho he
      go_wp2_with fail
      refine (place103 A cap a b c q _ (HS.out.later hW) ba bb bc bq).mono ?_
      rintro e w3 ⟨rfl, hb⟩
      go_wp2
      go_ret
      exact ⟨ret_int HE.out.symm, below_trans hW hb⟩

set_option maxRecDepth 100000 in
set_option maxHeartbeats 1000000 in
/-- garmentlaw13.TriangleHolds -/
theorem lawHolds (A : Option Addr) (c : Nat) (ps : List Z2) (q : Z2) (w : World) (hsp : Sp w A ps) :
    Calls Try.prog 15 #[.slice A ps.length c, sv q] w fun e w' => e = .returned (.bool true) ∧ Below w.heap.size w w' := by
  have HS := Lib.hid hsp; clear hsp
  by_cases hm : 60 < ps.length
  case pos =>
    have dF := decide_eq_true hm
    go_enter Try.func15, Try.ntmps15
    go_wp2_with fail
    refine (many56 _ _ _ _).mono ?_
    rintro e w1 ⟨rfl, rfl⟩
    rw [dF]
    go_wp2_with fail
    refine (alive57 _).mono ?_
    rintro e w8 ⟨rfl, hb⟩
    go_wp2
    go_ret
    exact ⟨rfl, below_trans (below_alloc _ _) hb⟩
  case neg =>
    have dF := decide_eq_false hm
    go_enter Try.func15, Try.ntmps15
    go_wp2_with fail
    refine (many56 _ _ _ _).mono ?_
    rintro e w1 ⟨rfl, rfl⟩
    have F := boxes1 w q
    revert F
    generalize w.alloc (.cells #[iv q.x, iv q.y] 30) = W
    rintro ⟨hW, f1, f2⟩
    rw [dF]
    clear dF
    go_wp2_with fail
    go_region_held3 (fun w5 => Below w.heap.size w w5 ∧ w5.cell? ⟨w.heap.size, 0, none⟩ = some (iv q.x) ∧ w5.cell? ⟨w.heap.size, 1, none⟩ = some (iv q.y))
      (first | exact ⟨hW.drew, f1, f2⟩ | assumption | (go_split_ands; refine ⟨below_trans (by assumption) hbq, ?_, ?_⟩ <;> exact cell_later hbq (by assumption)))
      (first | (go_at_call 60; refine (holds60 A _ c ps q _ rfl (HS.out.later ?_)).mono ?_; (go_split_ands; assumption); rintro e w' ⟨rfl, hbq⟩) | (go_at_call 61; refine (holds61 A _ c ps q _ rfl (HS.out.later ?_)).mono ?_; (go_split_ands; assumption); rintro e w' ⟨rfl, hbq⟩) | (go_at_call 57; refine (alive57 _).mono ?_; rintro e w' ⟨rfl, hbq⟩))
    go_split_ands
    go_wp2
    go_ret
    exact ⟨rfl, by assumption⟩
end Go.Proofs.Ytfgeengdmbabhaa
