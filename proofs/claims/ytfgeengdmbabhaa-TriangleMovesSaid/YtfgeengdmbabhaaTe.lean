import Derived.Test.YtfgeengdmbabhaaTd
import Derived.Test.YtfgeengdmbabhaaWu
namespace Go.Proofs.Ytfgeengdmbabhaa
open Go.RowKit
attribute [local go_sem ↓] Go.wp_at_zero Go.wp_at_succ

theorem rotZ_length (l : List Z2) : (rotZ l).length = l.length := by
  have := firstTo_le l l.length
  unfold rotZ; rw [List.length_append, List.length_drop, List.length_take]; omega
theorem normZ_three {ps : List Z2} (h : chkZ ps = 0) : 3 ≤ (normZ ps).length := by
  have h1 := corners_three h
  rw [normZ_pos h]
  unfold normR
  rw [rotZ_length]
  unfold corn
  split
  · rw [List.length_reverse]; exact h1
  · exact h1
theorem split58' (A : Option Addr) (n c : Nat) (ps : List Z2) (w : World) (hl : ps.length = n) (hsp : Sp w A ps) (hcap : n ≤ c) : Calls Try.prog 58 #[.slice A n c] w (RetSS (splitZ ps) (splitE ps) w) :=
  split58 A n c ps w hl hsp hcap normZ_three (normZ_mem (corners_mem _ (Nat.le_refl _)))

def bracketZ : List Z2 := [⟨0, 0⟩, ⟨4, 0⟩, ⟨4, 1⟩, ⟨1, 1⟩, ⟨1, 3⟩, ⟨0, 3⟩]
theorem bracket_split : splitZ bracketZ = [[⟨0, 0⟩, ⟨4, 0⟩, ⟨4, 1⟩], [⟨0, 0⟩, ⟨4, 1⟩, ⟨1, 1⟩], [⟨0, 3⟩, ⟨0, 0⟩, ⟨1, 1⟩], [⟨1, 1⟩, ⟨1, 3⟩, ⟨0, 3⟩]] ∧ splitE bracketZ = 0 ∧ splitZ (bracketZ.take 2) = [] ∧ splitE (bracketZ.take 2) = 11 := by decide +kernel
def tZ : List Z2 := [⟨0, 0⟩, ⟨4, 0⟩, ⟨0, 4⟩]
theorem t_holds : holdsZ tZ ⟨1, 1⟩ = 1 ∧ holdsZ tZ ⟨2, 2⟩ = 0 ∧ holdsZ tZ ⟨3, 2⟩ = -1 := by decide +kernel

/-- garmentlaw13.bracket -/
theorem bracket90 (w : World) : Calls Try.prog 90 #[] w fun e w' => e = .returned (.slice (some ⟨w.heap.size, 0, none⟩) 6 6) ∧ Sp w' (some ⟨w.heap.size, 0, none⟩) bracketZ ∧ Below w.heap.size w w' := by
  go_enter Try.func90, Try.ntmps90
  go_wp2
  go_ret
  refine ⟨rfl, ?_, below_alloc _ _⟩
  exact (Blk.new w 30 (flat bracketZ).toArray).sp

theorem many56 (A : Option Addr) (n c : Nat) (w : World) : Calls Try.prog 56 #[.slice A n c] w fun e w' => e = .returned (.bool (decide (60 < n))) ∧ w = w' := by
  go_enter Try.func56, Try.ntmps56
  go_wp2
  go_ret
  exact ⟨ret_bool (by rw [Bool.eq_iff_iff]; simp; omega), rfl⟩

theorem SSp.at {w : World} {A : Option Addr} {rs : List (List Z2)} (h : SSp w A rs) (hne : rs ≠ []) : ∃ b off, A = some ⟨b, off, none⟩ ∧ ∀ k, k < rs.length → ∃ A' c', w.cell? ⟨b, off + k, none⟩ = some (.slice A' (rs.getD k []).length c') ∧ (rs.getD k []).length ≤ c' ∧ Sp w A' (rs.getD k []) := h hne

set_option maxRecDepth 100000 in
set_option maxHeartbeats 4000000 in
/-- garmentlaw13.alive -/
theorem alive57 (w : World) : Calls Try.prog 57 #[] w fun e w' => e = .returned (.bool true) ∧ Below w.heap.size w w' := by
  go_enter Try.func57, Try.ntmps57
  go_wp2_with fail
  refine (bracket90 _).mono ?_
  rintro e w1 ⟨rfl, hs1, hb1⟩
  have H1 := Lib.hid (And.intro hs1 hb1)
  clear hs1 hb1
  go_wp2_with fail
  refine (split58' (some ⟨w.heap.size, 0, none⟩) 6 6 bracketZ _ rfl H1.out.1 (by omega)).mono ?_
  rintro e w2 ⟨A2, c2, rfl, hc2, hs2, hb2⟩
  rw [bracket_split.1, bracket_split.2.1]
  rw [bracket_split.1] at hs2
  have H2 := Lib.hid (And.intro hs2 (below_trans H1.out.2 hb2))
  clear hs2 hb2 hc2 H1
  go_wp2_with fail
  refine (bracket90 _).mono ?_
  rintro e w3 ⟨rfl, hs3, hb3⟩
  have H3 := Lib.hid (And.intro (H2.out.1.later hb3) (And.intro hs3 (below_trans H2.out.2 hb3)))
  clear hs3 hb3 H2
  go_wp2_with fail
  refine (split58' (some ⟨w2.heap.size, 0, none⟩) 2 6 (bracketZ.take 2) _ rfl (H3.out.2.1.take 2) (by omega)).mono ?_
  rintro e w4 ⟨A4, c4, rfl, hc4, hs4, hb4⟩
  rw [bracket_split.2.2.1, bracket_split.2.2.2]
  have H4 := Lib.hid (And.intro (H3.out.1.later hb4) (below_trans H3.out.2.2 hb4))
  clear hs4 hb4 hc4 H3
  obtain ⟨b, off, rfl, hc⟩ := H4.out.1.at (by simp)
  obtain ⟨A5, c5, r1, _, s5⟩ := hc 0 (by simp)
  obtain ⟨A6, c6, r2, _, s6⟩ := hc 3 (by simp)
  simp only [List.getD_cons_zero, List.getD_cons_succ, Nat.add_zero] at r1 r2 s5 s6
  clear hc
  have nb := World.block_lt_of_cell? _ _ r1
  simp only at nb
  go_upto_region 6 with fail
  have hb := below_alloc w4 (.cells (flat tZ).toArray 30)
  have hk := (Blk.new w4 30 (flat tZ).toArray).sp
  have H5 := Lib.hid (And.intro (s5.later hb) (And.intro (s6.later hb) (And.intro hk (below_trans H4.out.2 hb))))
  replace r1 := cell_later hb r1; replace r2 := cell_later hb r2
  clear hb hk H4 nb
  simp only [flat, tZ] at H5 r1 r2
  revert H5 r1 r2
  generalize hw5 : w4.alloc (.cells #[iv 0, iv 0, iv 4, iv 0, iv 0, iv 4] 30) = W5
  intro H5 r1 r2
  clear hw5
  generalize w4.heap.size = h4 at *
  go_wp2_with fail
  have hb := below_alloc W5 (.cells (flat [⟨0, 0⟩, ⟨4, 0⟩, ⟨4, 1⟩]).toArray 30)
  have hk := (Blk.new W5 30 (flat [⟨0, 0⟩, ⟨4, 0⟩, ⟨4, 1⟩]).toArray).sp
  simp only [flat] at hb hk
  refine (same34 A5 (some ⟨W5.heap.size, 0, none⟩) 3 3 c5 3 [⟨0, 0⟩, ⟨4, 0⟩, ⟨4, 1⟩] [⟨0, 0⟩, ⟨4, 0⟩, ⟨4, 1⟩] _ rfl rfl (H5.out.1.later hb) hk (by decide)).mono ?_
  rintro e w6 ⟨rfl, hb6⟩
  rw [decide_eq_true (show [⟨0, 0⟩, ⟨4, 0⟩, ⟨4, 1⟩] = ([⟨0, 0⟩, ⟨4, 0⟩, ⟨4, 1⟩] : List Z2) from rfl)]
  have hb7 := below_trans hb hb6
  have H6 := Lib.hid (And.intro (H5.out.2.1.later hb7) (And.intro (H5.out.2.2.1.later hb7) (below_trans H5.out.2.2.2 hb7)))
  replace r2 := cell_later hb7 r2
  clear hb hk hb6 hb7 H5 r1
  go_wp2_with fail
  have hb := below_alloc w6 (.cells (flat [⟨1, 1⟩, ⟨1, 3⟩, ⟨0, 3⟩]).toArray 30)
  have hk := (Blk.new w6 30 (flat [⟨1, 1⟩, ⟨1, 3⟩, ⟨0, 3⟩]).toArray).sp
  simp only [flat] at hb hk
  refine (same34 A6 (some ⟨w6.heap.size, 0, none⟩) 3 3 c6 3 [⟨1, 1⟩, ⟨1, 3⟩, ⟨0, 3⟩] [⟨1, 1⟩, ⟨1, 3⟩, ⟨0, 3⟩] _ rfl rfl (H6.out.1.later hb) hk (by decide)).mono ?_
  rintro e w7 ⟨rfl, hb7⟩
  rw [decide_eq_true (show [⟨1, 1⟩, ⟨1, 3⟩, ⟨0, 3⟩] = ([⟨1, 1⟩, ⟨1, 3⟩, ⟨0, 3⟩] : List Z2) from rfl)]
  have hb8 := below_trans hb hb7
  have H7 := Lib.hid (And.intro (H6.out.2.1.later hb8) (below_trans H6.out.2.2 hb8))
  clear hb hk hb7 hb8 H6 r2
  go_wp2_with fail
  refine (holds60 (some ⟨h4, 0, none⟩) 3 3 tZ ⟨1, 1⟩ _ rfl H7.out.1).mono ?_
  rintro e w8 ⟨rfl, hb⟩
  rw [t_holds.1]
  have H8 := Lib.hid (And.intro (H7.out.1.later hb) (below_trans H7.out.2 hb))
  clear hb H7
  go_wp2_with fail
  refine (holds60 (some ⟨h4, 0, none⟩) 3 3 tZ ⟨2, 2⟩ _ rfl H8.out.1).mono ?_
  rintro e w9 ⟨rfl, hb⟩
  rw [t_holds.2.1]
  have H9 := Lib.hid (And.intro (H8.out.1.later hb) (below_trans H8.out.2 hb))
  clear hb H8
  go_wp2_with fail
  refine (holds60 (some ⟨h4, 0, none⟩) 3 3 tZ ⟨3, 2⟩ _ rfl H9.out.1).mono ?_
  rintro e w10 ⟨rfl, hb⟩
  rw [t_holds.2.2]
  have H10 := Lib.hid (below_trans H9.out.2 hb)
  clear hb H9
  go_wp2
  go_ret
  exact ⟨rfl, H10.out⟩
end Go.Proofs.Ytfgeengdmbabhaa
