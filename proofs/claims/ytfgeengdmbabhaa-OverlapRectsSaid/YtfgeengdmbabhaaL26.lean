import Derived.Test.YtfgeengdmbabhaaL25
import Derived.Test.YtfgeengdmbabhaaQb
namespace Go.Proofs.Ytfgeengdmbabhaa
open Go.RowKit
attribute [local go_sem ↓] Go.wp_at_zero Go.wp_at_succ

theorem rb_open {a b : R4} {w : World} : Below w.heap.size w ((w.alloc (.cells #[iv a.x, iv a.y, iv a.w, iv a.h] 41)).alloc (.cells #[iv b.x, iv b.y, iv b.w, iv b.h] 41)) := below_trans (below_alloc _ _) (below_alloc _ _)
def RB (r : R4) : Prop := (-16000000 ≤ r.x ∧ r.x ≤ 16000000) ∧ (-16000000 ≤ r.y ∧ r.y ≤ 16000000) ∧ (-16000000 ≤ r.w ∧ r.w ≤ 16000000) ∧ (-16000000 ≤ r.h ∧ r.h ≤ 16000000)
set_option maxHeartbeats 4000000 in
/-- garmentlaw15.open -/
theorem open69 (a b : R4) (w : World) (ha : RB a) (hb : RB b) : Calls Try.prog 69 #[rv a, rv b] w fun e w' => e = .returned (.bool (openR a b)) ∧ Below w.heap.size w w' := by
  obtain ⟨a1, a2, a3, a4⟩ := ha
  obtain ⟨b1, b2, b3, b4⟩ := hb
  have s1 : IntKind.i64.wrap (b.x + b.w) = b.x + b.w := IntWalk.i64_in _ (by omega)
  have s2 : IntKind.i64.wrap (a.x + a.w) = a.x + a.w := IntWalk.i64_in _ (by omega)
  have s3 : IntKind.i64.wrap (b.y + b.h) = b.y + b.h := IntWalk.i64_in _ (by omega)
  have s4 : IntKind.i64.wrap (a.y + a.h) = a.y + a.h := IntWalk.i64_in _ (by omega)
  go_enter Try.func69, Try.ntmps69
  go_wp2
  all_goals
    go_ret
    refine ⟨ret_bool ?_, rb_open⟩
    rw [Bool.eq_iff_iff]
    simp [openR]
    try omega
set_option maxHeartbeats 4000000 in
/-- garmentlaw15.closed -/
theorem closed70 (a b : R4) (w : World) (ha : RB a) (hb : RB b) : Calls Try.prog 70 #[rv a, rv b] w fun e w' => e = .returned (.bool (closedR a b)) ∧ Below w.heap.size w w' := by
  obtain ⟨a1, a2, a3, a4⟩ := ha
  obtain ⟨b1, b2, b3, b4⟩ := hb
  have s1 : IntKind.i64.wrap (b.x + b.w) = b.x + b.w := IntWalk.i64_in _ (by omega)
  have s2 : IntKind.i64.wrap (a.x + a.w) = a.x + a.w := IntWalk.i64_in _ (by omega)
  have s3 : IntKind.i64.wrap (b.y + b.h) = b.y + b.h := IntWalk.i64_in _ (by omega)
  have s4 : IntKind.i64.wrap (a.y + a.h) = a.y + a.h := IntWalk.i64_in _ (by omega)
  go_enter Try.func70, Try.ntmps70
  go_wp2
  all_goals
    go_ret
    refine ⟨ret_bool ?_, rb_open⟩
    rw [Bool.eq_iff_iff]
    simp [closedR]
    try omega
set_option maxRecDepth 100000 in
set_option maxHeartbeats 4000000 in
/-- garmentlaw15.OverlapBoxes -/
theorem lawBoxes (A B : Option Addr) (c d : Nat) (a b : List Z2) (w : World) (h1 : Sp w A a) (hca : a.length ≤ c) (h2 : Sp w B b) (hcb : b.length ≤ d) :
    Calls Try.prog 26 #[.slice A a.length c, .slice B b.length d] w fun e w' => e = .returned (.bool true) ∧ Below w.heap.size w w' := by
  have HA := Lib.hid h1; have HB := Lib.hid h2
  have HW := Lib.hid (Below.refl w.heap.size w)
  clear h1 h2
  go_enter Try.func26, Try.ntmps26
  go_wp2_with fail
  refine (few45 _ _ _ _ _ _ _).mono ?_
  rintro e w1 ⟨rfl, rfl⟩
  cases hf : (decide (a.length ≤ 10) && decide (b.length ≤ 10))
  case false =>
    clear hf
    go_wp2_with fail
    refine (example47 _).mono ?_
    rintro e w9 ⟨rfl, hb⟩
    go_wp2
    go_ret
    exact ⟨rfl, below_trans HW.out hb⟩
  case true =>
  clear hf
  go_wp2_with fail
  refine (check46 A _ c a _ rfl (HA.out.later HW.out)).mono ?_
  rintro e w2 ⟨rfl, hb⟩
  replace HW := Lib.hid (below_trans HW.out hb)
  clear hb
  by_cases ha : chkZ a = 0
  case neg =>
    have hd : (chkZ a != 0) = true := by simpa using ha
    clear ha
    go_wp2_with fail
    refine (example47 _).mono ?_
    rintro e w9 ⟨rfl, hb⟩
    go_wp2
    go_ret
    exact ⟨rfl, below_trans HW.out hb⟩
  case pos =>
  have Ha := Lib.hid ha
  rw [ha]
  clear ha
  go_wp2_with fail
  refine (check46 B _ d b _ rfl (HB.out.later HW.out)).mono ?_
  rintro e w3 ⟨rfl, hb⟩
  replace HW := Lib.hid (below_trans HW.out hb)
  clear hb
  by_cases hb : chkZ b = 0
  case neg =>
    have hd : (chkZ b != 0) = true := by simpa using hb
    clear hb
    go_wp2_with fail
    refine (example47 _).mono ?_
    rintro e w9 ⟨rfl, hb⟩
    go_wp2
    go_ret
    exact ⟨rfl, below_trans HW.out hb⟩
  case pos =>
  have Hb := Lib.hid hb
  rw [hb]
  clear hb
  have E1 := Lib.hid (ov_ok Ha.out Hb.out)
  have LW := Lib.hid (boxes_law Ha.out Hb.out)
  have RA := Lib.hid (show RB (boxZ a) from boxZ_bd)
  have RBB := Lib.hid (show RB (boxZ b) from boxZ_bd)
  go_wp2_with fail
  refine (box42' A _ c a _ rfl (HA.out.later HW.out) hca).mono ?_
  rintro e w6 ⟨rfl, hb⟩
  rw [Ha.out]
  replace HW := Lib.hid (below_trans HW.out hb)
  clear hb
  go_upto_region 4 with fail
  have hb := below_alloc w6 (.cells #[iv (boxZ a).x, iv (boxZ a).y, iv (boxZ a).w, iv (boxZ a).h] 41)
  have k1 := rvBlk w6 (boxZ a)
  revert hb k1
  generalize w6.alloc (.cells #[iv (boxZ a).x, iv (boxZ a).y, iv (boxZ a).w, iv (boxZ a).h] 41) = Wa
  intro hb k1
  have fa0 := k1.cell 0; have fa1 := k1.cell 1; have fa2 := k1.cell 2; have fa3 := k1.cell 3
  simp at fa0 fa1 fa2 fa3
  replace HW := Lib.hid (below_trans HW.out hb)
  clear hb
  clear k1
  generalize w6.heap.size = ha at *
  go_wp2_with fail
  refine (box42' B _ d b _ rfl (HB.out.later HW.out) hcb).mono ?_
  rintro e w6 ⟨rfl, hb⟩
  rw [Hb.out]
  replace HW := Lib.hid (below_trans HW.out hb)
  replace fa0 := cell_later hb fa0; replace fa1 := cell_later hb fa1; replace fa2 := cell_later hb fa2; replace fa3 := cell_later hb fa3
  clear hb
  go_upto_region 5 with fail
  have hb := below_alloc w6 (.cells #[iv (boxZ b).x, iv (boxZ b).y, iv (boxZ b).w, iv (boxZ b).h] 41)
  have k1 := rvBlk w6 (boxZ b)
  revert hb k1
  generalize w6.alloc (.cells #[iv (boxZ b).x, iv (boxZ b).y, iv (boxZ b).w, iv (boxZ b).h] 41) = Wb
  intro hb k1
  have fb0 := k1.cell 0; have fb1 := k1.cell 1; have fb2 := k1.cell 2; have fb3 := k1.cell 3
  simp at fb0 fb1 fb2 fb3
  replace HW := Lib.hid (below_trans HW.out hb)
  replace fa0 := cell_later hb fa0; replace fa1 := cell_later hb fa1; replace fa2 := cell_later hb fa2; replace fa3 := cell_later hb fa3
  clear hb
  clear k1
  generalize w6.heap.size = hb at *
  go_wp2_with fail
  refine (overlap48 A B _ _ c d a b _ rfl rfl (HA.out.later HW.out) (HB.out.later HW.out) hca hcb).mono ?_
  rintro e w4 ⟨rfl, hb⟩
  rw [E1.out.1, E1.out.2.1]
  replace HW := Lib.hid (below_trans HW.out hb)
  replace fa0 := cell_later hb fa0; replace fa1 := cell_later hb fa1; replace fa2 := cell_later hb fa2; replace fa3 := cell_later hb fa3; replace fb0 := cell_later hb fb0; replace fb1 := cell_later hb fb1; replace fb2 := cell_later hb fb2; replace fb3 := cell_later hb fb3
  clear hb
  go_wp2_with fail
  refine (touch55 A B _ _ c d a b _ rfl rfl (HA.out.later HW.out) (HB.out.later HW.out) hca hcb).mono ?_
  rintro e w5 ⟨rfl, hb⟩
  rw [E1.out.1, E1.out.2.2]
  replace HW := Lib.hid (below_trans HW.out hb)
  replace fa0 := cell_later hb fa0; replace fa1 := cell_later hb fa1; replace fa2 := cell_later hb fa2; replace fa3 := cell_later hb fa3; replace fb0 := cell_later hb fb0; replace fb1 := cell_later hb fb1; replace fb2 := cell_later hb fb2; replace fb3 := cell_later hb fb3
  clear hb
  have hr := rel_bd a b
  generalize relZ a b = r at *
  generalize boxZ a = ra at *
  generalize boxZ b = rb at *
  have hc : r = -1 ∨ r = 0 ∨ r = 1 := by omega
  clear hr
  rcases hc with rfl | rfl | rfl
  · go_wp2_with fail
    refine (example47 _).mono ?_
    rintro e w9 ⟨rfl, hb⟩
    go_wp2
    go_ret
    exact ⟨rfl, below_trans HW.out hb⟩
  · go_wp2_with fail
    refine (closed70 ra rb _ RA.out RBB.out).mono ?_
    rintro e w7 ⟨rfl, hb⟩
    rw [LW.out.2 (by simp)]
    replace HW := Lib.hid (below_trans HW.out hb)
    clear hb
    go_wp2_with fail
    refine (example47 _).mono ?_
    rintro e w9 ⟨rfl, hb⟩
    go_wp2
    go_ret
    exact ⟨rfl, below_trans HW.out hb⟩
  · go_wp2_with fail
    refine (open69 ra rb _ RA.out RBB.out).mono ?_
    rintro e w7 ⟨rfl, hb⟩
    rw [LW.out.1 (by simp)]
    replace HW := Lib.hid (below_trans HW.out hb)
    clear hb
    go_wp2_with fail
    refine (example47 _).mono ?_
    rintro e w9 ⟨rfl, hb⟩
    go_wp2
    go_ret
    exact ⟨rfl, below_trans HW.out hb⟩
end Go.Proofs.Ytfgeengdmbabhaa
