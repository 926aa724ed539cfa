import Derived.Test.YtfgeengdmbabhaaVc
namespace Go.Proofs.Ytfgeengdmbabhaa
open Go.RowKit
attribute [local go_sem ↓] Go.wp_at_zero Go.wp_at_succ

theorem ov_ok {a b : List Z2} (ha : chkZ a = 0) (hb : chkZ b = 0) : relE a b = 0 ∧ ovZ a b = decide (relZ a b = 1) ∧ toZ a b = decide (relZ a b = 0) := by
  have h1 : relE a b = 0 := by unfold relE; rw [if_pos ha, hb]
  have h2 : relR a b = relZ a b := by unfold relR; rw [if_pos ha, if_pos hb]
  unfold ovZ toZ
  rw [h1, h2]
  simp

set_option maxRecDepth 100000 in
set_option maxHeartbeats 4000000 in
/-- garmentlaw15.OverlapSymmetry -/
theorem lawSymmetry (A B : Option Addr) (c d : Nat) (a b : List Z2) (w : World) (h1 : Sp w A a) (hca : a.length ≤ c) (h2 : Sp w B b) (hcb : b.length ≤ d) :
    Calls Try.prog 25 #[.slice A a.length c, .slice B b.length d] w fun e w' => e = .returned (.bool true) ∧ Below w.heap.size w w' := by
  have HA := Lib.hid h1; have HB := Lib.hid h2
  clear h1 h2
  go_enter Try.func25, Try.ntmps25
  go_wp2_with fail
  refine (few45 _ _ _ _ _ _ _).mono ?_
  rintro e w1 ⟨rfl, rfl⟩
  cases hf : (decide (a.length ≤ 10) && decide (b.length ≤ 10))
  case false =>
    clear hf
    go_wp2_with fail
    refine (example47 _).mono ?_
    rintro e w8 ⟨rfl, hb⟩
    go_wp2
    go_ret
    exact ⟨rfl, hb⟩
  case true =>
  clear hf
  go_wp2_with fail
  refine (check46 A _ c a _ rfl HA.out).mono ?_
  rintro e w2 ⟨rfl, hb⟩
  have HW := Lib.hid hb
  clear hb
  by_cases ha : chkZ a = 0
  case neg =>
    have hd : (chkZ a != 0) = true := by simpa using ha
    clear ha
    go_wp2_with fail
    refine (example47 _).mono ?_
    rintro e w8 ⟨rfl, hb⟩
    go_wp2
    go_ret
    exact ⟨rfl, below_trans HW.out hb⟩
  case pos =>
  have Ha := Lib.hid ha
  rw [ha]
  clear ha
  go_wp2_with fail
  refine (check46 B _ d b _ rfl (HB.out.later HW.out)).mono ?_
  rintro e w3 ⟨rfl, hb⟩
  replace HW := Lib.hid (below_trans HW.out hb)
  clear hb
  by_cases hb : chkZ b = 0
  case neg =>
    have hd : (chkZ b != 0) = true := by simpa using hb
    clear hb
    go_wp2_with fail
    refine (example47 _).mono ?_
    rintro e w8 ⟨rfl, hb⟩
    go_wp2
    go_ret
    exact ⟨rfl, below_trans HW.out hb⟩
  case pos =>
  have Hb := Lib.hid hb
  rw [hb]
  clear hb
  have E1 := Lib.hid (ov_ok Ha.out Hb.out)
  have E2 := Lib.hid (ov_ok Hb.out Ha.out)
  have E3 := Lib.hid (ov_ok Ha.out Ha.out)
  go_wp2_with fail
  refine (overlap48 A B _ _ c d a b _ rfl rfl (HA.out.later HW.out) (HB.out.later HW.out) hca hcb).mono ?_
  rintro e w4 ⟨rfl, hb⟩
  rw [E1.out.1, E1.out.2.1]
  replace HW := Lib.hid (below_trans HW.out hb)
  clear hb
  go_wp2_with fail
  refine (overlap48 B A _ _ d c b a _ rfl rfl (HB.out.later HW.out) (HA.out.later HW.out) hcb hca).mono ?_
  rintro e w5 ⟨rfl, hb⟩
  rw [E2.out.1, E2.out.2.1, rel_comm b a]
  replace HW := Lib.hid (below_trans HW.out hb)
  clear hb
  go_wp2_with fail
  refine (touch55 A B _ _ c d a b _ rfl rfl (HA.out.later HW.out) (HB.out.later HW.out) hca hcb).mono ?_
  rintro e w6 ⟨rfl, hb⟩
  rw [E1.out.1, E1.out.2.2]
  replace HW := Lib.hid (below_trans HW.out hb)
  clear hb
  go_wp2_with fail
  refine (touch55 B A _ _ d c b a _ rfl rfl (HB.out.later HW.out) (HA.out.later HW.out) hcb hca).mono ?_
  rintro e w7 ⟨rfl, hb⟩
  rw [E2.out.1, E2.out.2.2, rel_comm b a]
  replace HW := Lib.hid (below_trans HW.out hb)
  clear hb
  go_wp2_with fail
  refine (overlap48 A A _ _ c c a a _ rfl rfl (HA.out.later HW.out) (HA.out.later HW.out) hca hca).mono ?_
  rintro e w8 ⟨rfl, hb⟩
  rw [E3.out.1, E3.out.2.1, rel_self Ha.out]
  replace HW := Lib.hid (below_trans HW.out hb)
  clear hb
  have hr := rel_bd a b
  generalize relZ a b = r at *
  have hc : r = -1 ∨ r = 0 ∨ r = 1 := by omega
  clear hr
  rcases hc with rfl | rfl | rfl
  all_goals
    go_wp2_with fail
    refine (example47 _).mono ?_
    rintro e w9 ⟨rfl, hb⟩
    go_wp2
    go_ret
    exact ⟨rfl, below_trans HW.out hb⟩
end Go.Proofs.Ytfgeengdmbabhaa
