import Derived.Test.YtfgeengdmbabhaaL25
import Derived.Test.YtfgeengdmbabhaaQc
namespace Go.Proofs.Ytfgeengdmbabhaa
open Go.RowKit
attribute [local go_sem ↓] Go.wp_at_zero Go.wp_at_succ
set_option maxRecDepth 100000 in
set_option maxHeartbeats 4000000 in
/-- garmentlaw15.OverlapCuts -/
theorem lawCuts (A : Option Addr) (c : Nat) (a : List Z2) (x : Int) (w : World) (h1 : Sp w A a) (hca : a.length ≤ c) :
    Calls Try.prog 29 #[.slice A a.length c, iv x] w fun e w' => e = .returned (.bool true) ∧ Below w.heap.size w w' := by
  have HA := Lib.hid h1
  have HW := Lib.hid (Below.refl w.heap.size w)
  clear h1
  go_enter Try.func29, Try.ntmps29
  by_cases hm : 10 < a.length
  case pos =>
    go_wp2_with fail
    refine (example47 _).mono ?_
    rintro e w9 ⟨rfl, hb⟩
    go_wp2
    go_ret
    exact ⟨rfl, below_trans HW.out hb⟩
  case neg =>
  go_wp2_with fail
  refine (check46 A _ c a _ rfl (HA.out.later HW.out)).mono ?_
  rintro e w2 ⟨rfl, hb⟩
  replace HW := Lib.hid (below_trans HW.out hb)
  clear hb
  by_cases ha : chkZ a = 0
  case neg =>
    have hd : (chkZ a != 0) = true := by simpa using ha
    clear ha
    go_wp2_with fail
    refine (example47 _).mono ?_
    rintro e w9 ⟨rfl, hb⟩
    go_wp2
    go_ret
    exact ⟨rfl, below_trans HW.out hb⟩
  case pos =>
  have Ha := Lib.hid ha
  rw [ha]
  clear ha
  by_cases x1 : x < -1048576
  case pos =>
    go_wp2_with fail
    refine (example47 _).mono ?_
    rintro e w9 ⟨rfl, hb⟩
    go_wp2
    go_ret
    exact ⟨rfl, below_trans HW.out hb⟩
  case neg =>
  by_cases x2 : 1048576 < x
  case pos =>
    go_wp2_with fail
    refine (example47 _).mono ?_
    rintro e w9 ⟨rfl, hb⟩
    go_wp2
    go_ret
    exact ⟨rfl, below_trans HW.out hb⟩
  case neg =>
  have LW := Lib.hid (cuts_law Ha.out (x := x) (by omega))
  have LC := Lib.hid (show crossZ a x = (decide ((boxR a).x < x) && decide (x < (boxR a).x + (boxR a).w)) by unfold crossZ; rw [if_pos Ha.out, boxZ_pos Ha.out])
  go_wp2_with fail
  refine (crosses67 A _ c a x _ rfl (HA.out.later HW.out) hca).mono ?_
  rintro e w3 ⟨rfl, hb⟩
  rw [Ha.out]
  replace HW := Lib.hid (below_trans HW.out hb)
  clear hb
  have s1 : IntKind.i64.wrap (4194304 + x) = 4194304 + x := IntWalk.i64_in _ (by omega)
  go_wp2_with fail
  refine (hits65 A _ c a ⟨-4194304, -4194304, 4194304 + x, 8388608⟩ _ rfl (HA.out.later HW.out) hca (by unfold In64R; simp only; omega)).mono ?_
  rintro e w4 ⟨rfl, hb⟩
  rw [Ha.out]
  replace HW := Lib.hid (below_trans HW.out hb)
  clear hb
  go_wp2_with fail
  refine (hits65 A _ c a ⟨x, -4194304, 4194304, 8388608⟩ _ rfl (HA.out.later HW.out) hca (by unfold In64R; simp only; omega)).mono ?_
  rintro e w5 ⟨rfl, hb⟩
  rw [Ha.out, LC.out]
  replace HW := Lib.hid (below_trans HW.out hb)
  clear hb
  have key : (decide ((boxR a).x < x) = true ∧ hitZ a ⟨-4194304, -4194304, 4194304 + x, 8388608⟩ = true ∨ decide ((boxR a).x < x) = false ∧ hitZ a ⟨-4194304, -4194304, 4194304 + x, 8388608⟩ = false) ∧ (decide (x < (boxR a).x + (boxR a).w) = true ∧ hitZ a ⟨x, -4194304, 4194304, 8388608⟩ = true ∨ decide (x < (boxR a).x + (boxR a).w) = false ∧ hitZ a ⟨x, -4194304, 4194304, 8388608⟩ = false) ∧ (decide ((boxR a).x < x) = true ∨ decide (x < (boxR a).x + (boxR a).w) = true) := by
    obtain ⟨l1, l2, l3⟩ := LW.out
    refine ⟨?_, ?_, ?_⟩
    · by_cases g : (boxR a).x < x
      · exact .inl ⟨decide_eq_true g, l1.2 g⟩
      · exact .inr ⟨decide_eq_false g, by rw [Bool.eq_false_iff]; exact fun h => g (l1.1 h)⟩
    · by_cases g : x < (boxR a).x + (boxR a).w
      · exact .inl ⟨decide_eq_true g, l2.2 g⟩
      · exact .inr ⟨decide_eq_false g, by rw [Bool.eq_false_iff]; exact fun h => g (l2.1 h)⟩
    · rw [decide_eq_true_eq, decide_eq_true_eq]; omega
  clear s1 x1 x2 LW LC
  generalize decide ((boxR a).x < x) = d1 at *
  generalize decide (x < (boxR a).x + (boxR a).w) = d2 at *
  generalize hitZ a ⟨-4194304, -4194304, 4194304 + x, 8388608⟩ = d3 at *
  generalize hitZ a ⟨x, -4194304, 4194304, 8388608⟩ = d4 at *
  obtain ⟨⟨rfl, rfl⟩ | ⟨rfl, rfl⟩, ⟨rfl, rfl⟩ | ⟨rfl, rfl⟩, k3⟩ := key
  · clear k3
    go_wp2_with fail
    refine (example47 _).mono ?_
    rintro e w9 ⟨rfl, hb⟩
    go_wp2
    go_ret
    exact ⟨rfl, below_trans HW.out hb⟩
  · clear k3
    go_wp2_with fail
    refine (example47 _).mono ?_
    rintro e w9 ⟨rfl, hb⟩
    go_wp2
    go_ret
    exact ⟨rfl, below_trans HW.out hb⟩
  · clear k3
    go_wp2_with fail
    refine (example47 _).mono ?_
    rintro e w9 ⟨rfl, hb⟩
    go_wp2
    go_ret
    exact ⟨rfl, below_trans HW.out hb⟩
  · simp at k3
end Go.Proofs.Ytfgeengdmbabhaa
