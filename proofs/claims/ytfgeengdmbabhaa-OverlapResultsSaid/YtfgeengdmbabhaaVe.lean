import Derived.Test.YtfgeengdmbabhaaVd
import Derived.Test.YtfgeengdmbabhaaQb
namespace Go.Proofs.Ytfgeengdmbabhaa
open Go.RowKit
attribute [local go_sem ↓] Go.wp_at_zero Go.wp_at_succ run_min2 run_max2

def btwZ (a b p : Z2) : Bool := decide (min a.x b.x ≤ p.x) && decide (p.x ≤ max a.x b.x) && decide (min a.y b.y ≤ p.y) && decide (p.y ≤ max a.y b.y)
set_option maxHeartbeats 1000000 in
/-- garmentref15.between -/
theorem between122 (a b p : Z2) (w : World) : Calls Try.prog 122 #[sv a, sv b, sv p] w fun e w' => e = .returned (.bool (btwZ a b p)) ∧ Below w.heap.size w w' := by
  have HB := Lib.hid (boxes3 w a b p).1
  go_enter Try.func122, Try.ntmps122
  go_wp2
  all_goals
    go_ret
    refine ⟨ret_bool ?_, HB.out⟩
    rw [Bool.eq_iff_iff]
    simp [btwZ, *]
    try omega

theorem onZ_sgn (a b p : Z2) : onZ a b p = (decide (sgn (crZ a b p) = 0) && btwZ a b p) := by
  have e : decide (sgn (crZ a b p) = 0) = decide (crZ a b p = 0) := by
    rw [Bool.eq_iff_iff]; simp only [decide_eq_true_eq]
    unfold sgn; split <;> (try split) <;> omega
  rw [e]
  unfold onZ btwZ
  simp only [Bool.and_assoc]
theorem meet_forms {a b c d : Z2} {x1 x2 x3 x4 : Int} {b1 b2 b3 b4 : Bool} (h1 : sgn (crZ a b c) = x1) (h2 : sgn (crZ a b d) = x2) (h3 : sgn (crZ c d a) = x3) (h4 : sgn (crZ c d b) = x4) (g1 : btwZ a b c = b1) (g2 : btwZ a b d = b2) (g3 : btwZ c d a = b3) (g4 : btwZ c d b = b4) :
    meetZ a b c d = ((decide (x1 = 0) && b1) || (decide (x2 = 0) && b2) || (decide (x3 = 0) && b3) || (decide (x4 = 0) && b4) || (decide (x1 * x2 < 0) && decide (x3 * x4 < 0))) := by
  unfold meetZ partedZ
  rw [onZ_sgn, onZ_sgn, onZ_sgn, onZ_sgn, h1, h2, h3, h4, g1, g2, g3, g4]

set_option maxRecDepth 100000 in
set_option maxHeartbeats 8000000 in
/-- garmentref15.joined -/
theorem joined106 (a b c d : Z2) (w : World) (ha : Bd a) (hb : Bd b) (hc : Bd c) (hd : Bd d) :
    Calls Try.prog 106 #[sv a, sv b, sv c, sv d] w fun e w' => e = .returned (.bool (meetZ a b c d)) ∧ Below w.heap.size w w' := by
  go_enter Try.func106, Try.ntmps106
  go_upto_region 1 with fail
  have F := boxes4 w a b c d
  revert F
  generalize ((((w.alloc (.cells #[iv a.x, iv a.y] 30)).alloc (.cells #[iv b.x, iv b.y] 30)).alloc (.cells #[iv c.x, iv c.y] 30)).alloc (.cells #[iv d.x, iv d.y] 30)) = W
  rintro ⟨hB, f1, f2, f3, f4, f5, f6, f7, f8⟩
  go_region_held3 (fun w' => Below w.heap.size w w' ∧ w'.cell? ⟨w.heap.size, 0, none⟩ = some (iv a.x) ∧ w'.cell? ⟨w.heap.size, 1, none⟩ = some (iv a.y) ∧ w'.cell? ⟨w.heap.size + 1, 0, none⟩ = some (iv b.x) ∧ w'.cell? ⟨w.heap.size + 1, 1, none⟩ = some (iv b.y)
      ∧ w'.cell? ⟨w.heap.size + 1 + 1, 0, none⟩ = some (iv c.x) ∧ w'.cell? ⟨w.heap.size + 1 + 1, 1, none⟩ = some (iv c.y) ∧ w'.cell? ⟨w.heap.size + 1 + 1 + 1, 0, none⟩ = some (iv d.x) ∧ w'.cell? ⟨w.heap.size + 1 + 1 + 1, 1, none⟩ = some (iv d.y))
    (first | exact ⟨hB.drew, f1, f2, f3, f4, f5, f6, f7, f8⟩ | assumption | (go_split_ands; refine ⟨below_trans (by assumption) hbq, ?_, ?_, ?_, ?_, ?_, ?_, ?_, ?_⟩ <;> exact cell_later hbq (by assumption)))
    (first
      | (go_at_call 121; refine (side121 _ _ _ _ ?_ ?_ ?_).mono ?_; (assumption); (assumption); (assumption); rintro e w' ⟨rfl, hbq⟩))
  go_split_ands
  rename_i hbr y1 y2 y3 y4 y5 y6 y7 y8
  clear f1 f2 f3 f4 f5 f6 f7 f8 hB ha hb hc hd
  have s1 := sgn_wrap (crZ a b c) (crZ a b d)
  have s2 := sgn_wrap (crZ c d a) (crZ c d b)
  have hb1 := sgn_bd (crZ a b c); have hb2 := sgn_bd (crZ a b d); have hb3 := sgn_bd (crZ c d a); have hb4 := sgn_bd (crZ c d b)
  have HF := Lib.hid (fun b1 b2 b3 b4 => @meet_forms a b c d _ _ _ _ b1 b2 b3 b4 rfl rfl rfl rfl)
  generalize sgn (crZ a b c) = x1 at *
  generalize sgn (crZ a b d) = x2 at *
  generalize sgn (crZ c d a) = x3 at *
  generalize sgn (crZ c d b) = x4 at *
  by_cases p1 : x1 * x2 < 0 ∧ x3 * x4 < 0
  · have P := Lib.hid p1
    obtain ⟨p1, p2⟩ := p1
    go_wp2
    go_ret
    refine ⟨ret_bool ?_, hbr⟩
    rw [HF.out _ _ _ _ rfl rfl rfl rfl, decide_eq_true P.out.1, decide_eq_true P.out.2]; simp
  · have pd : (decide (x1 * x2 < 0) && decide (x3 * x4 < 0)) = false := by
      rw [Bool.eq_false_iff]; intro h; simp only [Bool.and_eq_true, decide_eq_true_eq] at h; exact p1 h
    have P := Lib.hid pd
    have pc : x1 * x2 < 0 ∧ ¬ x3 * x4 < 0 ∨ ¬ x1 * x2 < 0 := by
      by_cases q : x1 * x2 < 0
      · exact .inl ⟨q, fun h => p1 ⟨q, h⟩⟩
      · exact .inr q
    clear p1 pd
    have step : ∀ (K : Prop), (∀ z1 z2 z3 z4 t1 t2 t3 t4 : Bool, (x1 == 0) = z1 → (x2 == 0) = z2 → (x3 == 0) = z3 → (x4 == 0) = z4 → btwZ a b c = t1 → btwZ a b d = t2 → btwZ c d a = t3 → btwZ c d b = t4 → K) → K := fun K h => h _ _ _ _ _ _ _ _ rfl rfl rfl rfl rfl rfl rfl rfl
    apply step
    intro z1 z2 z3 z4 t1 t2 t3 t4 e1 e2 e3 e4 k1 k2 k3 k4
    have E := Lib.hid (And.intro e1 (And.intro e2 (And.intro e3 e4)))
    have KK := Lib.hid (And.intro k1 (And.intro k2 (And.intro k3 k4)))
    have RES := Lib.hid (show meetZ a b c d = ((z1 && t1) || (z2 && t2) || (z3 && t3) || (z4 && t4)) by
      rw [HF.out _ _ _ _ k1 k2 k3 k4, P.out, Bool.or_false]
      have d1 : decide (x1 = 0) = z1 := by rw [← e1, Bool.eq_iff_iff]; simp
      have d2 : decide (x2 = 0) = z2 := by rw [← e2, Bool.eq_iff_iff]; simp
      have d3 : decide (x3 = 0) = z3 := by rw [← e3, Bool.eq_iff_iff]; simp
      have d4 : decide (x4 = 0) = z4 := by rw [← e4, Bool.eq_iff_iff]; simp
      rw [d1, d2, d3, d4])
    clear HF P step hb1 hb2 hb3 hb4 KK E
    rcases pc with ⟨p1, p2⟩ | p1
    all_goals
      go_upto_region 4 with fail
      clear s1 s2 p1
      try clear p2
      go_wp2_with (first
          | (go_at_call 122; refine (between122 _ _ _ _).mono ?_; rintro e w' ⟨rfl, hbq⟩; (first | rw [k1] | rw [k2] | rw [k3] | rw [k4]); replace hbr := below_trans hbr hbq; replace y1 := cell_later hbq y1; replace y2 := cell_later hbq y2; replace y3 := cell_later hbq y3; replace y4 := cell_later hbq y4; replace y5 := cell_later hbq y5; replace y6 := cell_later hbq y6; replace y7 := cell_later hbq y7; replace y8 := cell_later hbq y8; clear hbq))
      all_goals
        go_ret
        refine ⟨ret_bool ?_, hbr⟩
        rw [RES.out]
        simp_all
end Go.Proofs.Ytfgeengdmbabhaa
