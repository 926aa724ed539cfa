import Derived.Test.YtfgeengdmbabhaaWv
import Derived.Test.YtfgeengdmbabhaaWw
import Derived.Test.YtfgeengdmbabhaaL13
namespace Go.Proofs.Ytfgeengdmbabhaa
open Go.RowKit
attribute [local go_sem ↓] Go.wp_at_zero Go.wp_at_succ

set_option maxRecDepth 100000 in
set_option maxHeartbeats 8000000 in
/-- garmentlaw11.PolygonChecks -/
theorem lawChecks (A : Option Addr) (c : Nat) (ps : List Z2) (d : Z2) (w : World) (hsp : Sp w A ps) (hcap : ps.length ≤ c) :
    Calls Try.prog 11 #[.slice A ps.length c, sv d] w fun e w' => e = .returned (.bool true) ∧ Below w.heap.size w w' := by
  have HS := Lib.hid hsp; clear hsp
  go_enter Try.func11, Try.ntmps11
  go_upto_region 1 with fail
  have F := boxes1 w d
  revert F
  generalize w.alloc (.cells #[iv d.x, iv d.y] 30) = W
  rintro ⟨hW, f1, f2⟩
  have HW := Lib.hid hW
  clear hW
  by_cases hf : ps.length ≤ 50
  case neg =>
    have dF := decide_eq_false hf
    go_wp2_with fail
    refine (few30 _ _ _ _).mono ?_
    rintro e w1 ⟨rfl, rfl⟩
    rw [dF]
    go_wp2_with fail
    refine (awake31 _).mono ?_
    rintro e w8 ⟨rfl, hb⟩
    go_wp2
    go_ret
    exact ⟨rfl, below_trans HW.out hb⟩
  case pos =>
  have dF := decide_eq_true hf
  go_wp2_with fail
  refine (few30 _ _ _ _).mono ?_
  rintro e w1 ⟨rfl, rfl⟩
  rw [dF]
  clear dF
  go_wp2_with fail
  refine (box42 A c ps _ (HS.out.later HW.out) hcap).mono ?_
  rintro e w2 ⟨rfl, hb⟩
  replace HW := Lib.hid (below_trans HW.out hb); replace f1 := cell_later hb f1; replace f2 := cell_later hb f2
  clear hb
  go_upto_region 4 with fail
  have hb := below_alloc w2 (.cells #[iv (boxZ ps).x, iv (boxZ ps).y, iv (boxZ ps).w, iv (boxZ ps).h] 41)
  have k1 := rvBlk w2 (boxZ ps)
  revert hb k1
  generalize w2.alloc (.cells #[iv (boxZ ps).x, iv (boxZ ps).y, iv (boxZ ps).w, iv (boxZ ps).h] 41) = W2
  intro hb k1
  have r0 := k1.cell 0; have r1 := k1.cell 1; have r2 := k1.cell 2; have r3 := k1.cell 3
  simp at r0 r1 r2 r3
  replace HW := Lib.hid (below_trans HW.out hb); replace f1 := cell_later hb f1; replace f2 := cell_later hb f2
  clear hb k1
  generalize w2.heap.size = h2 at *
  go_wp2_with fail
  refine (box49 A ps.length c ps _ (Eq.refl _) (HS.out.later HW.out)).mono ?_
  rintro e w3 ⟨rfl, hb⟩
  replace HW := Lib.hid (below_trans HW.out hb); replace f1 := cell_later hb f1; replace f2 := cell_later hb f2; replace r0 := cell_later hb r0; replace r1 := cell_later hb r1; replace r2 := cell_later hb r2; replace r3 := cell_later hb r3
  clear hb
  go_upto_region 5 with fail
  have hb := below_alloc w3 (.cells #[iv (boxZ ps).x, iv (boxZ ps).y, iv (boxZ ps).w, iv (boxZ ps).h] 41)
  have k1 := rvBlk w3 (boxZ ps)
  revert hb k1
  generalize w3.alloc (.cells #[iv (boxZ ps).x, iv (boxZ ps).y, iv (boxZ ps).w, iv (boxZ ps).h] 41) = W3
  intro hb k1
  have s0 := k1.cell 0; have s1 := k1.cell 1; have s2 := k1.cell 2; have s3 := k1.cell 3
  simp at s0 s1 s2 s3
  replace HW := Lib.hid (below_trans HW.out hb); replace f1 := cell_later hb f1; replace f2 := cell_later hb f2; replace r0 := cell_later hb r0; replace r1 := cell_later hb r1; replace r2 := cell_later hb r2; replace r3 := cell_later hb r3
  clear hb k1
  generalize w3.heap.size = h3 at *
  go_wp2_with fail
  refine (convex44 A c ps _ (HS.out.later HW.out) hcap).mono ?_
  rintro e w4 ⟨rfl, hb⟩
  replace HW := Lib.hid (below_trans HW.out hb); replace f1 := cell_later hb f1; replace f2 := cell_later hb f2; replace r0 := cell_later hb r0; replace r1 := cell_later hb r1; replace r2 := cell_later hb r2; replace r3 := cell_later hb r3; replace s0 := cell_later hb s0; replace s1 := cell_later hb s1; replace s2 := cell_later hb s2; replace s3 := cell_later hb s3
  clear hb
  go_wp2_with fail
  refine (convex50 A ps.length c ps _ (Eq.refl _) (HS.out.later HW.out)).mono ?_
  rintro e w5 ⟨rfl, hb⟩
  replace HW := Lib.hid (below_trans HW.out hb); replace f1 := cell_later hb f1; replace f2 := cell_later hb f2; replace r0 := cell_later hb r0; replace r1 := cell_later hb r1; replace r2 := cell_later hb r2; replace r3 := cell_later hb r3; replace s0 := cell_later hb s0; replace s1 := cell_later hb s1; replace s2 := cell_later hb s2; replace s3 := cell_later hb s3
  clear hb
  have HK := Lib.hid (fun w (hs : Sp w A ps) => check38 A c ps w hs hcap)
  have HK2 := Lib.hid (fun w (hs : Sp w A ps) => check46 A ps.length c ps w (Eq.refl _) hs)
  have HA1 := Lib.hid (fun w (hs : Sp w A ps) => area2_39 A c ps w hs hcap)
  have HA2 := Lib.hid (fun w (hs : Sp w A ps) => area2_51 A ps.length c ps w (Eq.refl _) hs)
  have HM1 := Lib.hid (fun w (hs : Sp w A ps) => move52 A c ps d w hs (by omega))
  have HM2 := Lib.hid (fun w (hs : Sp w A ps) => move53 A ps.length c ps d w (Eq.refl _) hs (by omega))
  have HL := Lib.hid (show (moveZ ps d).length ≤ 1000000000 by simp [moveZ]; omega)
  have he : ∀ w, (binOp .eql 41 (rv (boxZ ps)) (rv (boxZ ps))).run Try.prog w = .ok (.bool true) w := fun w => by rw [eql41]; simp
  generalize chkZ ps = ck at *
  generalize aZ ps = az at *
  generalize cvZ ps = cv at *
  generalize boxZ ps = bx at *
  generalize moveZ ps d = mv at *
  have k1 : (ck == ck) = true := by simp
  have k2 : (az == az) = true := by simp
  have k3 : (cv == cv) = true := by simp
  go_wp2_with fail
  go_region_held3 (fun w' => Below w.heap.size w w' ∧ w'.cell? ⟨w.heap.size, 0, none⟩ = some (iv d.x) ∧ w'.cell? ⟨w.heap.size, 1, none⟩ = some (iv d.y) ∧ w'.cell? ⟨h2, 0, none⟩ = some (iv bx.x) ∧ w'.cell? ⟨h2, 1, none⟩ = some (iv bx.y) ∧ w'.cell? ⟨h2, 2, none⟩ = some (iv bx.w) ∧ w'.cell? ⟨h2, 3, none⟩ = some (iv bx.h)
      ∧ w'.cell? ⟨h3, 0, none⟩ = some (iv bx.x) ∧ w'.cell? ⟨h3, 1, none⟩ = some (iv bx.y) ∧ w'.cell? ⟨h3, 2, none⟩ = some (iv bx.w) ∧ w'.cell? ⟨h3, 3, none⟩ = some (iv bx.h))
    (first | exact ⟨HW.out.drew, f1, f2, r0, r1, r2, r3, s0, s1, s2, s3⟩ | assumption | (go_split_ands; refine ⟨below_trans (by assumption) hbq, ?_, ?_, ?_, ?_, ?_, ?_, ?_, ?_, ?_, ?_⟩ <;> exact cell_later hbq (by assumption)))
    (first
      | (go_at_call 38; go_split_ands; refine (HK.out _ (HS.out.later (by assumption))).mono ?_; rintro e w' ⟨rfl, hbq⟩)
      | (go_at_call 46; go_split_ands; refine (HK2.out _ (HS.out.later (by assumption))).mono ?_; rintro e w' ⟨rfl, hbq⟩)
      | (go_at_call 39; go_split_ands; refine (HA1.out _ (HS.out.later (by assumption))).mono ?_; rintro e w' ⟨rfl, hbq⟩)
      | (go_at_call 51; go_split_ands; refine (HA2.out _ (HS.out.later (by assumption))).mono ?_; rintro e w' ⟨rfl, hbq⟩)
      | (go_at_call 52; go_split_ands; refine (HM1.out _ (HS.out.later (by assumption))).mono ?_; rintro e w' ⟨A6, c6, rfl, hc6, hs6, hbq⟩)
      | (go_at_call 53; go_split_ands; refine (HM2.out _ (HS.out.later (by assumption))).mono ?_; rintro e w' ⟨v7, rfl, ho7, hbq⟩; obtain ⟨A7, c7, rfl, hc7, hs7⟩ := ho7.sp)
      | (go_at_call 34; refine (same34 A6 A7 mv.length mv.length c6 c7 mv mv _ (Eq.refl _) (Eq.refl _) (by first | exact hs6 | exact hs6.later (by assumption)) hs7 HL.out).mono ?_; rintro e w' ⟨rfl, hbq⟩)
      | (go_at_call 31; refine (awake31 _).mono ?_; rintro e w' ⟨rfl, hbq⟩))
  all_goals
    go_split_ands
    rename_i hbr _ _ _ _ _ _ _ _ _ _
    go_wp2
    go_ret
    exact ⟨rfl, hbr⟩
end Go.Proofs.Ytfgeengdmbabhaa
