import Derived.Test.YtfgeengdmbabhaaL26
import Derived.Test.YtfgeengdmbabhaaQc
namespace Go.Proofs.Ytfgeengdmbabhaa
open Go.RowKit
attribute [local go_sem ↓] Go.wp_at_zero Go.wp_at_succ

set_option maxHeartbeats 4000000 in
/-- garmentlaw15.valid -/
theorem valid71 (r : R4) (w : World) : Calls Try.prog 71 #[rv r] w fun e w' => e = .returned (.bool (validR r)) ∧ Below w.heap.size w w' := by
  go_enter Try.func71, Try.ntmps71
  go_wp2
  all_goals
    go_ret
    refine ⟨ret_bool ?_, below_alloc _ _⟩
    rw [Bool.eq_iff_iff]
    simp [validR]
    try omega
set_option maxHeartbeats 4000000 in
/-- garmentlaw15.corners -/
theorem corners72 (r : R4) (w : World) (h : validR r = true) : Calls Try.prog 72 #[rv r] w fun e w' => ∃ g, e = .returned (.slice (some ⟨g, 0, none⟩) 4 4) ∧ Sp w' (some ⟨g, 0, none⟩) (cornersR r) ∧ Below w.heap.size w w' := by
  rw [validR_iff] at h
  have s1 : IntKind.i64.wrap (r.x + r.w) = r.x + r.w := IntWalk.i64_in _ (by omega)
  have s2 : IntKind.i64.wrap (r.y + r.h) = r.y + r.h := IntWalk.i64_in _ (by omega)
  clear h
  go_enter Try.func72, Try.ntmps72
  go_upto_region 1 with fail
  have B := rvBlk w r
  have hW := below_alloc w (.cells #[iv r.x, iv r.y, iv r.w, iv r.h] 41)
  revert B hW
  generalize w.alloc (.cells #[iv r.x, iv r.y, iv r.w, iv r.h] 41) = W
  intro B hW
  have f0 := B.cell 0; have f1 := B.cell 1; have f2 := B.cell 2; have f3 := B.cell 3
  simp at f0 f1 f2 f3
  clear B
  go_wp2_with fail
  refine (rect86 r.x r.y (r.x + r.w) (r.y + r.h) _).mono ?_
  rintro e w1 ⟨rfl, hs, hb⟩
  have HS := Lib.hid (show Sp w1 (some ⟨W.heap.size, 0, none⟩) (cornersR r) from hs)
  clear hs
  go_wp2
  go_ret
  exact ⟨_, rfl, HS.out, below_trans hW hb⟩

theorem two_boxR (w : World) (r s : R4) : Below w.heap.size w ((w.alloc (.cells #[iv r.x, iv r.y, iv r.w, iv r.h] 41)).alloc (.cells #[iv s.x, iv s.y, iv s.w, iv s.h] 41))
    ∧ Blk ((w.alloc (.cells #[iv r.x, iv r.y, iv r.w, iv r.h] 41)).alloc (.cells #[iv s.x, iv s.y, iv s.w, iv s.h] 41)) w.heap.size 41 #[iv r.x, iv r.y, iv r.w, iv r.h]
    ∧ Blk ((w.alloc (.cells #[iv r.x, iv r.y, iv r.w, iv r.h] 41)).alloc (.cells #[iv s.x, iv s.y, iv s.w, iv s.h] 41)) (w.heap.size + 1) 41 #[iv s.x, iv s.y, iv s.w, iv s.h] := by
  have h := two_new w 41 #[iv r.x, iv r.y, iv r.w, iv r.h] #[iv s.x, iv s.y, iv s.w, iv s.h]
  exact ⟨h.2.2, h.1, h.2.1⟩
theorem valid_rb {r : R4} (h : validR r = true) : RB r ∧ In64R r := by
  rw [validR_iff] at h
  unfold RB In64R
  omega

set_option maxRecDepth 100000 in
set_option maxHeartbeats 8000000 in
/-- garmentlaw15.OverlapRects -/
theorem lawRects (r s : R4) (A : Option Addr) (c : Nat) (ps : List Z2) (w : World) (h1 : Sp w A ps) (hca : ps.length ≤ c) :
    Calls Try.prog 27 #[rv r, rv s, .slice A ps.length c] w fun e w' => e = .returned (.bool true) ∧ Below w.heap.size w w' := by
  have HA := Lib.hid h1
  clear h1
  go_enter Try.func27, Try.ntmps27
  go_upto_region 1 with fail
  have F := two_boxR w r s
  revert F
  generalize ((w.alloc (.cells #[iv r.x, iv r.y, iv r.w, iv r.h] 41)).alloc (.cells #[iv s.x, iv s.y, iv s.w, iv s.h] 41)) = W
  rintro ⟨hW, B1, B2⟩
  have HW := Lib.hid hW
  have f0 := B1.cell 0; have f1 := B1.cell 1; have f2 := B1.cell 2; have f3 := B1.cell 3
  have g0 := B2.cell 0; have g1 := B2.cell 1; have g2 := B2.cell 2; have g3 := B2.cell 3
  simp at f0 f1 f2 f3 g0 g1 g2 g3
  clear hW B1 B2
  by_cases hm : 10 < ps.length
  case pos =>
    go_wp2_with fail
    refine (example47 _).mono ?_
    rintro e w9 ⟨rfl, hb⟩
    go_wp2
    go_ret
    exact ⟨rfl, below_trans HW.out hb⟩
  case neg =>
  go_wp2_with fail
  refine (valid71 r _).mono ?_
  rintro e w1 ⟨rfl, hb⟩
  replace HW := Lib.hid (below_trans HW.out hb)
  replace f0 := cell_later hb f0; replace f1 := cell_later hb f1; replace f2 := cell_later hb f2; replace f3 := cell_later hb f3; replace g0 := cell_later hb g0; replace g1 := cell_later hb g1; replace g2 := cell_later hb g2; replace g3 := cell_later hb g3
  clear hb
  cases hv : validR r
  case false =>
    clear hv
    go_wp2_with fail
    refine (example47 _).mono ?_
    rintro e w9 ⟨rfl, hb⟩
    go_wp2
    go_ret
    exact ⟨rfl, below_trans HW.out hb⟩
  case true =>
  have VR := Lib.hid hv
  clear hv
  go_wp2_with fail
  refine (valid71 s _).mono ?_
  rintro e w2 ⟨rfl, hb⟩
  replace HW := Lib.hid (below_trans HW.out hb)
  replace f0 := cell_later hb f0; replace f1 := cell_later hb f1; replace f2 := cell_later hb f2; replace f3 := cell_later hb f3; replace g0 := cell_later hb g0; replace g1 := cell_later hb g1; replace g2 := cell_later hb g2; replace g3 := cell_later hb g3
  clear hb
  cases hv : validR s
  case false =>
    clear hv
    go_wp2_with fail
    refine (example47 _).mono ?_
    rintro e w9 ⟨rfl, hb⟩
    go_wp2
    go_ret
    exact ⟨rfl, below_trans HW.out hb⟩
  case true =>
  have VS := Lib.hid hv
  clear hv
  have vr := VR.out
  have vs := VS.out
  have E1 := Lib.hid (ov_ok (rec_chk VR.out) (rec_chk VS.out))
  have LW := Lib.hid (show decide (relZ (cornersR r) (cornersR s) = 1) = openR r s ∧ decide (relZ (cornersR r) (cornersR s) = 0) = (closedR r s && !openR r s) by
    obtain ⟨l1, l2⟩ := rects_law VR.out VS.out
    constructor
    · rw [Bool.eq_iff_iff, decide_eq_true_eq]; exact l1
    · rw [Bool.eq_iff_iff, decide_eq_true_eq, l2]; simp)
  go_wp2_with fail
  go_region_held3 (fun w' => Below w.heap.size w w' ∧ w'.cell? ⟨w.heap.size, 0, none⟩ = some (iv r.x) ∧ w'.cell? ⟨w.heap.size, 1, none⟩ = some (iv r.y) ∧ w'.cell? ⟨w.heap.size, 2, none⟩ = some (iv r.w) ∧ w'.cell? ⟨w.heap.size, 3, none⟩ = some (iv r.h) ∧ w'.cell? ⟨w.heap.size + 1, 0, none⟩ = some (iv s.x) ∧ w'.cell? ⟨w.heap.size + 1, 1, none⟩ = some (iv s.y) ∧ w'.cell? ⟨w.heap.size + 1, 2, none⟩ = some (iv s.w) ∧ w'.cell? ⟨w.heap.size + 1, 3, none⟩ = some (iv s.h))
    (first | exact ⟨HW.out.drew, f0, f1, f2, f3, g0, g1, g2, g3⟩ | assumption | (go_split_ands; refine ⟨below_trans (by assumption) hbq, ?_, ?_, ?_, ?_, ?_, ?_, ?_, ?_⟩ <;> exact cell_later hbq (by assumption)))
    (first
      | (go_at_call 72; refine (corners72 _ _ ?_).mono ?_; (assumption); rintro e w' ⟨g, rfl, hsr, hbq⟩)
      | (go_at_call 48; refine (overlap48 _ _ 4 4 4 4 (cornersR r) (cornersR s) _ rfl rfl ?_ ?_ ?_ ?_).mono ?_; (first | assumption | exact Sp.later (by assumption) (by assumption)); (first | assumption | exact Sp.later (by assumption) (by assumption)); (exact Nat.le_refl 4); (exact Nat.le_refl 4); rintro e w' ⟨rfl, hbq⟩))
  go_split_ands
  clear f0 f1 f2 f3 g0 g1 g2 g3 HW
  rename_i wA hW f0 f1 f2 f3 g0 g1 g2 g3
  have HW := Lib.hid hW
  rw [E1.out.1, E1.out.2.1, LW.out.1]
  go_wp2_with fail
  go_region_held3 (fun w' => Below w.heap.size w w' ∧ w'.cell? ⟨w.heap.size, 0, none⟩ = some (iv r.x) ∧ w'.cell? ⟨w.heap.size, 1, none⟩ = some (iv r.y) ∧ w'.cell? ⟨w.heap.size, 2, none⟩ = some (iv r.w) ∧ w'.cell? ⟨w.heap.size, 3, none⟩ = some (iv r.h) ∧ w'.cell? ⟨w.heap.size + 1, 0, none⟩ = some (iv s.x) ∧ w'.cell? ⟨w.heap.size + 1, 1, none⟩ = some (iv s.y) ∧ w'.cell? ⟨w.heap.size + 1, 2, none⟩ = some (iv s.w) ∧ w'.cell? ⟨w.heap.size + 1, 3, none⟩ = some (iv s.h))
    (first | exact ⟨HW.out.drew, f0, f1, f2, f3, g0, g1, g2, g3⟩ | assumption | (go_split_ands; refine ⟨below_trans (by assumption) hbq, ?_, ?_, ?_, ?_, ?_, ?_, ?_, ?_⟩ <;> exact cell_later hbq (by assumption)))
    (first
      | (go_at_call 72; refine (corners72 _ _ ?_).mono ?_; (assumption); rintro e w' ⟨g, rfl, hsr, hbq⟩)
      | (go_at_call 55; refine (touch55 _ _ 4 4 4 4 (cornersR r) (cornersR s) _ rfl rfl ?_ ?_ ?_ ?_).mono ?_; (first | assumption | exact Sp.later (by assumption) (by assumption)); (first | assumption | exact Sp.later (by assumption) (by assumption)); (exact Nat.le_refl 4); (exact Nat.le_refl 4); rintro e w' ⟨rfl, hbq⟩))
  go_split_ands
  clear f0 f1 f2 f3 g0 g1 g2 g3 HW hW
  rename_i wB hW f0 f1 f2 f3 g0 g1 g2 g3
  have HW := Lib.hid hW
  clear hW
  rw [E1.out.1, E1.out.2.2, LW.out.2]
  have RR := Lib.hid (valid_rb VR.out)
  have RS' := Lib.hid (valid_rb VS.out)
  have key : ∀ (K : Prop), (∀ o k : Bool, openR r s = o → closedR r s = k → K) → K := fun K h => h _ _ rfl rfl
  apply key
  intro o k ho hk
  rw [ho, hk]
  clear key
  go_wp2_with fail
  refine (open69 r s _ RR.out.1 RS'.out.1).mono ?_
  rintro e w3 ⟨rfl, hb⟩
  rw [ho]
  replace HW := Lib.hid (below_trans HW.out hb)
  replace f0 := cell_later hb f0; replace f1 := cell_later hb f1; replace f2 := cell_later hb f2; replace f3 := cell_later hb f3; replace g0 := cell_later hb g0; replace g1 := cell_later hb g1; replace g2 := cell_later hb g2; replace g3 := cell_later hb g3
  clear hb
  have fin : True := trivial
  cases o <;> cases k
  all_goals
    go_wp2_with (first
      | (go_at_call 70; refine (closed70 r s _ RR.out.1 RS'.out.1).mono ?_; rintro e w4 ⟨rfl, hb⟩; rw [hk]; replace HW := Lib.hid (below_trans HW.out hb); replace f0 := cell_later hb f0; replace f1 := cell_later hb f1; replace f2 := cell_later hb f2; replace f3 := cell_later hb f3; replace g0 := cell_later hb g0; replace g1 := cell_later hb g1; replace g2 := cell_later hb g2; replace g3 := cell_later hb g3; clear hb)
      | (go_at_call 69; refine (open69 r s _ RR.out.1 RS'.out.1).mono ?_; rintro e w4 ⟨rfl, hb⟩; rw [ho]; replace HW := Lib.hid (below_trans HW.out hb); replace f0 := cell_later hb f0; replace f1 := cell_later hb f1; replace f2 := cell_later hb f2; replace f3 := cell_later hb f3; replace g0 := cell_later hb g0; replace g1 := cell_later hb g1; replace g2 := cell_later hb g2; replace g3 := cell_later hb g3; clear hb)
      | fail)
    refine (check46 A _ c ps _ rfl (HA.out.later HW.out)).mono ?_
    rintro e w5 ⟨rfl, hb⟩
    replace HW := Lib.hid (below_trans HW.out hb)
    replace f0 := cell_later hb f0; replace f1 := cell_later hb f1; replace f2 := cell_later hb f2; replace f3 := cell_later hb f3; replace g0 := cell_later hb g0; replace g1 := cell_later hb g1; replace g2 := cell_later hb g2; replace g3 := cell_later hb g3
    clear hb
    by_cases h0 : chkZ ps = 0
    case neg =>
      have hd : (chkZ ps != 0) = true := by simpa using h0
      clear h0
      go_wp2_with fail
      refine (example47 _).mono ?_
      rintro e w9 ⟨rfl, hb⟩
      go_wp2
      go_ret
      exact ⟨rfl, below_trans HW.out hb⟩
    case pos =>
    have H0 := Lib.hid h0
    rw [h0]
    clear h0
    have E2 := Lib.hid (ov_ok H0.out (rec_chk VR.out))
    have LH := Lib.hid (show decide (relZ ps (cornersR r) = 1) = hitZ ps r by rw [Bool.eq_iff_iff, decide_eq_true_eq]; exact (hit_rel H0.out VR.out).symm)
    go_wp2_with fail
    refine (hits65 A _ c ps r _ rfl (HA.out.later HW.out) hca RR.out.2).mono ?_
    rintro e w6 ⟨rfl, hb⟩
    rw [H0.out]
    replace HW := Lib.hid (below_trans HW.out hb)
    replace f0 := cell_later hb f0; replace f1 := cell_later hb f1; replace f2 := cell_later hb f2; replace f3 := cell_later hb f3; replace g0 := cell_later hb g0; replace g1 := cell_later hb g1; replace g2 := cell_later hb g2; replace g3 := cell_later hb g3
    clear hb
    go_wp2_with fail
    refine (corners72 r _ VR.out).mono ?_
    rintro e w7 ⟨gc, rfl, hsc, hb⟩
    have HC := Lib.hid hsc
    clear hsc
    replace HW := Lib.hid (below_trans HW.out hb)
    replace f0 := cell_later hb f0; replace f1 := cell_later hb f1; replace f2 := cell_later hb f2; replace f3 := cell_later hb f3; replace g0 := cell_later hb g0; replace g1 := cell_later hb g1; replace g2 := cell_later hb g2; replace g3 := cell_later hb g3
    clear hb
    go_wp2_with fail
    refine (overlap48 A (some ⟨gc, 0, none⟩) _ 4 c 4 ps (cornersR r) _ rfl rfl (HA.out.later HW.out) HC.out hca (Nat.le_refl 4)).mono ?_
    rintro e w8 ⟨rfl, hb⟩
    rw [E2.out.1, E2.out.2.1, LH.out]
    replace HW := Lib.hid (below_trans HW.out hb)
    clear hb f0 f1 f2 f3 g0 g1 g2 g3
    generalize hitZ ps r = hz at *
    go_wp2_with fail
    refine (example47 _).mono ?_
    rintro e w9 ⟨rfl, hb⟩
    go_wp2
    go_ret
    exact ⟨rfl, below_trans HW.out hb⟩
end Go.Proofs.Ytfgeengdmbabhaa
