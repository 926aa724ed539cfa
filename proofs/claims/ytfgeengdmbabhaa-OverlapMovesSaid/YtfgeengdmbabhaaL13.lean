import Derived.Test.YtfgeengdmbabhaaA3
namespace Go.Proofs.Ytfgeengdmbabhaa
open Go.RowKit
attribute [local go_sem ↓] Go.wp_at_zero Go.wp_at_succ

theorem boxZ_bd {ps : List Z2} : (-16000000 ≤ (boxZ ps).x ∧ (boxZ ps).x ≤ 16000000) ∧ (-16000000 ≤ (boxZ ps).y ∧ (boxZ ps).y ≤ 16000000) ∧ (-16000000 ≤ (boxZ ps).w ∧ (boxZ ps).w ≤ 16000000) ∧ (-16000000 ≤ (boxZ ps).h ∧ (boxZ ps).h ≤ 16000000) := by
  by_cases h : chkZ ps = 0
  · rw [boxZ_pos h]
    have hD := (chkZ_zero h).2.2.1
    have h1 := loTo_bd hD ps.length
    have h2 := hiTo_bd hD ps.length
    unfold Bd at *
    simp only [boxR]
    omega
  · rw [boxZ_neg h]; simp only; omega

/-- the end of a law: 'return awake()' -/
theorem rvBlk (w : World) (r : R4) : Blk (w.alloc (.cells #[iv r.x, iv r.y, iv r.w, iv r.h] 41)) w.heap.size 41 #[iv r.x, iv r.y, iv r.w, iv r.h] := Blk.new _ _ _

set_option maxRecDepth 100000 in
set_option maxHeartbeats 2000000 in
/-- garmentlaw11.PolygonMoves -/
theorem lawMoves (A : Option Addr) (c : Nat) (ps : List Z2) (d q : Z2) (w : World) (hsp : Sp w A ps) (hcap : ps.length ≤ c) :
    Calls Try.prog 13 #[.slice A ps.length c, sv d, sv q] w fun e w' => e = .returned (.bool true) ∧ Below w.heap.size w w' := by
  have HS := Lib.hid hsp; clear hsp
  by_cases hf : ps.length ≤ 50
  case neg =>
    have dF := decide_eq_false hf
    go_enter Try.func13, Try.ntmps13
    go_wp2_with fail
    refine (few30 _ _ _ _).mono ?_
    rintro e w1 ⟨rfl, rfl⟩
    rw [dF]
    go_wp2_with fail
    refine (awake31 _).mono ?_
    rintro e w8 ⟨rfl, hb⟩
    go_wp2
    go_ret
    exact ⟨rfl, below_trans (boxes2 w d q).1 hb⟩
  case pos =>
    have dF := decide_eq_true hf
    go_enter Try.func13, Try.ntmps13
    go_wp2_with fail
    refine (few30 _ _ _ _).mono ?_
    rintro e w1 ⟨rfl, rfl⟩
    have F := boxes2 w d q
    revert F
    generalize ((w.alloc (.cells #[iv d.x, iv d.y] 30)).alloc (.cells #[iv q.x, iv q.y] 30)) = W
    rintro ⟨hW, f1, f2, f3, f4⟩
    rw [dF]
    clear dF
    go_wp2_with fail
    refine (within43 d _).mono ?_
    rintro e w1 ⟨rfl, hb⟩
    replace hW := below_trans hW hb; replace f1 := cell_later hb f1; replace f2 := cell_later hb f2; replace f3 := cell_later hb f3; replace f4 := cell_later hb f4
    clear hb W
    cases hod : outZ d
    case true =>
      simp only [Bool.not_true]
      clear hod
      go_wp2_with fail
      refine (awake31 _).mono ?_
      rintro e w8 ⟨rfl, hb⟩
      go_wp2
      go_ret
      exact ⟨rfl, below_trans hW hb⟩
    case false =>
    have HOD := Lib.hid hod
    simp only [Bool.not_false]
    clear hod
    go_wp2_with fail
    refine (within43 q _).mono ?_
    rintro e w2 ⟨rfl, hb⟩
    replace hW := below_trans hW hb; replace f1 := cell_later hb f1; replace f2 := cell_later hb f2; replace f3 := cell_later hb f3; replace f4 := cell_later hb f4
    clear hb
    cases hoq : outZ q
    case true =>
      simp only [Bool.not_true]
      clear hoq
      go_wp2_with fail
      refine (awake31 _).mono ?_
      rintro e w8 ⟨rfl, hb⟩
      go_wp2
      go_ret
      exact ⟨rfl, below_trans hW hb⟩
    case false =>
    have HOQ := Lib.hid hoq
    simp only [Bool.not_false]
    clear hoq
    go_wp2_with fail
    refine (check38 A c ps _ (HS.out.later hW) hcap).mono ?_
    rintro e w3 ⟨rfl, hb⟩
    replace hW := below_trans hW hb; replace f1 := cell_later hb f1; replace f2 := cell_later hb f2; replace f3 := cell_later hb f3; replace f4 := cell_later hb f4
    clear hb
    by_cases h0 : chkZ ps = 0
    case neg =>
      have hd : (chkZ ps != 0) = true := by simpa using h0
      clear h0
      go_wp2_with fail
      refine (awake31 _).mono ?_
      rintro e w8 ⟨rfl, hb⟩
      go_wp2
      go_ret
      exact ⟨rfl, below_trans hW hb⟩
    case pos =>
    have H0 := Lib.hid h0
    have HM := Lib.hid (moves_law (q := q) h0 HOD.out HOQ.out)
    have HL := Lib.hid (show (moveZ ps d).length = ps.length by simp [moveZ])
    rw [h0]
    clear h0
    have hdb := (out_iff d).1 HOD.out
    have hqb := (out_iff q).1 HOQ.out
    go_wp2_with fail
    refine (move52 A c ps d _ (HS.out.later hW) (by omega)).mono ?_
    rintro e w4 ⟨A', c', rfl, hc', hs', hb⟩
    replace hW := below_trans hW hb; replace f1 := cell_later hb f1; replace f2 := cell_later hb f2; replace f3 := cell_later hb f3; replace f4 := cell_later hb f4
    have HS' := Lib.hid (And.intro hs' hc')
    clear hb hs' hc'
    go_wp2_with fail
    refine (check38 A' c' (moveZ ps d) _ HS'.out.1 HS'.out.2).mono ?_
    rintro e w5 ⟨rfl, hb⟩
    replace hW := below_trans hW hb; replace f1 := cell_later hb f1; replace f2 := cell_later hb f2; replace f3 := cell_later hb f3; replace f4 := cell_later hb f4
    replace HS' := Lib.hid (And.intro (HS'.out.1.later hb) HS'.out.2)
    clear hb
    rcases HM.out with h3 | ⟨h3, hbox, hwh, har⟩
    · rw [h3]
      have H3 := Lib.hid h3
      clear h3
      go_wp2_with fail
      refine (check38 A' c' (moveZ ps d) _ HS'.out.1 HS'.out.2).mono ?_
      rintro e w6 ⟨rfl, hb⟩
      rw [H3.out]
      replace hW := below_trans hW hb
      clear hb
      go_wp2_with fail
      refine (awake31 _).mono ?_
      rintro e w8 ⟨rfl, hb⟩
      go_wp2
      go_ret
      exact ⟨rfl, below_trans hW hb⟩
    · have H3 := Lib.hid h3
      have HB := Lib.hid hbox; have HW := Lib.hid hwh; have HA := Lib.hid har
      rw [h3]
      clear h3 hbox hwh har HM
      obtain ⟨bx, by', bw, bh⟩ := boxZ_bd (ps := ps)
      have abd := aZ_bd ps
      go_wp2_with fail
      refine (box42 A c ps _ (HS.out.later hW) hcap).mono ?_
      rintro e w6 ⟨rfl, hb⟩
      replace hW := below_trans hW hb; replace f1 := cell_later hb f1; replace f2 := cell_later hb f2; replace f3 := cell_later hb f3; replace f4 := cell_later hb f4
      replace HS' := Lib.hid (And.intro (HS'.out.1.later hb) HS'.out.2)
      clear hb
      rw [H0.out]
      go_wp2_with fail
      have hb := below_alloc w6 (.cells #[iv (boxZ ps).x, iv (boxZ ps).y, iv (boxZ ps).w, iv (boxZ ps).h] 41)
      have k1 := rvBlk w6 (boxZ ps)
      revert hb k1
      generalize w6.alloc (.cells #[iv (boxZ ps).x, iv (boxZ ps).y, iv (boxZ ps).w, iv (boxZ ps).h] 41) = W6
      intro hb k1
      replace hW := below_trans hW hb; replace f1 := cell_later hb f1; replace f2 := cell_later hb f2; replace f3 := cell_later hb f3; replace f4 := cell_later hb f4
      replace HS' := Lib.hid (And.intro (HS'.out.1.later hb) HS'.out.2)
      clear hb
      refine (box42 A' c' (moveZ ps d) _ HS'.out.1 HS'.out.2).mono ?_
      rintro e w7 ⟨rfl, hb⟩
      replace hW := below_trans hW hb; replace f1 := cell_later hb f1; replace f2 := cell_later hb f2; replace f3 := cell_later hb f3; replace f4 := cell_later hb f4
      replace HS' := Lib.hid (And.intro (HS'.out.1.later hb) HS'.out.2)
      replace k1 := k1.later hb
      clear hb
      rw [H3.out, HB.out]
      go_upto_region 8 with fail
      have hb := below_alloc w7 (.cells #[iv ((boxZ ps).x + d.x), iv ((boxZ ps).y + d.y), iv (boxZ ps).w, iv (boxZ ps).h] 41)
      have k2 := rvBlk w7 ⟨(boxZ ps).x + d.x, (boxZ ps).y + d.y, (boxZ ps).w, (boxZ ps).h⟩
      simp only at k2
      revert hb k2
      generalize w7.alloc (.cells #[iv ((boxZ ps).x + d.x), iv ((boxZ ps).y + d.y), iv (boxZ ps).w, iv (boxZ ps).h] 41) = W7
      intro hb k2
      replace hW := below_trans hW hb; replace f1 := cell_later hb f1; replace f2 := cell_later hb f2; replace f3 := cell_later hb f3; replace f4 := cell_later hb f4
      replace HS' := Lib.hid (And.intro (HS'.out.1.later hb) HS'.out.2)
      replace k1 := k1.later hb
      clear hb
      go_wp2_with fail
      refine (where35 A c ps q _ (HS.out.later hW) hcap).mono ?_
      rintro e w8 ⟨rfl, hb⟩
      replace hW := below_trans hW hb; replace f1 := cell_later hb f1; replace f2 := cell_later hb f2; replace f3 := cell_later hb f3; replace f4 := cell_later hb f4
      replace HS' := Lib.hid (And.intro (HS'.out.1.later hb) HS'.out.2)
      replace k1 := k1.later hb; replace k2 := k2.later hb
      clear hb
      rw [H0.out]
      have K1 := Lib.hid k1; have K2 := Lib.hid k2
      clear k1 k2
      go_wp2_with fail
      refine (where35 A' c' (moveZ ps d) ⟨q.x + d.x, q.y + d.y⟩ _ HS'.out.1 HS'.out.2).mono ?_
      rintro e w9 ⟨rfl, hb⟩
      replace hW := below_trans hW hb; replace f1 := cell_later hb f1; replace f2 := cell_later hb f2
      replace HS' := Lib.hid (And.intro (HS'.out.1.later hb) HS'.out.2)
      have k1 := K1.out.later hb; have k2 := K2.out.later hb
      clear hb K1 K2 f3 f4
      rw [H3.out, HW.out]
      have r0 := k1.cell 0; have r1 := k1.cell 1; have r2 := k1.cell 2; have r3 := k1.cell 3
      have s0 := k2.cell 0; have s1 := k2.cell 1; have s2 := k2.cell 2; have s3 := k2.cell 3
      simp at r0 r1 r2 r3 s0 s1 s2 s3
      clear k1 k2
      have he : ∀ w, (binOp .eql 41 (rv ⟨(boxZ ps).x + d.x, (boxZ ps).y + d.y, (boxZ ps).w, (boxZ ps).h⟩) (rv ⟨(boxZ ps).x + d.x, (boxZ ps).y + d.y, (boxZ ps).w, (boxZ ps).h⟩)).run Try.prog w = .ok (.bool true) w := fun w => by rw [eql41]; simp
      go_wp2_with fail
      clear he r0 r1 r2 r3 s0 s1 s2 s3
      refine (area2_39 A' c' (moveZ ps d) _ HS'.out.1 HS'.out.2).mono ?_
      rintro e w10 ⟨rfl, hb⟩
      replace hW := below_trans hW hb
      clear hb f1 f2
      rw [HA.out]
      go_wp2_with fail
      refine (area2_39 A c ps _ (HS.out.later hW) hcap).mono ?_
      rintro e w11 ⟨rfl, hb⟩
      replace hW := below_trans hW hb
      clear hb
      go_wp2_with fail
      refine (awake31 _).mono ?_
      rintro e w12 ⟨rfl, hb⟩
      go_wp2
      go_ret
      exact ⟨rfl, below_trans hW hb⟩
end Go.Proofs.Ytfgeengdmbabhaa
