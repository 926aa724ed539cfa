import Derived.Test.YtfgeengdmbabhaaL16
namespace Go.Proofs.Ytfgeengdmbabhaa
open Go.RowKit
attribute [local go_sem ↓] Go.wp_at_zero Go.wp_at_succ

theorem cntL_take (f : List Z2 → Bool) (rs : List (List Z2)) (k : Nat) (hk : k < rs.length) : cntL f (rs.take (k + 1)) = cntL f (rs.take k) + if f (rs.getD k []) then 1 else 0 := by
  induction rs generalizing k with
  | nil => simp at hk
  | cons t rs ih =>
    cases k with
    | zero => simp [cntL]
    | succ k =>
      simp only [List.take_succ_cons, cntL, List.getD_cons_succ]
      rw [ih k (by simpa using hk)]; omega
theorem cntL_le (f : List Z2 → Bool) (rs : List (List Z2)) : cntL f rs ≤ rs.length := by
  induction rs with
  | nil => simp [cntL]
  | cons t rs ih => simp only [cntL, List.length_cons]; split <;> omega

set_option maxRecDepth 100000 in
set_option maxHeartbeats 4000000 in
/-- garmentlaw13.TriangleCovers -/
theorem lawCovers (A : Option Addr) (c : Nat) (ps : List Z2) (q : Z2) (w : World) (hsp : Sp w A ps) (hcap : ps.length ≤ c) :
    Calls Try.prog 20 #[.slice A ps.length c, sv q] w fun e w' => e = .returned (.bool true) ∧ Below w.heap.size w w' := by
  have HS := Lib.hid hsp; clear hsp
  by_cases hm : 60 < ps.length
  case pos =>
    have dF := decide_eq_true hm
    go_enter Try.func20, Try.ntmps20
    go_wp2_with fail
    refine (many56 _ _ _ _).mono ?_
    rintro e w1 ⟨rfl, rfl⟩
    rw [dF]
    go_wp2_with fail
    refine (alive57 _).mono ?_
    rintro e w8 ⟨rfl, hb⟩
    go_wp2
    go_ret
    exact ⟨rfl, below_trans (below_alloc _ _) hb⟩
  case neg =>
  have dF := decide_eq_false hm
  go_enter Try.func20, Try.ntmps20
  go_wp2_with fail
  refine (many56 _ _ _ _).mono ?_
  rintro e w1 ⟨rfl, rfl⟩
  have F := boxes1 w q
  revert F
  generalize w.alloc (.cells #[iv q.x, iv q.y] 30) = W
  rintro ⟨hW, f1, f2⟩
  rw [dF]
  clear dF
  go_wp2_with fail
  refine (split58' A _ c ps _ rfl (HS.out.later hW) hcap).mono ?_
  rintro e w2 ⟨A2, c2, rfl, hc2, hs2, hb2⟩
  rw [splitE_eq]
  replace hW := below_trans hW hb2; replace f1 := cell_later hb2 f1; replace f2 := cell_later hb2 f2
  clear hb2
  have H2 := Lib.hid hs2
  clear hs2
  go_wp2_with fail
  refine (where35 A c ps q _ (HS.out.later hW) hcap).mono ?_
  rintro e w3 ⟨rfl, hb⟩
  replace hW := below_trans hW hb; replace f1 := cell_later hb f1; replace f2 := cell_later hb f2
  replace H2 := Lib.hid (H2.out.later hb)
  clear hb
  by_cases h0 : chkZ ps = 0
  case neg =>
    have hd : (chkZ ps != 0) = true := by simpa using h0
    rw [(split_no h0).1]
    clear h0 hc2 f1 f2
    go_wp2_with fail
    refine (alive57 _).mono ?_
    rintro e w8 ⟨rfl, hb⟩
    go_wp2
    go_ret
    exact ⟨rfl, below_trans hW hb⟩
  case pos =>
  have HCV := Lib.hid (covers_law h0 q)
  have HNE := Lib.hid (split_some h0)
  have hrl := split_len ps
  rw [h0]
  clear h0
  have HW := Lib.hid hW
  clear hW
  generalize splitZ ps = rs at *
  go_wp2_with fail
  go_loopw [9, 10, 11] (fun v1 v2 v wr => ∃ i : Nat, i ≤ rs.length ∧ v = .int .i64 i ∧ v1 = iv (cntL (isIn q) (rs.take i)) ∧ v2 = iv (cntL (isOn q) (rs.take i)) ∧ Below w3.heap.size w3 wr) (fun _ _ v _ => rs.length - (intOf v).toNat)
  case atStart => exact ⟨0, Nat.zero_le _, rfl, rfl, rfl, Below.refl _ _⟩
  case round =>
    obtain ⟨i, hi, rfl, rfl, rfl, hB⟩ := hrel
    by_cases hlt : i < rs.length
    · obtain ⟨b2, off2, rfl, hc3⟩ := (H2.out.later hB) HNE.out
      obtain ⟨A', c', r1, r2, r3⟩ := hc3 i hlt
      have HT := Lib.hid r3
      have HC1 := Lib.hid (cntL_take (isIn q) rs i hlt)
      have HC2 := Lib.hid (cntL_take (isOn q) rs i hlt)
      have b1 := cntL_le (isIn q) (rs.take i)
      have b2' := cntL_le (isOn q) (rs.take i)
      have b3 : (rs.take i).length ≤ 60 := by simp; omega
      replace b1 := Nat.le_trans b1 b3
      replace b2' := Nat.le_trans b2' b3
      clear hc3 r2 r3 b3
      have g1 := cell_later hB f1; have g2 := cell_later hB f2
      generalize rs.getD i [] = t at *
      generalize cntL (isIn q) (rs.take i) = n1 at *
      generalize cntL (isOn q) (rs.take i) = n2 at *
      have i1 : (0 : Int) ≤ (i : Int) := by omega
      have i2 : (i : Int) < (rs.length : Int) := by omega
      go_wp2_with fail
      go_region_held3 (fun w' => Below wr.heap.size wr w' ∧ w'.cell? ⟨w.heap.size, 0, none⟩ = some (iv q.x) ∧ w'.cell? ⟨w.heap.size, 1, none⟩ = some (iv q.y) ∧ w'.cell? ⟨b2, off2 + i, none⟩ = some (.slice A' t.length c'))
        (first | exact ⟨below_drew wr, g1, g2, r1⟩ | assumption | (go_split_ands; refine ⟨below_trans (by assumption) hbq, ?_, ?_, ?_⟩ <;> exact cell_later hbq (by assumption)))
        (first | (go_at_call 60; refine (holds60 A' _ c' t q _ rfl (Sp.drew HT.out)).mono ?_; rintro e w' ⟨rfl, hbq⟩))
      go_split_ands
      rename_i hbr _ _ _
      have hB4 := hB.trans (hbr.mono hB.size)
      by_cases c1 : holdsZ t q = 1
      · have hd : (holdsZ t q == 1) = true := by simpa using c1
        have HX := Lib.hid c1
        clear c1
        go_wp2_with fail
        go_roundw
        case rel =>
          refine ⟨i + 1, by omega, by go_num, ?_, ?_, hB4⟩
          · rw [HC1.out]; unfold isIn; rw [HX.out]; rfl
          · rw [HC2.out]; unfold isOn; rw [HX.out]; rfl
        case measure => simp [intOf]; omega
      · have hd : (holdsZ t q == 1) = false := by simpa using c1
        have HX1 := Lib.hid c1
        clear c1
        by_cases c2 : holdsZ t q = 0
        · have hd2 : (holdsZ t q == 0) = true := by simpa using c2
          have HX := Lib.hid c2
          clear c2
          go_wp2_with fail
          go_roundw
          case rel =>
            refine ⟨i + 1, by omega, by go_num, ?_, ?_, hB4⟩
            · rw [HC1.out]; unfold isIn; rw [HX.out]; rfl
            · rw [HC2.out]; unfold isOn; rw [HX.out]; rfl
          case measure => simp [intOf]; omega
        · have hd2 : (holdsZ t q == 0) = false := by simpa using c2
          have HX := Lib.hid c2
          clear c2
          go_wp2_with fail
          go_roundw
          case rel =>
            refine ⟨i + 1, by omega, by go_num, ?_, ?_, hB4⟩
            · rw [HC1.out]; unfold isIn; rw [decide_eq_false HX1.out]; rfl
            · rw [HC2.out]; unfold isOn; rw [decide_eq_false HX.out]; rfl
          case measure => simp [intOf]; omega
    · have e : rs.take i = rs := List.take_of_length_le (by omega)
      rw [e]
      clear e
      obtain ⟨cv1, cv2⟩ := HCV.out
      have b1 := cntL_le (isIn q) rs
      have b2' := cntL_le (isOn q) rs
      generalize cntL (isIn q) rs = n1 at *
      generalize cntL (isOn q) rs = n2 at *
      rcases cv1 with rfl | ⟨rfl, rfl, hw1⟩
      · have hd : ((whereZ ps q == -1) == ((n2 : Int) == 0)) = true := by
          by_cases hz : whereZ ps q = -1
          · have : n2 = 0 := by have := cv2.1 hz; omega
            simp [hz, this]
          · have h1 : (whereZ ps q == -1) = false := by simpa using hz
            have h2 : ((n2 : Int) == 0) = false := by
              have : n2 ≠ 0 := fun e => hz (cv2.2 (by omega))
              simpa using this
            rw [h1, h2]; rfl
        have HD := Lib.hid hd
        go_wp2_with fail
        refine (alive57 _).mono ?_
        rintro e w8 ⟨rfl, hb⟩
        go_wp2
        go_ret
        exact ⟨rfl, below_trans (below_trans HW.out hB) hb⟩
      · rw [hw1]
        clear hw1 cv2
        go_wp2_with fail
        refine (alive57 _).mono ?_
        rintro e w8 ⟨rfl, hb⟩
        go_wp2
        go_ret
        exact ⟨rfl, below_trans (below_trans HW.out hB) hb⟩
end Go.Proofs.Ytfgeengdmbabhaa
