import Derived.Test.YtfgeengdmbabhaaA6
import Derived.Test.YtfgeengdmbabhaaPj
namespace Go.Proofs.Ytfgeengdmbabhaa
open Go.RowKit
attribute [local go_sem ↓] Go.wp_at_zero Go.wp_at_succ

set_option maxRecDepth 100000 in
set_option maxHeartbeats 4000000 in
/-- garmentlaw13.TriangleConvex -/
theorem lawTConvex (A : Option Addr) (c : Nat) (ps : List Z2) (w : World) (hsp : Sp w A ps) (hcap : ps.length ≤ c) :
    Calls Try.prog 19 #[.slice A ps.length c] w fun e w' => e = .returned (.bool true) ∧ Below w.heap.size w w' := by
  have HS := Lib.hid hsp; clear hsp
  go_enter Try.func19, Try.ntmps19
  by_cases hm : 60 < ps.length
  case pos =>
    have dF := decide_eq_true hm
    go_wp2_with fail
    refine (many56 _ _ _ _).mono ?_
    rintro e w1 ⟨rfl, rfl⟩
    rw [dF]
    go_wp2_with fail
    refine (alive57 _).mono ?_
    rintro e w8 ⟨rfl, hb⟩
    go_wp2
    go_ret
    exact ⟨rfl, hb⟩
  case neg =>
  have dF := decide_eq_false hm
  go_wp2_with fail
  refine (many56 _ _ _ _).mono ?_
  rintro e w1 ⟨rfl, rfl⟩
  rw [dF]
  clear dF
  go_wp2_with fail
  refine (convex44 A c ps _ HS.out hcap).mono ?_
  rintro e w2 ⟨rfl, hb⟩
  have HW := Lib.hid hb
  clear hb
  by_cases h0 : chkZ ps = 0
  case neg =>
    have hd : (chkZ ps != 0) = true := by simpa using h0
    clear h0
    go_wp2_with fail
    refine (alive57 _).mono ?_
    rintro e w8 ⟨rfl, hb⟩
    go_wp2
    go_ret
    exact ⟨rfl, below_trans HW.out hb⟩
  case pos =>
  have H0 := Lib.hid h0
  rw [cvZ_pos h0, h0]
  clear h0
  cases hcv : convexZ ps
  case false =>
    go_wp2_with fail
    refine (alive57 _).mono ?_
    rintro e w8 ⟨rfl, hb⟩
    go_wp2
    go_ret
    exact ⟨rfl, below_trans HW.out hb⟩
  case true =>
  have hcount := count_law H0.out hcv
  have hrl := split_len ps
  clear hcv
  go_wp2_with fail
  refine (normal32 A c ps _ (HS.out.later HW.out) hcap).mono ?_
  rintro e w3 ⟨A1, c1, rfl, hc1, hs1, hb⟩
  replace HW := Lib.hid (below_trans HW.out hb)
  clear hb hs1
  rw [H0.out]
  go_wp2_with fail
  refine (split58' A _ c ps _ rfl (HS.out.later HW.out) hcap).mono ?_
  rintro e w4 ⟨A2, c2, rfl, hc2, hs2, hb⟩
  replace HW := Lib.hid (below_trans HW.out hb)
  clear hb hs2
  rw [splitE_eq, H0.out]
  clear hc1 hc2
  generalize (splitZ ps).length = a at *
  generalize (normZ ps).length = b at *
  have s1 : IntKind.i64.wrap ((b : Int) - 2) = (b : Int) - 2 := IntWalk.i64_in _ (by omega)
  have s2 : ((a : Int) == (b : Int) - 2) = true := by rw [beq_iff_eq]; omega
  go_wp2_with fail
  refine (alive57 _).mono ?_
  rintro e w8 ⟨rfl, hb⟩
  go_wp2
  go_ret
  exact ⟨rfl, below_trans HW.out hb⟩
end Go.Proofs.Ytfgeengdmbabhaa
