import Derived.Test.YtfgeengdmbabhaaVc
import Derived.Test.YtfgeengdmbabhaaVf
namespace Go.Proofs.Ytfgeengdmbabhaa
open Go.RowKit
attribute [local go_sem ↓] Go.wp_at_zero Go.wp_at_succ
set_option maxRecDepth 100000 in
set_option maxHeartbeats 4000000 in
/-- garmentlaw15.OverlapResults -/
theorem lawResults (A B : Option Addr) (c d : Nat) (a b : List Z2) (w : World) (h1 : Sp w A a) (hca : a.length ≤ c) (h2 : Sp w B b) (hcb : b.length ≤ d) :
    Calls Try.prog 22 #[.slice A a.length c, .slice B b.length d] w fun e w' => e = .returned (.bool true) ∧ Below w.heap.size w w' := by
  have HA := Lib.hid h1; have HB := Lib.hid h2
  have HW := Lib.hid (Below.refl w.heap.size w)
  clear h1 h2
  go_enter Try.func22, Try.ntmps22
  by_cases a1 : 100 < a.length
  case pos =>
    go_wp2_with fail
    refine (example47 _).mono ?_
    rintro e w9 ⟨rfl, hb⟩
    go_wp2
    go_ret
    exact ⟨rfl, below_trans HW.out hb⟩
  case neg =>
  by_cases b1 : 100 < b.length
  case pos =>
    go_wp2_with fail
    refine (example47 _).mono ?_
    rintro e w9 ⟨rfl, hb⟩
    go_wp2
    go_ret
    exact ⟨rfl, below_trans HW.out hb⟩
  case neg =>
  by_cases a2 : a.length ≤ 40
  case neg =>
    go_wp2_with fail
    refine (overlap48 A B _ _ c d a b _ rfl rfl (HA.out.later HW.out) (HB.out.later HW.out) hca hcb).mono ?_
    rintro e w4 ⟨rfl, hb⟩
    replace HW := Lib.hid (below_trans HW.out hb)
    clear hb
    go_wp2_with fail
    refine (overlap63 A B _ _ c d a b _ rfl rfl (HA.out.later HW.out) (HB.out.later HW.out)).mono ?_
    rintro e w5 ⟨rfl, hb⟩
    replace HW := Lib.hid (below_trans HW.out hb)
    clear hb
    go_wp2_with fail
    refine (touch55 A B _ _ c d a b _ rfl rfl (HA.out.later HW.out) (HB.out.later HW.out) hca hcb).mono ?_
    rintro e w6 ⟨rfl, hb⟩
    replace HW := Lib.hid (below_trans HW.out hb)
    clear hb
    go_wp2_with fail
    refine (touch64 A B _ _ c d a b _ rfl rfl (HA.out.later HW.out) (HB.out.later HW.out)).mono ?_
    rintro e w7 ⟨rfl, hb⟩
    replace HW := Lib.hid (below_trans HW.out hb)
    clear hb
    generalize ovZ a b = v1 at *
    generalize toZ a b = v2 at *
    generalize relE a b = v3 at *
    go_wp2_with fail
    refine (example47 _).mono ?_
    rintro e w9 ⟨rfl, hb⟩
    go_wp2
    go_ret
    exact ⟨rfl, below_trans HW.out hb⟩
  case pos =>
  by_cases b2 : b.length ≤ 40
  case neg =>
    go_wp2_with fail
    refine (overlap48 A B _ _ c d a b _ rfl rfl (HA.out.later HW.out) (HB.out.later HW.out) hca hcb).mono ?_
    rintro e w4 ⟨rfl, hb⟩
    replace HW := Lib.hid (below_trans HW.out hb)
    clear hb
    go_wp2_with fail
    refine (overlap63 A B _ _ c d a b _ rfl rfl (HA.out.later HW.out) (HB.out.later HW.out)).mono ?_
    rintro e w5 ⟨rfl, hb⟩
    replace HW := Lib.hid (below_trans HW.out hb)
    clear hb
    go_wp2_with fail
    refine (touch55 A B _ _ c d a b _ rfl rfl (HA.out.later HW.out) (HB.out.later HW.out) hca hcb).mono ?_
    rintro e w6 ⟨rfl, hb⟩
    replace HW := Lib.hid (below_trans HW.out hb)
    clear hb
    go_wp2_with fail
    refine (touch64 A B _ _ c d a b _ rfl rfl (HA.out.later HW.out) (HB.out.later HW.out)).mono ?_
    rintro e w7 ⟨rfl, hb⟩
    replace HW := Lib.hid (below_trans HW.out hb)
    clear hb
    generalize ovZ a b = v1 at *
    generalize toZ a b = v2 at *
    generalize relE a b = v3 at *
    go_wp2_with fail
    refine (example47 _).mono ?_
    rintro e w9 ⟨rfl, hb⟩
    go_wp2
    go_ret
    exact ⟨rfl, below_trans HW.out hb⟩
  case pos =>
  go_wp2_with fail
  refine (few45 _ _ _ _ _ _ _).mono ?_
  rintro e w1 ⟨rfl, rfl⟩
  cases hf : (decide (a.length ≤ 10) && decide (b.length ≤ 10))
  case false =>
    clear hf
    go_wp2_with fail
    refine (example47 _).mono ?_
    rintro e w9 ⟨rfl, hb⟩
    go_wp2
    go_ret
    exact ⟨rfl, below_trans HW.out hb⟩
  case true =>
    clear hf
    go_wp2_with fail
    refine (overlap48 A B _ _ c d a b _ rfl rfl (HA.out.later HW.out) (HB.out.later HW.out) hca hcb).mono ?_
    rintro e w4 ⟨rfl, hb⟩
    replace HW := Lib.hid (below_trans HW.out hb)
    clear hb
    go_wp2_with fail
    refine (overlap63 A B _ _ c d a b _ rfl rfl (HA.out.later HW.out) (HB.out.later HW.out)).mono ?_
    rintro e w5 ⟨rfl, hb⟩
    replace HW := Lib.hid (below_trans HW.out hb)
    clear hb
    go_wp2_with fail
    refine (touch55 A B _ _ c d a b _ rfl rfl (HA.out.later HW.out) (HB.out.later HW.out) hca hcb).mono ?_
    rintro e w6 ⟨rfl, hb⟩
    replace HW := Lib.hid (below_trans HW.out hb)
    clear hb
    go_wp2_with fail
    refine (touch64 A B _ _ c d a b _ rfl rfl (HA.out.later HW.out) (HB.out.later HW.out)).mono ?_
    rintro e w7 ⟨rfl, hb⟩
    replace HW := Lib.hid (below_trans HW.out hb)
    clear hb
    generalize ovZ a b = v1 at *
    generalize toZ a b = v2 at *
    generalize relE a b = v3 at *
    go_wp2_with fail
    refine (example47 _).mono ?_
    rintro e w9 ⟨rfl, hb⟩
    go_wp2
    go_ret
    exact ⟨rfl, below_trans HW.out hb⟩
end Go.Proofs.Ytfgeengdmbabhaa
