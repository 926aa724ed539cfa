import Derived.Test.YtfgeengdmbabhaaL25
import Derived.Test.YtfgeengdmbabhaaQb
namespace Go.Proofs.Ytfgeengdmbabhaa
open Go.RowKit
attribute [local go_sem ↓] Go.wp_at_zero Go.wp_at_succ
set_option maxRecDepth 100000 in
set_option maxHeartbeats 4000000 in
/-- garmentlaw15.OverlapPoints -/
theorem lawPoints (A B : Option Addr) (c d : Nat) (a b : List Z2) (q : Z2) (w : World) (h1 : Sp w A a) (hca : a.length ≤ c) (h2 : Sp w B b) (hcb : b.length ≤ d) :
    Calls Try.prog 9 #[.slice A a.length c, .slice B b.length d, sv q] w fun e w' => e = .returned (.bool true) ∧ Below w.heap.size w w' := by
  have HA := Lib.hid h1; have HB := Lib.hid h2
  clear h1 h2
  go_enter Try.func9, Try.ntmps9
  go_upto_region 1 with fail
  have F := boxes1 w q
  revert F
  generalize w.alloc (.cells #[iv q.x, iv q.y] 30) = W
  rintro ⟨hW, f1, f2⟩
  have HW := Lib.hid hW
  clear hW
  go_wp2_with fail
  refine (few45 _ _ _ _ _ _ _).mono ?_
  rintro e w1 ⟨rfl, rfl⟩
  cases hf : (decide (a.length ≤ 10) && decide (b.length ≤ 10))
  case false =>
    clear hf
    go_wp2_with fail
    refine (example47 _).mono ?_
    rintro e w9 ⟨rfl, hb⟩
    go_wp2
    go_ret
    exact ⟨rfl, below_trans HW.out hb⟩
  case true =>
  clear hf
  go_wp2_with fail
  refine (check46 A _ c a _ rfl (HA.out.later HW.out)).mono ?_
  rintro e w2 ⟨rfl, hb⟩
  replace HW := Lib.hid (below_trans HW.out hb)
  replace f1 := cell_later hb f1; replace f2 := cell_later hb f2
  clear hb
  by_cases ha : chkZ a = 0
  case neg =>
    have hd : (chkZ a != 0) = true := by simpa using ha
    clear ha
    go_wp2_with fail
    refine (example47 _).mono ?_
    rintro e w9 ⟨rfl, hb⟩
    go_wp2
    go_ret
    exact ⟨rfl, below_trans HW.out hb⟩
  case pos =>
  have Ha := Lib.hid ha
  rw [ha]
  clear ha
  go_wp2_with fail
  refine (check46 B _ d b _ rfl (HB.out.later HW.out)).mono ?_
  rintro e w3 ⟨rfl, hb⟩
  replace HW := Lib.hid (below_trans HW.out hb)
  replace f1 := cell_later hb f1; replace f2 := cell_later hb f2
  clear hb
  by_cases hb : chkZ b = 0
  case neg =>
    have hd : (chkZ b != 0) = true := by simpa using hb
    clear hb
    go_wp2_with fail
    refine (example47 _).mono ?_
    rintro e w9 ⟨rfl, hb⟩
    go_wp2
    go_ret
    exact ⟨rfl, below_trans HW.out hb⟩
  case pos =>
  have Hb := Lib.hid hb
  rw [hb]
  clear hb
  have E1 := Lib.hid (ov_ok Ha.out Hb.out)
  have LW := Lib.hid (points_law Ha.out Hb.out)
  have L1 := (chkZ_zero Ha.out).1
  go_wp2_with fail
  refine (overlap48 A B _ _ c d a b _ rfl rfl (HA.out.later HW.out) (HB.out.later HW.out) hca hcb).mono ?_
  rintro e w4 ⟨rfl, hb⟩
  rw [E1.out.1, E1.out.2.1]
  replace HW := Lib.hid (below_trans HW.out hb)
  replace f1 := cell_later hb f1; replace f2 := cell_later hb f2
  clear hb
  go_wp2_with fail
  refine (where35 A c a q _ (HA.out.later HW.out) hca).mono ?_
  rintro e w5 ⟨rfl, hb⟩
  rw [whereZ_pos Ha.out, Ha.out]
  replace HW := Lib.hid (below_trans HW.out hb)
  replace f1 := cell_later hb f1; replace f2 := cell_later hb f2
  clear hb
  go_wp2_with fail
  refine (where35 B d b q _ (HB.out.later HW.out) hcb).mono ?_
  rintro e w6 ⟨rfl, hb⟩
  rw [whereZ_pos Hb.out, Hb.out]
  replace HW := Lib.hid (below_trans HW.out hb)
  replace f1 := cell_later hb f1; replace f2 := cell_later hb f2
  clear hb
  clear f1 f2
  have HQ := Lib.hid (LW.out.1 q)
  have HV := Lib.hid LW.out.2
  clear LW
  generalize placeZ a q = pa at *
  generalize placeZ b q = pb at *
  generalize relZ a b = r at *
  have hcs : (decide (r = 1) = true ∧ (pa == 1) = true ∧ (pb == 1) = true) ∨ (decide (r = 1) = true ∧ (pa == 1) = true ∧ (pb == 1) = false) ∨ (decide (r = 1) = true ∧ (pa == 1) = false) ∨ (decide (r = 1) = false ∧ (pa == 1) = true ∧ (pb == 1) = false) ∨ (decide (r = 1) = false ∧ (pa == 1) = false) := by
    have := HQ.out
    by_cases c1 : r = 1 <;> by_cases c2 : pa = 1 <;> by_cases c3 : pb = 1 <;> simp_all
  have HV2 := Lib.hid (show ∀ s ∈ a, placeZ b s = 1 → decide (r = 1) = true from fun s hs h => decide_eq_true (HV.out s hs h))
  clear HV HQ
  generalize decide (r = 1) = dr at *
  rcases hcs with ⟨rfl, d1, d2⟩ | ⟨rfl, d1, d2⟩ | ⟨rfl, d1⟩ | ⟨rfl, d1, d2⟩ | ⟨rfl, d1⟩
  all_goals
    go_upto_region 8 with fail
    try clear d1
    try clear d2
  all_goals
    go_wp2_with fail
    go_loopw [74] (fun i wr => ∃ k : Nat, k ≤ a.length ∧ i = .int .i64 k ∧ Below w.heap.size w wr) (fun i _ => a.length - (intOf i).toNat)
    case atStart => exact ⟨0, Nat.zero_le _, rfl, HW.out⟩
    case round =>
      obtain ⟨k, hk, rfl, hB⟩ := hrel
      by_cases hlt : k < a.length
      · have hne : a ≠ [] := by intro h; simp [h] at hlt
        obtain ⟨ba, off, rfl, hc⟩ := HA.out.later hB hne
        obtain ⟨g1, g2⟩ := hc k hlt
        clear hc
        have HP := Lib.hid (HV2.out _ (pt_mem hlt))
        generalize pt a k = s at *
        go_upto_region 11 with fail
        have F := boxes1 wr s
        revert F
        generalize wr.alloc (.cells #[iv s.x, iv s.y] 30) = W5
        rintro ⟨hb, f5, f6⟩
        replace hB := hB.trans (hb.mono hB.size)
        clear hb g1 g2
        generalize wr.heap.size = h5 at *
        go_wp2_with fail
        refine (where35 B d b s _ (HB.out.later hB) hcb).mono ?_
        rintro e w7 ⟨rfl, hb⟩
        rw [whereZ_pos Hb.out, Hb.out]
        replace hB := hB.trans (hb.mono hB.size)
        clear hb f5 f6
        by_cases hp : placeZ b s = 1
        · have hr := HP.out hp
          first
            | (cases hr; done)
            | (rw [hp]
               clear hp hr
               go_wp2_with fail
               go_roundw
               case rel => exact ⟨k + 1, by omega, by go_num, hB⟩
               case measure => simp [intOf]; omega)
        · have hp2 : (placeZ b s == 1) = false := by simpa using hp
          clear hp
          go_wp2_with fail
          go_roundw
          case rel => exact ⟨k + 1, by omega, by go_num, hB⟩
          case measure => simp [intOf]; omega
      · go_wp2_with fail
        refine (example47 _).mono ?_
        rintro e w9 ⟨rfl, hb⟩
        go_wp2
        go_ret
        exact ⟨rfl, below_trans hB hb⟩
end Go.Proofs.Ytfgeengdmbabhaa
