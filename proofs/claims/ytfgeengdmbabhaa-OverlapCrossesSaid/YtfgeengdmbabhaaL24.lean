import Derived.Test.YtfgeengdmbabhaaVc
namespace Go.Proofs.Ytfgeengdmbabhaa
open Go.RowKit
attribute [local go_sem ↓] Go.wp_at_zero Go.wp_at_succ run_min2 run_max2

set_option maxRecDepth 100000 in
set_option maxHeartbeats 4000000 in
/-- garmentref15.Crosses -/
theorem crosses68 (A : Option Addr) (n c : Nat) (ps : List Z2) (x : Int) (w : World) (hl : ps.length = n) (hsp : Sp w A ps) :
    Calls Try.prog 68 #[.slice A n c, iv x] w fun e w' => e = .returned (.tuple #[.bool (crossZ ps x), iv (chkZ ps)]) ∧ Below w.heap.size w w' := by
  have HS := Lib.hid hsp; clear hsp
  go_enter Try.func68, Try.ntmps68
  go_wp2_with fail
  refine (check46 A n c ps _ hl HS.out).mono ?_
  rintro e w1 ⟨rfl, hb1⟩
  have HW := Lib.hid hb1
  clear hb1
  by_cases h0 : chkZ ps = 0
  case neg =>
    have HE := Lib.hid (show crossZ ps x = false by unfold crossZ; rw [if_neg h0])
    have hd : (chkZ ps != 0) = true := by simpa using h0
    clear h0
    go_wp2
    go_ret2
    refine ⟨?_, HW.out⟩
    rw [HE.out]; rfl
  case pos =>
  subst hl
  have h3 : 3 ≤ ps.length := (chkZ_zero h0).2.1
  have h40 : ps.length ≤ 40 := (chkZ_zero h0).1
  have HE := Lib.hid (show crossZ ps x = (decide ((loTo ps ps.length).x < x) && decide (x < (hiTo ps ps.length).x)) by
    unfold crossZ; rw [if_pos h0, boxZ_pos h0]
    unfold boxR
    simp only
    congr 2
    rw [eq_iff_iff]; omega)
  have H0 := Lib.hid h0
  rw [h0]
  clear h0
  have hne : ps ≠ [] := by intro h; simp [h] at h3
  obtain ⟨b, off, rfl, hc⟩ := HS.out.later HW.out hne
  obtain ⟨g1, g2⟩ := hc 0 (by omega)
  simp only [Nat.zero_mul, Nat.add_zero] at g1 g2
  clear hc
  have q1 : (0 : Int) < (ps.length : Int) := by omega
  have HI := Lib.hid (And.intro (show (loTo ps 1).x = (pt ps 0).x by simp [loTo]) (show (hiTo ps 1).x = (pt ps 0).x by simp [hiTo]))
  go_wp2_with fail
  go_quiet (fail)
  go_wp2_with fail
  clear g1 g2
  go_loopw [7, 8, 9] (fun l h i wr => ∃ k : Nat, 1 ≤ k ∧ k ≤ ps.length ∧ i = .int .i64 k ∧ l = iv (loTo ps k).x ∧ h = iv (hiTo ps k).x ∧ Below w.heap.size w wr) (fun _ _ i _ => ps.length - (intOf i).toNat)
  case atStart => exact ⟨1, by omega, by omega, rfl, by rw [HI.out.1], by rw [HI.out.2], bdN HW.out _⟩
  case round =>
    obtain ⟨k, hk1, hk, rfl, rfl, rfl, hB⟩ := hrel
    by_cases hlt : k < ps.length
    · obtain ⟨_, _, hA, hc⟩ := HS.out.later hB hne
      injection hA with hA
      injection hA with hA1 hA2
      subst hA1 hA2
      obtain ⟨g1, g2⟩ := hc k hlt
      clear hc
      have q7 : (0 : Int) ≤ (k : Int) := by omega
      have q8 : (k : Int) < (ps.length : Int) := by omega
      have HM := Lib.hid (And.intro (show (loTo ps (k + 1)).x = min (loTo ps k).x (pt ps k).x from rfl) (show (hiTo ps (k + 1)).x = max (hiTo ps k).x (pt ps k).x from rfl))
      generalize (loTo ps k).x = l1 at *
      generalize (hiTo ps k).x = h1 at *
      go_wp2_with fail
      go_quiet (fail)
      go_wp2_with fail
      go_roundw
      case rel => exact ⟨k + 1, by omega, by omega, by go_num, by rw [HM.out.1], by rw [HM.out.2], bdN hB _⟩
      case measure => simp [intOf]; omega
    · obtain rfl : k = ps.length := by omega
      generalize (loTo ps ps.length).x = l1 at *
      generalize (hiTo ps ps.length).x = h1 at *
      by_cases hx : l1 < x
      · by_cases hx2 : x < h1
        · have HX := Lib.hid (And.intro hx hx2)
          go_wp2
          go_ret2
          refine ⟨?_, hB⟩
          rw [HE.out, H0.out, decide_eq_true HX.out.1, decide_eq_true HX.out.2]
          rfl
        · have HX := Lib.hid hx2
          go_wp2
          go_ret2
          refine ⟨?_, hB⟩
          rw [HE.out, H0.out, decide_eq_false (p := x < h1) (by have := HX.out; omega), Bool.and_false]
          rfl
      · have HX := Lib.hid hx
        go_wp2
        go_ret2
        refine ⟨?_, hB⟩
        rw [HE.out, H0.out, decide_eq_false (p := l1 < x) (by have := HX.out; omega), Bool.false_and]
        rfl

set_option maxRecDepth 100000 in
set_option maxHeartbeats 4000000 in
/-- garmentlaw15.OverlapCrosses -/
theorem lawCrosses (A : Option Addr) (c : Nat) (ps : List Z2) (x : Int) (w : World) (hsp : Sp w A ps) (hcap : ps.length ≤ c) :
    Calls Try.prog 24 #[.slice A ps.length c, iv x] w fun e w' => e = .returned (.bool true) ∧ Below w.heap.size w w' := by
  have HS := Lib.hid hsp; clear hsp
  go_enter Try.func24, Try.ntmps24
  by_cases hm : 40 < ps.length
  case pos =>
    go_wp2_with fail
    refine (example47 _).mono ?_
    rintro e w8 ⟨rfl, hb⟩
    go_wp2
    go_ret
    exact ⟨rfl, hb⟩
  case neg =>
  go_wp2_with fail
  refine (crosses67 A _ c ps x _ rfl HS.out hcap).mono ?_
  rintro e w1 ⟨rfl, hb⟩
  have HW := Lib.hid hb
  clear hb
  go_wp2_with fail
  refine (crosses68 A _ c ps x _ rfl (HS.out.later HW.out)).mono ?_
  rintro e w2 ⟨rfl, hb⟩
  replace HW := Lib.hid (below_trans HW.out hb)
  clear hb
  generalize crossZ ps x = cz at *
  generalize chkZ ps = ck at *
  go_wp2_with fail
  refine (example47 _).mono ?_
  rintro e w8 ⟨rfl, hb⟩
  go_wp2
  go_ret
  exact ⟨rfl, below_trans HW.out hb⟩
end Go.Proofs.Ytfgeengdmbabhaa
