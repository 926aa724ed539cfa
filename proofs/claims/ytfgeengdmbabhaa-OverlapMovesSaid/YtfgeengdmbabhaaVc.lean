import Derived.Test.YtfgeengdmbabhaaVb
namespace Go.Proofs.Ytfgeengdmbabhaa
open Go.RowKit
attribute [local go_sem ↓] Go.wp_at_zero Go.wp_at_succ run_min2 run_max2

theorem ex_a : ovZ (recZ 0 0 4 4) (recZ 3 3 6 6) = true ∧ relE (recZ 0 0 4 4) (recZ 3 3 6 6) = 0 := by decide +kernel
theorem ex_b : ovZ (recZ 0 0 4 4) (recZ 4 0 8 4) = false ∧ relE (recZ 0 0 4 4) (recZ 4 0 8 4) = 0 := by decide +kernel
theorem ex_c : toZ (recZ 0 0 4 4) (recZ 4 4 5 5) = true ∧ relE (recZ 0 0 4 4) (recZ 4 4 5 5) = 0 := by decide +kernel
theorem ex_d : toZ (recZ 0 0 4 4) (recZ 5 0 6 1) = false ∧ relE (recZ 0 0 4 4) (recZ 5 0 6 1) = 0 := by decide +kernel
theorem ex_e : hitZ tZ ⟨2, 2, 2, 2⟩ = false ∧ hitZ tZ ⟨1, 2, 3, 2⟩ = true ∧ chkZ tZ = 0 := by decide +kernel
theorem ex_f : crossZ tZ 1 = true ∧ crossZ tZ 0 = false := by decide +kernel
theorem ex_g : ovZ (recZ 0 0 4 4) ((recZ 0 0 4 4).take 2) = false ∧ relE (recZ 0 0 4 4) ((recZ 0 0 4 4).take 2) = 11 := by decide +kernel

set_option maxRecDepth 100000 in
set_option maxHeartbeats 4000000 in
/-- garmentlaw15.exampleHolds -/
theorem example47 (w : World) : Calls Try.prog 47 #[] w fun e w' => e = .returned (.bool true) ∧ Below w.heap.size w w' := by
  go_enter Try.func47, Try.ntmps47
  go_wp2_with fail
  refine (rect86 0 0 4 4 _).mono ?_
  rintro e w1 ⟨rfl, hs, hb⟩
  have HS := Lib.hid hs; have HW := Lib.hid hb
  clear hs hb
  go_wp2_with fail
  refine (rect86 3 3 6 6 _).mono ?_
  rintro e w2 ⟨rfl, ht, hb⟩
  replace HS := Lib.hid (HS.out.later hb)
  replace HW := Lib.hid (HW.out.trans (hb.mono HW.out.size))
  have HT := Lib.hid ht
  clear ht hb
  go_wp2_with fail
  refine (overlap48 (some ⟨w.heap.size, 0, none⟩) (some ⟨w1.heap.size, 0, none⟩) 4 4 4 4 (recZ 0 0 4 4) (recZ 3 3 6 6) _ rfl rfl HS.out HT.out (by omega) (by omega)).mono ?_
  rintro e w3 ⟨rfl, hb⟩
  rw [ex_a.1, ex_a.2]
  replace HS := Lib.hid (HS.out.later hb)
  replace HW := Lib.hid (HW.out.trans (hb.mono HW.out.size))
  clear hb HT
  go_wp2_with fail
  refine (rect86 4 0 8 4 _).mono ?_
  rintro e w4 ⟨rfl, ht, hb⟩
  replace HS := Lib.hid (HS.out.later hb)
  replace HW := Lib.hid (HW.out.trans (hb.mono HW.out.size))
  have HT := Lib.hid ht
  clear ht hb
  go_wp2_with fail
  refine (overlap48 (some ⟨w.heap.size, 0, none⟩) (some ⟨w3.heap.size, 0, none⟩) 4 4 4 4 (recZ 0 0 4 4) (recZ 4 0 8 4) _ rfl rfl HS.out HT.out (by omega) (by omega)).mono ?_
  rintro e w5 ⟨rfl, hb⟩
  rw [ex_b.1, ex_b.2]
  replace HS := Lib.hid (HS.out.later hb)
  replace HW := Lib.hid (HW.out.trans (hb.mono HW.out.size))
  clear hb HT
  go_wp2_with fail
  refine (rect86 4 4 5 5 _).mono ?_
  rintro e w6 ⟨rfl, ht, hb⟩
  replace HS := Lib.hid (HS.out.later hb)
  replace HW := Lib.hid (HW.out.trans (hb.mono HW.out.size))
  have HT := Lib.hid ht
  clear ht hb
  go_wp2_with fail
  refine (touch55 (some ⟨w.heap.size, 0, none⟩) (some ⟨w5.heap.size, 0, none⟩) 4 4 4 4 (recZ 0 0 4 4) (recZ 4 4 5 5) _ rfl rfl HS.out HT.out (by omega) (by omega)).mono ?_
  rintro e w7 ⟨rfl, hb⟩
  rw [ex_c.1, ex_c.2]
  replace HS := Lib.hid (HS.out.later hb)
  replace HW := Lib.hid (HW.out.trans (hb.mono HW.out.size))
  clear hb HT
  go_wp2_with fail
  refine (rect86 5 0 6 1 _).mono ?_
  rintro e w8 ⟨rfl, ht, hb⟩
  replace HS := Lib.hid (HS.out.later hb)
  replace HW := Lib.hid (HW.out.trans (hb.mono HW.out.size))
  have HT := Lib.hid ht
  clear ht hb
  go_wp2_with fail
  refine (touch55 (some ⟨w.heap.size, 0, none⟩) (some ⟨w7.heap.size, 0, none⟩) 4 4 4 4 (recZ 0 0 4 4) (recZ 5 0 6 1) _ rfl rfl HS.out HT.out (by omega) (by omega)).mono ?_
  rintro e w9 ⟨rfl, hb⟩
  rw [ex_d.1, ex_d.2]
  replace HS := Lib.hid (HS.out.later hb)
  replace HW := Lib.hid (HW.out.trans (hb.mono HW.out.size))
  clear hb HT
  go_upto_region 7 with fail
  have hb := below_alloc w9 (.cells (flat tZ).toArray 30)
  have hk := (Blk.new w9 30 (flat tZ).toArray).sp
  simp only [flat, tZ] at hb hk
  revert hb hk
  generalize w9.alloc (.cells #[iv 0, iv 0, iv 4, iv 0, iv 0, iv 4] 30) = W
  intro hb hk
  have HT := Lib.hid (show Sp W (some ⟨w9.heap.size, 0, none⟩) tZ from hk)
  replace HS := Lib.hid (HS.out.later hb)
  replace HW := Lib.hid (HW.out.trans (hb.mono HW.out.size))
  clear hb hk
  generalize w9.heap.size = h9 at *
  go_wp2_with fail
  refine (hits65 (some ⟨h9, 0, none⟩) 3 3 tZ ⟨2, 2, 2, 2⟩ _ rfl HT.out (by omega) (by unfold In64R; decide)).mono ?_
  rintro e w10 ⟨rfl, hb⟩
  rw [ex_e.1, ex_e.2.2]
  replace HS := Lib.hid (HS.out.later hb)
  replace HT := Lib.hid (HT.out.later hb)
  replace HW := Lib.hid (HW.out.trans (hb.mono HW.out.size))
  clear hb
  go_wp2_with fail
  refine (hits65 (some ⟨h9, 0, none⟩) 3 3 tZ ⟨1, 2, 3, 2⟩ _ rfl HT.out (by omega) (by unfold In64R; decide)).mono ?_
  rintro e w11 ⟨rfl, hb⟩
  rw [ex_e.2.1, ex_e.2.2]
  replace HS := Lib.hid (HS.out.later hb)
  replace HT := Lib.hid (HT.out.later hb)
  replace HW := Lib.hid (HW.out.trans (hb.mono HW.out.size))
  clear hb
  go_wp2_with fail
  refine (crosses67 (some ⟨h9, 0, none⟩) 3 3 tZ 1 _ rfl HT.out (by omega)).mono ?_
  rintro e w12 ⟨rfl, hb⟩
  rw [ex_f.1, ex_e.2.2]
  replace HS := Lib.hid (HS.out.later hb)
  replace HT := Lib.hid (HT.out.later hb)
  replace HW := Lib.hid (HW.out.trans (hb.mono HW.out.size))
  clear hb
  go_wp2_with fail
  refine (crosses67 (some ⟨h9, 0, none⟩) 3 3 tZ 0 _ rfl HT.out (by omega)).mono ?_
  rintro e w13 ⟨rfl, hb⟩
  rw [ex_f.2, ex_e.2.2]
  replace HS := Lib.hid (HS.out.later hb)
  replace HW := Lib.hid (HW.out.trans (hb.mono HW.out.size))
  clear hb HT
  go_wp2_with fail
  refine (overlap48 (some ⟨w.heap.size, 0, none⟩) (some ⟨w.heap.size, 0, none⟩) 4 2 4 4 (recZ 0 0 4 4) ((recZ 0 0 4 4).take 2) _ rfl rfl HS.out (HS.out.take 2) (by omega) (by omega)).mono ?_
  rintro e w14 ⟨rfl, hb⟩
  rw [ex_g.1, ex_g.2]
  replace HW := Lib.hid (HW.out.trans (hb.mono HW.out.size))
  clear hb HS
  go_wp2
  go_ret
  exact ⟨rfl, HW.out⟩
end Go.Proofs.Ytfgeengdmbabhaa
