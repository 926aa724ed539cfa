import Derived.Test.YtfgeengdmbabhaaTe
import Derived.Test.YtfgeengdmbabhaaPe
namespace Go.Proofs.Ytfgeengdmbabhaa
open Go.RowKit
attribute [local go_sem ↓] Go.wp_at_zero Go.wp_at_succ

theorem sp3 (W : World) (a b c : Z2) : Sp (W.alloc (.cells #[iv a.x, iv a.y, iv b.x, iv b.y, iv c.x, iv c.y] 30)) (some ⟨W.heap.size, 0, none⟩) [a, b, c] := Blk.sp (Blk.new W 30 (flat [a, b, c]).toArray)

set_option maxRecDepth 100000 in
set_option maxHeartbeats 4000000 in
/-- garmentlaw13.TriangleOrders -/
theorem lawOrders (a b c q : Z2) (w : World) : Calls Try.prog 21 #[sv a, sv b, .agg #[iv c.x, iv c.y, iv q.x, iv q.y]] w fun e w' => e = .returned (.bool true) ∧ Below w.heap.size w w' := by
  have P1 := Lib.hid (holds_rot a b c q); have P2 := Lib.hid (holds_swap a b c q)
  have P3 := Lib.hid (where_tri a b c q)
  go_enter Try.func21, Try.ntmps21
  go_upto_region 1 with fail
  have F := boxes2 w a b
  have es : ((w.alloc (.cells #[iv a.x, iv a.y] 30)).alloc (.cells #[iv b.x, iv b.y] 30)).heap.size = w.heap.size + 1 + 1 := by simp
  revert F es
  generalize ((w.alloc (.cells #[iv a.x, iv a.y] 30)).alloc (.cells #[iv b.x, iv b.y] 30)) = W0
  rintro ⟨hW, f1, f2, f3, f4⟩ es
  have hb := below_alloc W0 (.cells #[iv c.x, iv c.y, iv q.x, iv q.y] 61)
  have hk := Blk.new W0 61 #[iv c.x, iv c.y, iv q.x, iv q.y]
  rw [es] at hk
  revert hb hk
  generalize W0.alloc (.cells #[iv c.x, iv c.y, iv q.x, iv q.y] 61) = W
  intro hb hk
  have r0 := hk.cell 0; have r1 := hk.cell 1; have r2 := hk.cell 2; have r3 := hk.cell 3
  simp at r0 r1 r2 r3
  replace hW := below_trans hW hb; replace f1 := cell_later hb f1; replace f2 := cell_later hb f2; replace f3 := cell_later hb f3; replace f4 := cell_later hb f4
  clear hb hk es
  generalize w.heap.size + 1 + 1 = h2 at *
  generalize w.heap.size + 1 = h1 at *
  have HW := Lib.hid hW
  clear hW
  go_upto_region 2 with fail
  have hb := below_alloc W (.cells #[iv a.x, iv a.y, iv b.x, iv b.y, iv c.x, iv c.y] 30)
  have hs := sp3 W a b c
  revert hb hs
  generalize W.alloc (.cells #[iv a.x, iv a.y, iv b.x, iv b.y, iv c.x, iv c.y] 30) = W1
  intro hb hs
  replace HW := Lib.hid (below_trans HW.out hb); replace f1 := cell_later hb f1; replace f2 := cell_later hb f2; replace f3 := cell_later hb f3; replace f4 := cell_later hb f4
  replace r0 := cell_later hb r0; replace r1 := cell_later hb r1; replace r2 := cell_later hb r2; replace r3 := cell_later hb r3
  have HS := Lib.hid hs
  clear hb hs
  generalize W.heap.size = h3 at *
  go_wp2_with fail
  refine (holds60 (some ⟨h3, 0, none⟩) 3 3 [a, b, c] q _ rfl HS.out).mono ?_
  rintro e w2 ⟨rfl, hb⟩
  replace HW := Lib.hid (below_trans HW.out hb); replace f1 := cell_later hb f1; replace f2 := cell_later hb f2; replace f3 := cell_later hb f3; replace f4 := cell_later hb f4
  replace r0 := cell_later hb r0; replace r1 := cell_later hb r1; replace r2 := cell_later hb r2; replace r3 := cell_later hb r3
  replace HS := Lib.hid (HS.out.later hb)
  clear hb
  have d2 := alloc1_cell r2; have d3 := alloc1_cell r3
  go_wp2_with fail
  clear d2 d3
  have hb := below_alloc w2 (.cells #[iv b.x, iv b.y, iv c.x, iv c.y, iv a.x, iv a.y] 30)
  have hs := sp3 w2 b c a
  refine (holds60 (some ⟨w2.heap.size, 0, none⟩) 3 3 [b, c, a] q _ rfl hs).mono ?_
  rintro e w3 ⟨rfl, hb3⟩
  rw [P1.out]
  replace hb := below_trans hb hb3
  replace HW := Lib.hid (below_trans HW.out hb); replace f1 := cell_later hb f1; replace f2 := cell_later hb f2; replace f3 := cell_later hb f3; replace f4 := cell_later hb f4
  replace r0 := cell_later hb r0; replace r1 := cell_later hb r1; replace r2 := cell_later hb r2; replace r3 := cell_later hb r3
  replace HS := Lib.hid (HS.out.later hb)
  clear hb hb3 hs
  have d2 := alloc1_cell r2; have d3 := alloc1_cell r3
  go_wp2_with fail
  clear d2 d3
  have hb := below_alloc w3 (.cells #[iv b.x, iv b.y, iv a.x, iv a.y, iv c.x, iv c.y] 30)
  have hs := sp3 w3 b a c
  refine (holds60 (some ⟨w3.heap.size, 0, none⟩) 3 3 [b, a, c] q _ rfl hs).mono ?_
  rintro e w4 ⟨rfl, hb3⟩
  rw [P2.out]
  replace hb := below_trans hb hb3
  replace HW := Lib.hid (below_trans HW.out hb); replace f1 := cell_later hb f1; replace f2 := cell_later hb f2; replace f3 := cell_later hb f3; replace f4 := cell_later hb f4
  replace r0 := cell_later hb r0; replace r1 := cell_later hb r1; replace r2 := cell_later hb r2; replace r3 := cell_later hb r3
  replace HS := Lib.hid (HS.out.later hb)
  clear hb hb3 hs
  go_wp2_with fail
  refine (where35' (some ⟨h3, 0, none⟩) 3 3 [a, b, c] q _ rfl HS.out (by omega)).mono ?_
  rintro e w5 ⟨rfl, hb⟩
  replace HW := Lib.hid (below_trans HW.out hb); replace f1 := cell_later hb f1; replace f2 := cell_later hb f2
  replace r0 := cell_later hb r0; replace r1 := cell_later hb r1
  replace HS := Lib.hid (HS.out.later hb)
  clear hb f3 f4 r2 r3
  by_cases h0 : chkZ [a, b, c] = 0
  · have HV := Lib.hid (holds_vertex h0)
    rw [P3.out.1 h0, h0]
    clear h0
    go_wp2_with fail
    refine (holds60 (some ⟨h3, 0, none⟩) 3 3 [a, b, c] a _ rfl HS.out).mono ?_
    rintro e w6 ⟨rfl, hb⟩
    rw [HV.out.1]
    replace HW := Lib.hid (below_trans HW.out hb); replace r0 := cell_later hb r0; replace r1 := cell_later hb r1
    replace HS := Lib.hid (HS.out.later hb)
    clear hb f1 f2
    go_wp2_with fail
    refine (holds60 (some ⟨h3, 0, none⟩) 3 3 [a, b, c] c _ rfl HS.out).mono ?_
    rintro e w7 ⟨rfl, hb⟩
    rw [HV.out.2]
    replace HW := Lib.hid (below_trans HW.out hb)
    clear hb r0 r1 HS
    go_wp2_with fail
    refine (alive57 _).mono ?_
    rintro e w8 ⟨rfl, hb⟩
    go_wp2
    go_ret
    exact ⟨rfl, below_trans HW.out hb⟩
  · have hd : (chkZ [a, b, c] != 0) = true := by simpa using h0
    rw [P3.out.2 h0]
    clear h0 f1 f2 r0 r1 HS
    go_wp2_with fail
    refine (alive57 _).mono ?_
    rintro e w8 ⟨rfl, hb⟩
    go_wp2
    go_ret
    exact ⟨rfl, below_trans HW.out hb⟩
end Go.Proofs.Ytfgeengdmbabhaa
