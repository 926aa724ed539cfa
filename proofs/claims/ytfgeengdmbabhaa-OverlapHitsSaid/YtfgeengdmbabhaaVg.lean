import Derived.Test.YtfgeengdmbabhaaVd
import Derived.Test.YtfgeengdmbabhaaQd
import Derived.Test.YtfgeengdmbabhaaVc
namespace Go.Proofs.Ytfgeengdmbabhaa
open Go.RowKit
attribute [local go_sem ↓] Go.wp_at_zero Go.wp_at_succ run_min2 run_max2

set_option maxHeartbeats 1000000 in
/-- garmentref15.end -/
theorem end109 (t n : Int) (w : World) (ht : -9223372036854775808 ≤ t ∧ t ≤ 9223372036854775807) (hn : 1 ≤ n ∧ n ≤ 9223372036854775807) :
    Calls Try.prog 109 #[iv t, iv n] w fun e w' => e = .returned (iv (max (-1048577) (min (t + n) 1048577))) ∧ w = w' := by
  by_cases h1 : 1048577 ≤ t
  · have HE := Lib.hid (show max (-1048577) (min (t + n) 1048577) = 1048577 by omega)
    go_enter Try.func109, Try.ntmps109
    go_wp2
    go_ret
    exact ⟨ret_int HE.out.symm, rfl⟩
  by_cases h2 : 0 ≤ t
  · have s1 : IntKind.i64.wrap (1048577 - t) = 1048577 - t := IntWalk.i64_in _ (by omega)
    by_cases h3 : 1048577 - t ≤ n
    · have HE := Lib.hid (show max (-1048577) (min (t + n) 1048577) = 1048577 by omega)
      go_enter Try.func109, Try.ntmps109
      go_wp2
      go_ret
      exact ⟨ret_int HE.out.symm, rfl⟩
    · have s2 : IntKind.i64.wrap (t + n) = t + n := IntWalk.i64_in _ (by omega)
      go_enter Try.func109, Try.ntmps109
      go_wp2
      go_ret
      exact ⟨rfl, rfl⟩
  · have s2 : IntKind.i64.wrap (t + n) = t + n := IntWalk.i64_in _ (by omega)
    go_enter Try.func109, Try.ntmps109
    go_wp2
    go_ret
    exact ⟨rfl, rfl⟩

theorem SSp.one {w : World} {g : Nat} {A : Option Addr} {c : Nat} {l : List Z2} (hB : Blk w g 22 #[.slice A l.length c]) (hc : l.length ≤ c) (hs : Sp w A l) : SSp w (some ⟨g, 0, none⟩) [l] := fun _ =>
  ⟨g, 0, rfl, fun k hk => by
    have e : k = 0 := by simp at hk; omega
    subst e
    exact ⟨A, c, by rw [Nat.zero_add, hB.cell]; rfl, hc, hs⟩⟩
theorem someZ_one (ss : List (List Z2)) (t : List Z2) : someZ ss [t] = ss.any fun s => decide (contactZ s t = 1) := by
  unfold someZ; congr 1; funext s; simp

set_option maxRecDepth 100000 in
set_option maxHeartbeats 8000000 in
/-- garmentref15.Hits -/
theorem hits66 (A : Option Addr) (n c : Nat) (ps : List Z2) (r : R4) (w : World) (hl : ps.length = n) (hsp : Sp w A ps) (hr : In64R r) :
    Calls Try.prog 66 #[.slice A n c, rv r] w fun e w' => e = .returned (.tuple #[.bool (hitZ ps r), iv (chkZ ps)]) ∧ Below w.heap.size w w' := by
  have HS := Lib.hid hsp; clear hsp
  obtain ⟨rx, ry, rw', rh⟩ := hr
  go_enter Try.func66, Try.ntmps66
  go_upto_region 1 with fail
  have B := rvBlk w r
  have hW := below_alloc w (.cells #[iv r.x, iv r.y, iv r.w, iv r.h] 41)
  revert B hW
  generalize w.alloc (.cells #[iv r.x, iv r.y, iv r.w, iv r.h] 41) = W
  intro B hW
  have f0 := B.cell 0; have f1 := B.cell 1; have f2 := B.cell 2; have f3 := B.cell 3
  simp at f0 f1 f2 f3
  clear B
  go_wp2_with fail
  refine (check46 A n c ps _ hl (HS.out.later hW)).mono ?_
  rintro e w1 ⟨rfl, hb⟩
  replace hW := below_trans hW hb; replace f0 := cell_later hb f0; replace f1 := cell_later hb f1; replace f2 := cell_later hb f2; replace f3 := cell_later hb f3
  clear hb
  by_cases h0 : chkZ ps = 0
  case neg =>
    have HE := Lib.hid (show hitZ ps r = false by unfold hitZ; rw [if_neg h0])
    have hd : (chkZ ps != 0) = true := by simpa using h0
    clear h0
    go_wp2
    go_ret2
    refine ⟨?_, hW⟩
    rw [HE.out]; rfl
  case pos =>
  have H0 := Lib.hid h0
  rw [h0]
  clear h0
  by_cases hw : r.w < 1
  · have HE := Lib.hid (show hitZ ps r = false by unfold hitZ; rw [if_pos H0.out, if_pos (.inl hw)])
    go_wp2
    go_ret2
    refine ⟨?_, hW⟩
    rw [HE.out, H0.out]; rfl
  by_cases hh : r.h < 1
  · have HE := Lib.hid (show hitZ ps r = false by unfold hitZ; rw [if_pos H0.out, if_pos (.inr hh)])
    go_wp2
    go_ret2
    refine ⟨?_, hW⟩
    rw [HE.out, H0.out]; rfl
  have HZ := Lib.hid (hitM_hitZ H0.out r)
  have DA := Lib.hid (fun s (hs : s ∈ splitZ ps) => split_bd hs)
  have L1 : (splitZ ps).length ≤ 40 := Nat.le_trans (split_len ps) (chkZ_zero H0.out).1
  have rw2 : 1 ≤ r.w ∧ r.w ≤ 9223372036854775807 := by omega
  have rh2 : 1 ≤ r.h ∧ r.h ≤ 9223372036854775807 := by omega
  go_upto_region 6 with fail
  go_cut [7, 8, 9, 10] (fun x y z u wx => x = iv (max r.x (-1048577)) ∧ y = iv (max r.y (-1048577)) ∧ z = iv (max (-1048577) (min (r.x + r.w) 1048577)) ∧ u = iv (max (-1048577) (min (r.y + r.h) 1048577)) ∧ Below w.heap.size w wx)
  case first =>
    go_region_held3 (fun w' => Below w.heap.size w w' ∧ w'.cell? ⟨w.heap.size, 0, none⟩ = some (iv r.x) ∧ w'.cell? ⟨w.heap.size, 1, none⟩ = some (iv r.y) ∧ w'.cell? ⟨w.heap.size, 2, none⟩ = some (iv r.w) ∧ w'.cell? ⟨w.heap.size, 3, none⟩ = some (iv r.h))
      (first | exact ⟨hW.drew, f0, f1, f2, f3⟩ | assumption)
      (first
        | (go_at_call 109; refine (end109 _ _ _ ?_ ?_).mono ?_; (assumption); (assumption); rintro e w' ⟨rfl, rfl⟩))
    all_goals
      go_split_ands
      go_wp2_with fail
      go_meet
      exact ⟨rfl, rfl, rfl, rfl, by assumption⟩
  case rest =>
  clear hW f0 f1 f2 f3
  obtain ⟨rfl, rfl, rfl, rfl, hW⟩ := hcut
  have HM := Lib.hid (show hitM 1048577 ps r = if max r.x (-1048577) < min (r.x + r.w) 1048577 ∧ max r.y (-1048577) < min (r.y + r.h) 1048577 then (splitZ ps).any fun t => decide (contactZ t (recZ (max r.x (-1048577)) (max r.y (-1048577)) (min (r.x + r.w) 1048577) (min (r.y + r.h) 1048577)) = 1) else false from rfl)
  have x1 : -1048577 ≤ max r.x (-1048577) := by omega
  have x2 : min (r.x + r.w) 1048577 ≤ 1048577 := by omega
  have y1 : -1048577 ≤ max r.y (-1048577) := by omega
  have y2 : min (r.y + r.h) 1048577 ≤ 1048577 := by omega
  clear rx ry rw' rh rw2 rh2 hw hh
  generalize max r.x (-1048577) = lx at *
  generalize min (r.x + r.w) 1048577 = mx at *
  generalize max r.y (-1048577) = ly at *
  generalize min (r.y + r.h) 1048577 = my at *
  by_cases gx : lx < mx
  case neg =>
    have GX := Lib.hid gx
    have g1 : max (-1048577) mx ≤ lx := by omega
    go_wp2
    go_ret2
    refine ⟨?_, hW⟩
    rw [← HZ.out, HM.out, if_neg (fun h => by have := GX.out; have := h.1; omega), H0.out]; rfl
  case pos =>
  have ex : max (-1048577) mx = mx := by omega
  rw [ex]
  by_cases gy : ly < my
  case neg =>
    have GY := Lib.hid gy
    have g1 : max (-1048577) my ≤ ly := by omega
    go_wp2
    go_ret2
    refine ⟨?_, hW⟩
    rw [← HZ.out, HM.out, if_neg (fun h => by have := GY.out; have := h.2; omega), H0.out]; rfl
  case pos =>
  have ey : max (-1048577) my = my := by omega
  rw [ey]
  have HR := Lib.hid (show hitZ ps r = someZ (splitZ ps) [recZ lx ly mx my] by rw [← HZ.out, HM.out, if_pos ⟨gx, gy⟩, someZ_one])
  clear HZ HM ex ey
  rename_i wc
  go_upto_region 10 with fail
  have hb := below_alloc wc (.cells (flat (recZ lx ly mx my)).toArray 30)
  have hk := (Blk.new wc 30 (flat (recZ lx ly mx my)).toArray).sp
  simp only [flat, recZ] at hb hk
  revert hb hk
  generalize wc.alloc (.cells #[iv lx, iv ly, iv mx, iv ly, iv mx, iv my, iv lx, iv my] 30) = W3
  intro hb hk
  have HK := Lib.hid (show Sp W3 (some ⟨wc.heap.size, 0, none⟩) (recZ lx ly mx my) from hk)
  have DR := Lib.hid (show ∀ p ∈ recZ lx ly mx my, Bd p from fun p hp => by
    simp only [recZ, List.mem_cons, List.not_mem_nil, or_false] at hp
    rcases hp with rfl | rfl | rfl | rfl <;> (unfold Bd; simp only; omega))
  replace hW := below_trans hW hb
  clear hb hk gx gy x1 x2 y1 y2
  generalize wc.heap.size = h1 at *
  go_wp2_with fail
  refine (split59 A n c ps _ hl (HS.out.later hW)).mono ?_
  rintro e w4 ⟨A1, c1, rfl, hc1, hs1, hb⟩
  rw [splitE_eq, H0.out]
  have H1 := Lib.hid hs1
  replace HK := Lib.hid (HK.out.later hb)
  replace hW := below_trans hW hb
  clear hs1 hb
  go_wp2_with fail
  have hb := below_alloc w4 (.cells #[.slice (some ⟨h1, 0, none⟩) 4 4] 22)
  have hk := Blk.new w4 22 #[.slice (some ⟨h1, 0, none⟩) 4 4]
  refine (some105 A1 (some ⟨w4.heap.size, 0, none⟩) _ 1 c1 1 (splitZ ps) [recZ lx ly mx my] _ rfl rfl (H1.out.later hb) (SSp.one (l := recZ lx ly mx my) hk (Nat.le_refl 4) (HK.out.later hb)) (by omega) (by omega) (fun s hs => ⟨(DA.out s hs).1, by rw [(DA.out s hs).2]; omega⟩) (fun s hs => by simp only [List.mem_singleton] at hs; subst hs; exact ⟨DR.out, by simp [recZ]⟩)).mono ?_
  rintro e w5 ⟨rfl, hb5⟩
  replace hW := below_trans (below_trans hW hb) hb5
  rw [← HR.out]
  clear hb hk hb5
  go_wp2
  go_ret2
  refine ⟨?_, hW⟩
  rw [H0.out]; rfl

set_option maxRecDepth 100000 in
set_option maxHeartbeats 4000000 in
/-- garmentlaw15.OverlapHits -/
theorem lawHits (A : Option Addr) (c : Nat) (ps : List Z2) (r : R4) (w : World) (hsp : Sp w A ps) (hcap : ps.length ≤ c) (hr : In64R r) :
    Calls Try.prog 23 #[.slice A ps.length c, rv r] w fun e w' => e = .returned (.bool true) ∧ Below w.heap.size w w' := by
  have HS := Lib.hid hsp; clear hsp
  have HR := Lib.hid hr; clear hr
  go_enter Try.func23, Try.ntmps23
  go_upto_region 1 with fail
  have B := rvBlk w r
  have hW := below_alloc w (.cells #[iv r.x, iv r.y, iv r.w, iv r.h] 41)
  revert B hW
  generalize w.alloc (.cells #[iv r.x, iv r.y, iv r.w, iv r.h] 41) = W
  intro B hW
  have f0 := B.cell 0; have f1 := B.cell 1; have f2 := B.cell 2; have f3 := B.cell 3
  simp at f0 f1 f2 f3
  clear B
  by_cases hm : 10 < ps.length
  case pos =>
    go_wp2_with fail
    refine (example47 _).mono ?_
    rintro e w8 ⟨rfl, hb⟩
    go_wp2
    go_ret
    exact ⟨rfl, below_trans hW hb⟩
  case neg =>
  go_wp2_with fail
  refine (hits65 A _ c ps r _ rfl (HS.out.later hW) hcap HR.out).mono ?_
  rintro e w1 ⟨rfl, hb⟩
  replace hW := below_trans hW hb; replace f0 := cell_later hb f0; replace f1 := cell_later hb f1; replace f2 := cell_later hb f2; replace f3 := cell_later hb f3
  clear hb
  go_wp2_with fail
  refine (hits66 A _ c ps r _ rfl (HS.out.later hW) HR.out).mono ?_
  rintro e w2 ⟨rfl, hb⟩
  replace hW := below_trans hW hb
  clear hb f0 f1 f2 f3
  generalize hitZ ps r = hz at *
  generalize chkZ ps = ck at *
  go_wp2_with fail
  refine (example47 _).mono ?_
  rintro e w8 ⟨rfl, hb⟩
  go_wp2
  go_ret
  exact ⟨rfl, below_trans hW hb⟩
end Go.Proofs.Ytfgeengdmbabhaa
