import Derived.Test.YtfgeengdmbabhaaVa
import Derived.Test.YtfgeengdmbabhaaL13
namespace Go.Proofs.Ytfgeengdmbabhaa
open Go.RowKit
attribute [local go_sem ↓] Go.wp_at_zero Go.wp_at_succ run_min2 run_max2

def recZ (x y z w : Int) : List Z2 := [⟨x, y⟩, ⟨z, y⟩, ⟨z, w⟩, ⟨x, w⟩]
/-- garmentlaw15.rect -/
theorem rect86 (x y z u : Int) (w : World) : Calls Try.prog 86 #[iv x, iv y, iv z, iv u] w fun e w' => e = .returned (.slice (some ⟨w.heap.size, 0, none⟩) 4 4) ∧ Sp w' (some ⟨w.heap.size, 0, none⟩) (recZ x y z u) ∧ Below w.heap.size w w' := by
  go_enter Try.func86, Try.ntmps86
  go_wp2
  go_ret
  refine ⟨rfl, ?_, below_alloc _ _⟩
  exact (Blk.new w 30 (flat (recZ x y z u)).toArray).sp
/-- garmentlaw15.few -/
theorem few45 (A B : Option Addr) (n m c d : Nat) (w : World) : Calls Try.prog 45 #[.slice A n c, .slice B m d] w fun e w' => e = .returned (.bool (decide (n ≤ 10) && decide (m ≤ 10))) ∧ w = w' := by
  by_cases h : n ≤ 10
  · have hd : decide ((n : Int) ≤ 10) = true := by simp; omega
    have HD := Lib.hid h
    clear h
    go_enter Try.func45, Try.ntmps45
    go_wp2
    go_ret
    refine ⟨ret_bool ?_, rfl⟩
    rw [decide_eq_true HD.out]
    rw [Bool.eq_iff_iff]; simp; omega
  · have hd : decide ((n : Int) ≤ 10) = false := by simp; omega
    have HD := Lib.hid h
    clear h
    go_enter Try.func45, Try.ntmps45
    go_wp2
    go_ret
    refine ⟨ret_bool ?_, rfl⟩
    rw [decide_eq_false HD.out]; rfl

def crossZ (ps : List Z2) (x : Int) : Bool := if chkZ ps = 0 then decide ((boxZ ps).x < x) && decide (x < (boxZ ps).x + (boxZ ps).w) else false
set_option maxHeartbeats 1000000 in
/-- overlap.Crosses -/
theorem crosses67 (A : Option Addr) (n c : Nat) (ps : List Z2) (x : Int) (w : World) (hl : ps.length = n) (hsp : Sp w A ps) (hcap : n ≤ c) :
    Calls Try.prog 67 #[.slice A n c, iv x] w fun e w' => e = .returned (.tuple #[.bool (crossZ ps x), iv (chkZ ps)]) ∧ Below w.heap.size w w' := by
  have HS := Lib.hid hsp; clear hsp
  go_enter Try.func67, Try.ntmps67
  go_wp2_with fail
  refine (box42' A n c ps _ hl HS.out hcap).mono ?_
  rintro e w1 ⟨rfl, hb1⟩
  have hbd := boxZ_bd (ps := ps)
  go_upto_region 2 with fail
  have B := rvBlk w1 (boxZ ps)
  have hb2 := below_alloc w1 (.cells #[iv (boxZ ps).x, iv (boxZ ps).y, iv (boxZ ps).w, iv (boxZ ps).h] 41)
  revert B hb2
  generalize w1.alloc (.cells #[iv (boxZ ps).x, iv (boxZ ps).y, iv (boxZ ps).w, iv (boxZ ps).h] 41) = W
  intro B hb2
  have hW := below_trans hb1 hb2
  have f0 := B.cell 0; have f1 := B.cell 1; have f2 := B.cell 2; have f3 := B.cell 3
  simp at f0 f1 f2 f3
  clear B hb1 hb2
  by_cases h0 : chkZ ps = 0
  · have HE := Lib.hid (show crossZ ps x = (decide ((boxZ ps).x < x) && decide (x < (boxZ ps).x + (boxZ ps).w)) by unfold crossZ; rw [if_pos h0])
    have H0 := Lib.hid h0
    rw [h0]
    clear h0
    generalize boxZ ps = r at *
    have s1 : IntKind.i64.wrap (r.x + r.w) = r.x + r.w := IntWalk.i64_in _ (by omega)
    by_cases hx : r.x < x
    · by_cases hx2 : x < r.x + r.w
      · have HX := Lib.hid (And.intro hx hx2)
        go_wp2
        go_ret2
        refine ⟨?_, hW⟩
        rw [HE.out, H0.out, decide_eq_true HX.out.1, decide_eq_true HX.out.2]
        rfl
      · have HX := Lib.hid hx2
        go_wp2
        go_ret2
        refine ⟨?_, hW⟩
        rw [HE.out, H0.out, decide_eq_false (p := x < r.x + r.w) (by have := HX.out; omega), Bool.and_false]
        rfl
    · have HX := Lib.hid hx
      go_wp2
      go_ret2
      refine ⟨?_, hW⟩
      rw [HE.out, H0.out, decide_eq_false (p := r.x < x) (by have := HX.out; omega), Bool.false_and]
      rfl
  · have HE := Lib.hid (show crossZ ps x = false by unfold crossZ; rw [if_neg h0])
    have hd : (chkZ ps != 0) = true := by simpa using h0
    clear h0
    go_wp2
    go_ret2
    refine ⟨?_, hW⟩
    rw [HE.out]; rfl

set_option maxHeartbeats 1000000 in
/-- overlap.span -/
theorem span107 (t n : Int) (w : World) (ht : -9223372036854775808 ≤ t ∧ t ≤ 9223372036854775807) (hn : 1 ≤ n ∧ n ≤ 9223372036854775807) :
    Calls Try.prog 107 #[iv t, iv n] w fun e w' => e = .returned (.tuple #[iv (max t (-1048576)), iv (min (t + n) 1048576), .bool (decide (max t (-1048576) < min (t + n) 1048576))]) ∧ w = w' := by
  have s1 : IntKind.i64.wrap (9223372036854775807 - n) = 9223372036854775807 - n := IntWalk.i64_in _ (by omega)
  by_cases h : t ≤ 9223372036854775807 - n
  · have s2 : IntKind.i64.wrap (t + n) = t + n := IntWalk.i64_in _ (by omega)
    go_enter Try.func107, Try.ntmps107
    go_wp2
    refine bodyPost_ret (v := .tuple #[iv (max t (-1048576)), iv (min (t + n) 1048576), .bool (decide (max t (-1048576) < min (t + n) 1048576))]) ?_ rfl ?_
    · simp [results, Try.results107, go_sem]
    · exact ⟨rfl, rfl⟩
  · have e : min (9223372036854775807 : Int) 1048576 = min (t + n) 1048576 := by omega
    have HE := Lib.hid e
    clear e
    go_enter Try.func107, Try.ntmps107
    go_wp2
    refine bodyPost_ret (v := .tuple #[iv (max t (-1048576)), iv (min 9223372036854775807 1048576), .bool (decide (max t (-1048576) < min 9223372036854775807 1048576))]) ?_ rfl ?_
    · simp [results, Try.results107, go_sem]
    · rw [← HE.out]
      exact ⟨rfl, rfl⟩

def hitZ (ps : List Z2) (r : R4) : Bool :=
  if chkZ ps = 0 then
    if r.w < 1 ∨ r.h < 1 then false
    else if max r.x (-1048576) < min (r.x + r.w) 1048576 ∧ max r.y (-1048576) < min (r.y + r.h) 1048576 then
      (splitZ ps).any fun t => decide (contactZ t (recZ (max r.x (-1048576)) (max r.y (-1048576)) (min (r.x + r.w) 1048576) (min (r.y + r.h) 1048576)) = 1)
    else false
  else false
set_option maxRecDepth 100000 in
set_option maxHeartbeats 4000000 in
/-- overlap.Hits -/
theorem hits65 (A : Option Addr) (n c : Nat) (ps : List Z2) (r : R4) (w : World) (hl : ps.length = n) (hsp : Sp w A ps) (hcap : n ≤ c) (hr : In64R r) :
    Calls Try.prog 65 #[.slice A n c, rv r] w fun e w' => e = .returned (.tuple #[.bool (hitZ ps r), iv (chkZ ps)]) ∧ Below w.heap.size w w' := by
  have HS := Lib.hid hsp; clear hsp
  obtain ⟨rx, ry, rw', rh⟩ := hr
  go_enter Try.func65, Try.ntmps65
  go_upto_region 1 with fail
  have B := rvBlk w r
  have hW := below_alloc w (.cells #[iv r.x, iv r.y, iv r.w, iv r.h] 41)
  revert B hW
  generalize w.alloc (.cells #[iv r.x, iv r.y, iv r.w, iv r.h] 41) = W
  intro B hW
  have f0 := B.cell 0; have f1 := B.cell 1; have f2 := B.cell 2; have f3 := B.cell 3
  simp at f0 f1 f2 f3
  clear B
  go_wp2_with fail
  refine (split58' A n c ps _ hl (HS.out.later hW) hcap).mono ?_
  rintro e w1 ⟨A1, c1, rfl, hc1, hs1, hb⟩
  rw [splitE_eq]
  replace hW := below_trans hW hb; replace f0 := cell_later hb f0; replace f1 := cell_later hb f1; replace f2 := cell_later hb f2; replace f3 := cell_later hb f3
  have H1 := Lib.hid hs1
  clear hs1 hb
  by_cases h0 : chkZ ps = 0
  case neg =>
    have HE := Lib.hid (show hitZ ps r = false by unfold hitZ; rw [if_neg h0])
    have hd : (chkZ ps != 0) = true := by simpa using h0
    clear h0
    go_wp2
    go_ret2
    refine ⟨?_, hW⟩
    rw [HE.out]; rfl
  case pos =>
  have H0 := Lib.hid h0
  rw [h0]
  clear h0
  by_cases hw : r.w < 1
  · have HE := Lib.hid (show hitZ ps r = false by unfold hitZ; rw [if_pos H0.out, if_pos (.inl hw)])
    go_wp2
    go_ret2
    refine ⟨?_, hW⟩
    rw [HE.out, H0.out]; rfl
  by_cases hh : r.h < 1
  · have HE := Lib.hid (show hitZ ps r = false by unfold hitZ; rw [if_pos H0.out, if_pos (.inr hh)])
    go_wp2
    go_ret2
    refine ⟨?_, hW⟩
    rw [HE.out, H0.out]; rfl
  go_wp2_with fail
  refine (span107 r.x r.w _ rx (by omega)).mono ?_
  rintro e w2 ⟨rfl, rfl⟩
  go_wp2_with fail
  refine (span107 r.y r.h _ ry (by omega)).mono ?_
  rintro e w2 ⟨rfl, rfl⟩
  have HZ := Lib.hid (show hitZ ps r = if max r.x (-1048576) < min (r.x + r.w) 1048576 ∧ max r.y (-1048576) < min (r.y + r.h) 1048576 then (splitZ ps).any fun t => decide (contactZ t (recZ (max r.x (-1048576)) (max r.y (-1048576)) (min (r.x + r.w) 1048576) (min (r.y + r.h) 1048576)) = 1) else false by
    unfold hitZ; rw [if_pos H0.out, if_neg (by omega)])
  have DA := Lib.hid (fun s (hs : s ∈ splitZ ps) => split_bd hs)
  have L1 : (splitZ ps).length ≤ 40 := Nat.le_trans (split_len ps) (chkZ_zero H0.out).1
  have x1 : -1048576 ≤ max r.x (-1048576) := by omega
  have x2 : min (r.x + r.w) 1048576 ≤ 1048576 := by omega
  have y1 : -1048576 ≤ max r.y (-1048576) := by omega
  have y2 : min (r.y + r.h) 1048576 ≤ 1048576 := by omega
  generalize max r.x (-1048576) = lx at *
  generalize min (r.x + r.w) 1048576 = hx at *
  generalize max r.y (-1048576) = ly at *
  generalize min (r.y + r.h) 1048576 = hy at *
  generalize splitZ ps = rs at *
  clear f0 f1 f2 f3 hw hh rx ry rw' rh
  by_cases gx : lx < hx
  case neg =>
    have dx := decide_eq_false gx
    have GX := Lib.hid gx
    clear gx
    rw [dx]
    go_wp2
    go_ret2
    refine ⟨?_, hW⟩
    rw [HZ.out, if_neg (fun h => by have := GX.out; have := h.1; omega), H0.out]; rfl
  case pos =>
  by_cases gy : ly < hy
  case neg =>
    have dx := decide_eq_true gx
    have dy := decide_eq_false gy
    have GY := Lib.hid gy
    clear gy
    rw [dx, dy]
    go_wp2
    go_ret2
    refine ⟨?_, hW⟩
    rw [HZ.out, if_neg (fun h => by have := GY.out; have := h.2; omega), H0.out]; rfl
  case pos =>
  have dx := decide_eq_true gx
  have dy := decide_eq_true gy
  have HZ2 := Lib.hid (show hitZ ps r = rs.any fun t => decide (contactZ t (recZ lx ly hx hy) = 1) by rw [HZ.out, if_pos ⟨gx, gy⟩])
  rw [dx, dy]
  clear dx dy HZ
  go_upto_region 11 with fail
  have hb := below_alloc w1 (.cells (flat (recZ lx ly hx hy)).toArray 30)
  have hk := (Blk.new w1 30 (flat (recZ lx ly hx hy)).toArray).sp
  simp only [flat, recZ] at hb hk
  revert hb hk
  generalize w1.alloc (.cells #[iv lx, iv ly, iv hx, iv ly, iv hx, iv hy, iv lx, iv hy] 30) = W3
  intro hb hk
  have HK := Lib.hid (show Sp W3 (some ⟨w1.heap.size, 0, none⟩) (recZ lx ly hx hy) from hk)
  have DR := Lib.hid (show ∀ p ∈ recZ lx ly hx hy, Bd p from fun p hp => by
    simp only [recZ, List.mem_cons, List.not_mem_nil, or_false] at hp
    rcases hp with rfl | rfl | rfl | rfl <;> (unfold Bd; simp only; omega))
  replace hW := below_trans hW hb
  replace H1 := Lib.hid (H1.out.later hb)
  clear hb hk gx gy x1 x2 y1 y2
  generalize w1.heap.size = h1 at *
  go_wp2_with fail
  go_loopw [72] (fun i wr => ∃ k : Nat, k ≤ rs.length ∧ i = .int .i64 k ∧ (∀ j, j < k → decide (contactZ (rs.getD j []) (recZ lx ly hx hy) = 1) = false) ∧ Below W3.heap.size W3 wr) (fun i _ => rs.length - (intOf i).toNat)
  case atStart => exact ⟨0, Nat.zero_le _, rfl, fun j hj => absurd hj (by omega), Below.refl _ _⟩
  case round =>
    obtain ⟨k, hk, rfl, hno, hB⟩ := hrel
    have HN := Lib.hid hno
    clear hno
    by_cases hlt : k < rs.length
    · have hne : rs ≠ [] := by intro h; rw [h] at hlt; simp at hlt
      obtain ⟨b1, o1, rfl, hcs⟩ := (H1.out.later hB) hne
      obtain ⟨A4, c4, r1, r2, r3⟩ := hcs k hlt
      have h3 := DA.out _ (getD_in (d := []) hlt)
      clear hcs
      have HG := Lib.hid (getD_in (d := []) hlt)
      generalize hs : rs.getD k [] = s at *
      have HSK := Lib.hid hs
      rw [h3.2] at r1 r2
      have H3 := Lib.hid h3
      have HT := Lib.hid r3
      clear h3 r3 hs
      go_wp2_with fail
      refine (contact108 A4 (some ⟨h1, 0, none⟩) 3 4 c4 4 s (recZ lx ly hx hy) _ H3.out.2 rfl HT.out (HK.out.later hB) (by omega) (by omega) H3.out.1 DR.out).mono ?_
      rintro e w' ⟨rfl, hbq⟩
      replace hB := hB.trans (hbq.mono hB.size)
      clear hbq
      by_cases hh : contactZ s (recZ lx ly hx hy) = 1
      · have HH := Lib.hid hh
        have hd : (contactZ s (recZ lx ly hx hy) == 1) = true := by simpa using hh
        clear hh
        go_wp2
        go_ret2
        refine ⟨?_, below_trans hW hB⟩
        have : hitZ ps r = true := by
          rw [HZ2.out, List.any_eq_true]
          exact ⟨s, HG.out, decide_eq_true HH.out⟩
        rw [this, H0.out]; rfl
      · have HH := Lib.hid hh
        have hd : (contactZ s (recZ lx ly hx hy) == 1) = false := by simpa using hh
        clear hh
        go_wp2
        go_roundw
        case rel =>
          refine ⟨k + 1, by omega, by go_num, fun j hj => ?_, hB⟩
          by_cases e : j = k
          · subst e; rw [HSK.out]; exact decide_eq_false HH.out
          · exact HN.out j (by omega)
        case measure => simp [intOf]; omega
    · obtain rfl : k = rs.length := by omega
      go_wp2
      go_ret2
      refine ⟨?_, below_trans hW hB⟩
      have : hitZ ps r = false := by
        rw [HZ2.out, List.any_eq_false]
        intro t ht
        obtain ⟨j, hj, rfl⟩ := List.getElem_of_mem ht
        have := HN.out j hj
        have e : rs.getD j [] = rs[j] := by simp [hj]
        rw [e] at this
        simpa using this
      rw [this, H0.out]; rfl
end Go.Proofs.Ytfgeengdmbabhaa
