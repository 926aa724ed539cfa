import Derived.Test.YtfgeengdmbabhaaL16
namespace Go.Proofs.Ytfgeengdmbabhaa
open Go.RowKit
open Geo (Pt cr On Simple edges mem_edges esum)
attribute [local go_sem ↓] Go.wp_at_zero Go.wp_at_succ

/-! the areas of the triangles -/
theorem chk_norm {ps : List Z2} (h : chkZ ps = 0) : chkZ (normZ ps) = 0 := by
  have n := norm_norm h
  have h1 : (normZ ps).length ≤ 40 := Nat.le_trans normZ_len (chkZ_zero h).1
  have h2 := normZ_three h
  have h3 : (normZ ps).any outZ = false := List.any_eq_false.2 fun p hp => by simp [n.in_range h p hp]
  unfold chkZ
  rw [if_neg (by omega), if_neg (by omega), h3, (simpleZ_iff h2).2 n.simple]
  rfl
theorem aZ_tri {a b c : Z2} (h : 0 < crZ a b c) (ha : outZ a = false) (hb : outZ b = false) (hc : outZ c = false) : aZ [a, b, c] = crZ a b c := by
  have : chkZ [a, b, c] = 0 := by rw [chk3, ha, hb, hc]; simp; omega
  rw [aZ_pos this, area3]
def aSum : List (List Z2) → Int
  | [] => 0
  | t :: ts => aZ t + aSum ts
theorem aSum_take (rs : List (List Z2)) (k : Nat) (hk : k < rs.length) : aSum (rs.take (k + 1)) = aSum (rs.take k) + aZ (rs.getD k []) := by
  induction rs generalizing k with
  | nil => simp at hk
  | cons t rs ih =>
    cases k with
    | zero => simp [aSum]
    | succ k =>
      simp only [List.take_succ_cons, aSum, List.getD_cons_succ]
      rw [ih k (by simpa using hk)]; omega
theorem area_law {ps : List Z2} (h : chkZ ps = 0) : (∀ t ∈ splitZ ps, ∃ a b c, t = [a, b, c] ∧ aZ t = crZ a b c ∧ 0 < crZ a b c ∧ a ∈ normZ ps ∧ b ∈ normZ ps ∧ c ∈ normZ ps) ∧ aSum (splitZ ps) = aZ (normZ ps) ∧ (splitZ ps).length + 2 ≤ (normZ ps).length := by
  obtain ⟨ts, h1, _, hc⟩ := split_ok h
  have n := norm_norm h
  refine ⟨fun t ht => ?_, ?_, ?_⟩
  · rw [h1] at ht
    obtain ⟨t', ht', rfl⟩ := List.mem_map.1 ht
    obtain ⟨f1, f2, f3, f4, f5, f6, f7⟩ := tri_facts h hc ht'
    exact ⟨_, _, _, rfl, aZ_tri f1 f5 f6 f7, f1, f2, f3, f4⟩
  · have hs := hc.sum
    rw [ar_poly] at hs
    rw [aZ_pos (chk_norm h), h1]
    have : ∀ ts' : List TZ, (∀ t ∈ ts', t ∈ ts) → Geo.tsum (ts'.map toT) = ((aSum (ts'.map toL) : Int) : Rat) := by
      intro ts'
      induction ts' with
      | nil => intro _; rfl
      | cons t ts' ih =>
        intro hsub
        obtain ⟨f1, f2, f3, f4, f5, f6, f7⟩ := tri_facts h hc (hsub t (by simp))
        have ha : aZ (toL t) = crZ t.1 t.2.1 t.2.2 := aZ_tri f1 f5 f6 f7
        simp only [List.map_cons, Geo.tsum, aSum]
        rw [ih (fun t ht => hsub t (by simp [ht])), ha, Rat.intCast_add]
        simp only [toT]
        rw [cr_toPt]
    rw [this ts (fun t ht => ht), Rat.intCast_inj] at hs
    exact hs.symm
  · have := hc.len
    rw [h1]; simpa using this

set_option maxHeartbeats 1000000 in
/-- garmentlaw13.among -/
theorem among62 (A : Option Addr) (n c : Nat) (ps : List Z2) (q : Z2) (w : World) (hl : ps.length = n) (hsp : Sp w A ps) (hn : n ≤ 1000000) :
    Calls Try.prog 62 #[sv q, .slice A n c] w fun e w' => e = .returned (.bool (decide (q ∈ ps))) ∧ Below w.heap.size w w' := by
  subst hl
  have HS := Lib.hid hsp; clear hsp
  go_enter Try.func62, Try.ntmps62
  go_upto_region 1 with fail
  have F := boxes1 w q
  revert F
  generalize w.alloc (.cells #[iv q.x, iv q.y] 30) = W
  rintro ⟨hW, f1, f2⟩
  go_wp2_with fail
  go_loopw [5] (fun i wr => ∃ k : Nat, k ≤ ps.length ∧ i = .int .i64 k ∧ (∀ j, j < k → pt ps j ≠ q) ∧ Below w.heap.size w wr ∧ wr.cell? ⟨w.heap.size, 0, none⟩ = some (iv q.x) ∧ wr.cell? ⟨w.heap.size, 1, none⟩ = some (iv q.y)) (fun i _ => ps.length - (intOf i).toNat)
  case atStart => exact ⟨0, Nat.zero_le _, rfl, fun j hj => absurd hj (by omega), hW, f1, f2⟩
  case round =>
    clear hW f1 f2
    obtain ⟨k, hk, rfl, hno, hB, f1, f2⟩ := hrel
    have HN := Lib.hid hno
    clear hno
    by_cases hlt : k < ps.length
    · have hne : ps ≠ [] := by intro h; simp [h] at hlt
      obtain ⟨b, off, rfl, hc⟩ := HS.out.later hB hne
      obtain ⟨g1, g2⟩ := hc k hlt
      clear hc
      have i1 : (0 : Int) ≤ (k : Int) := by omega
      have i2 : (k : Int) < (ps.length : Int) := by omega
      have he := fun w => eql30 (pt ps k) q w
      go_wp2_with fail
      go_region_held3 (fun w' => Below w.heap.size w w' ∧ w'.cell? ⟨w.heap.size, 0, none⟩ = some (iv q.x) ∧ w'.cell? ⟨w.heap.size, 1, none⟩ = some (iv q.y) ∧ w'.cell? ⟨b, off + k * 2, none⟩ = some (iv (pt ps k).x) ∧ w'.cell? ⟨b, off + k * 2 + 1, none⟩ = some (iv (pt ps k).y)) (first | exact ⟨hB.drew, f1, f2, g1, g2⟩ | assumption) (fail)
      go_split_ands
      clear he
      cases hz : eqZ (pt ps k) q
      case true =>
        have HZ := Lib.hid hz
        clear hz
        go_wp2
        go_ret
        refine ⟨ret_bool ?_, by assumption⟩
        have e : pt ps k = q := by have := HZ.out; unfold eqZ at this; exact of_decide_eq_true this
        exact (decide_eq_true (by rw [← e]; exact pt_mem hlt)).symm
      case false =>
        have HZ := Lib.hid hz
        clear hz
        go_wp2
        go_roundw
        case rel =>
          refine ⟨k + 1, by omega, by go_num, fun j hj => ?_, by assumption, by assumption, by assumption⟩
          by_cases e : j = k
          · subst e; have := HZ.out; unfold eqZ at this; exact of_decide_eq_false this
          · exact HN.out j (by omega)
        case measure => simp [intOf]; omega
    · go_wp2
      go_ret
      refine ⟨ret_bool ?_, hB⟩
      symm
      rw [decide_eq_false_iff_not]
      intro h
      obtain ⟨j, hj, hq⟩ := List.getElem_of_mem h
      exact HN.out j (by omega) ((pt_eq hj).trans hq)
theorem aSum_bd {rs : List (List Z2)} (h : ∀ t ∈ rs, -140737488355328 ≤ aZ t ∧ aZ t ≤ 140737488355328) : -(140737488355328 * (rs.length : Int)) ≤ aSum rs ∧ aSum rs ≤ 140737488355328 * (rs.length : Int) := by
  induction rs with
  | nil => simp [aSum]
  | cons t rs ih =>
    have h1 := h t (by simp)
    have h2 := ih (fun t ht => h t (by simp [ht]))
    simp only [aSum, List.length_cons]
    omega

set_option maxRecDepth 100000 in
set_option maxHeartbeats 4000000 in
/-- garmentlaw13.TriangleAreas -/
theorem lawAreas (A : Option Addr) (c : Nat) (ps : List Z2) (w : World) (hsp : Sp w A ps) (hcap : ps.length ≤ c) :
    Calls Try.prog 17 #[.slice A ps.length c] w fun e w' => e = .returned (.bool true) ∧ Below w.heap.size w w' := by
  have HS := Lib.hid hsp; clear hsp
  by_cases hm : 60 < ps.length
  case pos =>
    have dF := decide_eq_true hm
    go_enter Try.func17, Try.ntmps17
    go_wp2_with fail
    refine (many56 _ _ _ _).mono ?_
    rintro e w1 ⟨rfl, rfl⟩
    rw [dF]
    go_wp2_with fail
    refine (alive57 _).mono ?_
    rintro e w8 ⟨rfl, hb⟩
    go_wp2
    go_ret
    exact ⟨rfl, hb⟩
  case neg =>
  have dF := decide_eq_false hm
  go_enter Try.func17, Try.ntmps17
  go_wp2_with fail
  refine (many56 _ _ _ _).mono ?_
  rintro e w1 ⟨rfl, rfl⟩
  rw [dF]
  clear dF
  go_wp2_with fail
  refine (split58' A _ c ps _ rfl HS.out hcap).mono ?_
  rintro e w2 ⟨A2, c2, rfl, hc2, hs2, hb2⟩
  rw [splitE_eq]
  have H2 := Lib.hid hs2
  have HW := Lib.hid hb2
  clear hs2 hb2
  go_wp2_with fail
  refine (normal32 A c ps _ (HS.out.later HW.out) hcap).mono ?_
  rintro e w3 ⟨A3, c3, rfl, hc3, hs3, hb3⟩
  replace H2 := Lib.hid (H2.out.later hb3); replace HW := Lib.hid (below_trans HW.out hb3)
  have H3 := Lib.hid hs3
  clear hs3 hb3
  by_cases h0 : chkZ ps = 0
  case neg =>
    have hd : (chkZ ps != 0) = true := by simpa using h0
    rw [(split_no h0).1]
    clear h0 hc2 hc3
    go_wp2_with fail
    refine (alive57 _).mono ?_
    rintro e w8 ⟨rfl, hb⟩
    go_wp2
    go_ret
    exact ⟨rfl, below_trans HW.out hb⟩
  case pos =>
  obtain ⟨al1, al2, al3⟩ := area_law h0
  have n := norm_norm h0
  have HBD := Lib.hid (fun t (ht : t ∈ splitZ ps) => show -140737488355328 ≤ aZ t ∧ aZ t ≤ 140737488355328 by
    obtain ⟨a, b, d, _, e2, _, m1, m2, m3⟩ := al1 t ht
    have hD := (chkZ_zero h0).2.2.1
    rw [e2]; exact crZ_bd (hD _ (n.mem _ m1)) (hD _ (n.mem _ m2)) (hD _ (n.mem _ m3)))
  have HAL := Lib.hid al1
  have HSUM := Lib.hid al2
  have HNE := Lib.hid (split_some h0)
  have hrl := split_len ps
  have hnl : (normZ ps).length ≤ ps.length := normZ_len
  rw [h0]
  clear h0 al1 al2 n
  have hpos : 0 < (splitZ ps).length := by
    cases h : splitZ ps with
    | nil => exact absurd h HNE.out
    | cons => simp
  generalize splitZ ps = rs at *
  generalize normZ ps = nz at *
  go_wp2_with fail
  go_loopw [7, 8] (fun u v wr => ∃ i : Nat, i ≤ rs.length ∧ v = .int .i64 i ∧ u = iv (aSum (rs.take i)) ∧ Below w3.heap.size w3 wr) (fun _ v _ => rs.length - (intOf v).toNat)
  case atStart => exact ⟨0, Nat.zero_le _, rfl, rfl, Below.refl _ _⟩
  case round =>
    obtain ⟨i, hi, rfl, rfl, hB⟩ := hrel
    by_cases hlt : i < rs.length
    · obtain ⟨b2, off2, rfl, hc4⟩ := (H2.out.later hB) HNE.out
      obtain ⟨A', c', r1, r2, r3⟩ := hc4 i hlt
      have hmem : rs.getD i [] ∈ rs := getD_mem hlt
      have HST := Lib.hid (aSum_take rs i hlt)
      have hsb := aSum_bd (rs := rs.take i) (fun t ht => HBD.out t (List.mem_of_mem_take ht))
      have hsl : (rs.take i).length ≤ 60 := by simp; omega
      obtain ⟨a, b, d, e1, e2, e3, m1, m2, m3⟩ := HAL.out _ hmem
      rw [e1] at r1 r2 r3
      have HT := Lib.hid r3
      rw [e2] at HST
      rw [e1] at e2
      have HA := Lib.hid e2
      have hvb : crZ a b d ≤ 140737488355328 := by have := (HBD.out _ hmem).2; rw [e1, e2] at this; exact this
      have M1 := Lib.hid (decide_eq_true m1); have M2 := Lib.hid (decide_eq_true m2); have M3 := Lib.hid (decide_eq_true m3)
      obtain ⟨b3, o3, rfl, hc5⟩ := r3 (by simp)
      obtain ⟨g1, g2⟩ := hc5 0 (by simp)
      obtain ⟨g3, g4⟩ := hc5 1 (by simp)
      obtain ⟨g5, g6⟩ := hc5 2 (by simp)
      have p0 : pt [a, b, d] 0 = a := rfl
      have p1 : pt [a, b, d] 1 = b := rfl
      have p2 : pt [a, b, d] 2 = d := rfl
      rw [p0] at g1 g2
      rw [p1] at g3 g4
      rw [p2] at g5 g6
      simp only [Nat.zero_mul, Nat.add_zero, Nat.one_mul, Nat.reduceMul, List.length_cons, List.length_nil, Nat.zero_add, Nat.reduceAdd] at g1 g2 g3 g4 g5 g6 r1 r2
      clear hc4 hc5 r3 e1 e2 m1 m2 m3 p0 p1 p2
      generalize aSum (rs.take i) = sm at *
      have hB4 := hB
      have i1 : (0 : Int) ≤ (i : Int) := by omega
      have i2 : (i : Int) < (rs.length : Int) := by omega
      have e4 : ¬ crZ a b d < 1 := by omega
      go_wp2_with fail
      refine (area2_39' _ 3 c' [a, b, d] _ rfl HT.out r2).mono ?_
      rintro e w4 ⟨rfl, hbq⟩
      rw [HA.out]
      replace hB4 := hB4.trans (hbq.mono hB4.size); replace r1 := cell_later hbq r1; replace g1 := cell_later hbq g1; replace g2 := cell_later hbq g2; replace g3 := cell_later hbq g3; replace g4 := cell_later hbq g4; replace g5 := cell_later hbq g5; replace g6 := cell_later hbq g6
      replace HT := Lib.hid (HT.out.later hbq)
      clear hbq
      go_wp2_with fail
      refine (among62 A3 _ c3 nz a _ rfl (H3.out.later hB4) (by omega)).mono ?_
      rintro e w5 ⟨rfl, hbq⟩
      rw [M1.out]
      replace hB4 := hB4.trans (hbq.mono hB4.size); replace r1 := cell_later hbq r1; replace g1 := cell_later hbq g1; replace g2 := cell_later hbq g2; replace g3 := cell_later hbq g3; replace g4 := cell_later hbq g4; replace g5 := cell_later hbq g5; replace g6 := cell_later hbq g6
      replace HT := Lib.hid (HT.out.later hbq)
      clear hbq
      go_wp2_with fail
      refine (among62 A3 _ c3 nz b _ rfl (H3.out.later hB4) (by omega)).mono ?_
      rintro e w6 ⟨rfl, hbq⟩
      rw [M2.out]
      replace hB4 := hB4.trans (hbq.mono hB4.size); replace r1 := cell_later hbq r1; replace g1 := cell_later hbq g1; replace g2 := cell_later hbq g2; replace g3 := cell_later hbq g3; replace g4 := cell_later hbq g4; replace g5 := cell_later hbq g5; replace g6 := cell_later hbq g6
      replace HT := Lib.hid (HT.out.later hbq)
      clear hbq
      go_wp2_with fail
      refine (among62 A3 _ c3 nz d _ rfl (H3.out.later hB4) (by omega)).mono ?_
      rintro e w7 ⟨rfl, hbq⟩
      rw [M3.out]
      replace hB4 := hB4.trans (hbq.mono hB4.size); replace r1 := cell_later hbq r1; replace g1 := cell_later hbq g1; replace g2 := cell_later hbq g2; replace g3 := cell_later hbq g3; replace g4 := cell_later hbq g4; replace g5 := cell_later hbq g5; replace g6 := cell_later hbq g6
      replace HT := Lib.hid (HT.out.later hbq)
      clear hbq
      go_wp2_with fail
      refine (area2_39' _ 3 c' [a, b, d] _ rfl HT.out r2).mono ?_
      rintro e w9 ⟨rfl, hbq⟩
      rw [HA.out]
      replace hB4 := hB4.trans (hbq.mono hB4.size)
      clear hbq r1 g1 g2 g3 g4 g5 g6
      have hwr : wrap64 (sm + crZ a b d) = sm + crZ a b d := wrap64_in (by omega) (by omega)
      go_wp2_with fail
      go_roundw
      case rel => exact ⟨i + 1, by omega, by go_num, by rw [HST.out], hB4⟩
      case measure => simp [intOf]; omega
    · have e : rs.take i = rs := List.take_of_length_le (by omega)
      rw [e, HSUM.out]
      clear e
      have h1 : (0 : Int) < (rs.length : Int) := by omega
      have h2 : (rs.length : Int) ≤ (nz.length : Int) - 2 := by omega
      go_wp2_with fail
      refine (area2_39' A3 _ c3 nz _ rfl (H3.out.later hB) hc3).mono ?_
      rintro e w4 ⟨rfl, hbq⟩
      replace hB := hB.trans (hbq.mono hB.size)
      clear hbq
      go_wp2_with fail
      refine (alive57 _).mono ?_
      rintro e w8 ⟨rfl, hb⟩
      go_wp2
      go_ret
      exact ⟨rfl, below_trans (below_trans HW.out hB) hb⟩
end Go.Proofs.Ytfgeengdmbabhaa
