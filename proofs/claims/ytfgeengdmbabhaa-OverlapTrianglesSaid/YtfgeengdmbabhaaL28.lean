import Derived.Test.YtfgeengdmbabhaaL25
import Derived.Test.YtfgeengdmbabhaaQc
namespace Go.Proofs.Ytfgeengdmbabhaa
open Go.RowKit
attribute [local go_sem ↓] Go.wp_at_zero Go.wp_at_succ

def inTo (c : Bool) (s : List Z2) (ts : List (List Z2)) : Nat → Bool
  | 0 => c
  | k + 1 => inTo c s ts k || decide (relZ s (ts.getD k []) = 1)
def ouTo (ss ts : List (List Z2)) : Nat → Bool
  | 0 => false
  | k + 1 => inTo (ouTo ss ts k) (ss.getD k []) ts ts.length
theorem inTo_iff (c : Bool) (s : List Z2) (ts : List (List Z2)) (k : Nat) : inTo c s ts k = true ↔ c = true ∨ ∃ j, j < k ∧ relZ s (ts.getD j []) = 1 := by
  induction k with
  | zero => simp [inTo]
  | succ k ih =>
    simp only [inTo, Bool.or_eq_true, decide_eq_true_eq, ih]
    constructor
    · rintro ((h | ⟨j, hj, h⟩) | h)
      · exact .inl h
      · exact .inr ⟨j, by omega, h⟩
      · exact .inr ⟨k, by omega, h⟩
    · rintro (h | ⟨j, hj, h⟩)
      · exact .inl (.inl h)
      · by_cases e : j = k
        · subst e; exact .inr h
        · exact .inl (.inr ⟨j, by omega, h⟩)
theorem ouTo_iff (ss ts : List (List Z2)) (k : Nat) : ouTo ss ts k = true ↔ ∃ i, i < k ∧ ∃ j, j < ts.length ∧ relZ (ss.getD i []) (ts.getD j []) = 1 := by
  induction k with
  | zero => simp [ouTo]
  | succ k ih =>
    simp only [ouTo]
    rw [inTo_iff, ih]
    constructor
    · rintro (⟨i, hi, h⟩ | h)
      · exact ⟨i, by omega, h⟩
      · exact ⟨k, by omega, h⟩
    · rintro ⟨i, hi, h⟩
      by_cases e : i = k
      · subst e; exact .inr h
      · exact .inl ⟨i, by omega, h⟩
theorem ouTo_law {a b : List Z2} (ha : chkZ a = 0) (hb : chkZ b = 0) : ouTo (splitZ a) (splitZ b) (splitZ a).length = decide (relZ a b = 1) := by
  rw [Bool.eq_iff_iff, ouTo_iff, decide_eq_true_eq, triangles_law ha hb]
  have gd : ∀ (l : List (List Z2)) (i : Nat) (h : i < l.length), l.getD i [] = l[i] := fun l i h => by simp [h]
  constructor
  · rintro ⟨i, hi, j, hj, h⟩
    rw [gd _ _ hi, gd _ _ hj] at h
    exact ⟨_, List.getElem_mem hi, _, List.getElem_mem hj, h⟩
  · rintro ⟨s, hs, t, ht, h⟩
    obtain ⟨i, hi, rfl⟩ := List.getElem_of_mem hs
    obtain ⟨j, hj, rfl⟩ := List.getElem_of_mem ht
    exact ⟨i, hi, j, hj, by rw [gd _ _ hi, gd _ _ hj]; exact h⟩

set_option maxRecDepth 100000 in
set_option maxHeartbeats 4000000 in
/-- garmentlaw15.OverlapTriangles -/
theorem lawTriangles (A B : Option Addr) (c d : Nat) (a b : List Z2) (w : World) (h1 : Sp w A a) (hca : a.length ≤ c) (h2 : Sp w B b) (hcb : b.length ≤ d) :
    Calls Try.prog 28 #[.slice A a.length c, .slice B b.length d] w fun e w' => e = .returned (.bool true) ∧ Below w.heap.size w w' := by
  have HA := Lib.hid h1; have HB := Lib.hid h2
  have HW := Lib.hid (Below.refl w.heap.size w)
  clear h1 h2
  go_enter Try.func28, Try.ntmps28
  by_cases hm : 7 < a.length
  case pos =>
    go_wp2_with fail
    refine (example47 _).mono ?_
    rintro e w9 ⟨rfl, hb⟩
    go_wp2
    go_ret
    exact ⟨rfl, below_trans HW.out hb⟩
  case neg =>
  by_cases hm2 : 7 < b.length
  case pos =>
    go_wp2_with fail
    refine (example47 _).mono ?_
    rintro e w9 ⟨rfl, hb⟩
    go_wp2
    go_ret
    exact ⟨rfl, below_trans HW.out hb⟩
  case neg =>
  go_wp2_with fail
  refine (check46 A _ c a _ rfl (HA.out.later HW.out)).mono ?_
  rintro e w2 ⟨rfl, hb⟩
  replace HW := Lib.hid (below_trans HW.out hb)
  clear hb
  by_cases ha : chkZ a = 0
  case neg =>
    have hd : (chkZ a != 0) = true := by simpa using ha
    clear ha
    go_wp2_with fail
    refine (example47 _).mono ?_
    rintro e w9 ⟨rfl, hb⟩
    go_wp2
    go_ret
    exact ⟨rfl, below_trans HW.out hb⟩
  case pos =>
  have Ha := Lib.hid ha
  rw [ha]
  clear ha
  go_wp2_with fail
  refine (check46 B _ d b _ rfl (HB.out.later HW.out)).mono ?_
  rintro e w3 ⟨rfl, hb⟩
  replace HW := Lib.hid (below_trans HW.out hb)
  clear hb
  by_cases hb : chkZ b = 0
  case neg =>
    have hd : (chkZ b != 0) = true := by simpa using hb
    clear hb
    go_wp2_with fail
    refine (example47 _).mono ?_
    rintro e w9 ⟨rfl, hb⟩
    go_wp2
    go_ret
    exact ⟨rfl, below_trans HW.out hb⟩
  case pos =>
  have Hb := Lib.hid hb
  rw [hb]
  clear hb
  have E1 := Lib.hid (ov_ok Ha.out Hb.out)
  have LW := Lib.hid (ouTo_law Ha.out Hb.out)
  go_wp2_with fail
  refine (overlap48 A B _ _ c d a b _ rfl rfl (HA.out.later HW.out) (HB.out.later HW.out) hca hcb).mono ?_
  rintro e w4 ⟨rfl, hb⟩
  rw [E1.out.1, E1.out.2.1]
  replace HW := Lib.hid (below_trans HW.out hb)
  clear hb
  go_wp2_with fail
  refine (split58' A _ c a _ rfl (HA.out.later HW.out) hca).mono ?_
  rintro e w5 ⟨A1, c1, rfl, hc1, hs1, hb⟩
  rw [splitE_eq, Ha.out]
  have H1 := Lib.hid hs1
  replace HW := Lib.hid (below_trans HW.out hb)
  clear hs1 hb
  go_wp2_with fail
  refine (split58' B _ d b _ rfl (HB.out.later HW.out) hcb).mono ?_
  rintro e w6 ⟨A2, c2, rfl, hc2, hs2, hb⟩
  rw [splitE_eq, Hb.out]
  have H2 := Lib.hid hs2
  replace H1 := Lib.hid (H1.out.later hb)
  replace HW := Lib.hid (below_trans HW.out hb)
  clear hs2 hb
  have L1 : (splitZ a).length ≤ 40 := Nat.le_trans (split_len a) (chkZ_zero Ha.out).1
  have L2 : (splitZ b).length ≤ 40 := Nat.le_trans (split_len b) (chkZ_zero Hb.out).1
  have DA := Lib.hid (fun s (hs : s ∈ splitZ a) => And.intro (tri_poly Ha.out hs).1 (split_bd hs).2)
  have DB := Lib.hid (fun s (hs : s ∈ splitZ b) => And.intro (tri_poly Hb.out hs).1 (split_bd hs).2)
  generalize splitZ a = ss at *
  generalize splitZ b = ts at *
  generalize hx : decide (relZ a b = 1) = dx at *
  have HX := Lib.hid hx
  clear hx hm hm2
  go_wp2_with fail
  go_loopw [11, 65] (fun v i wr => ∃ k : Nat, k ≤ ss.length ∧ i = .int .i64 k ∧ v = .bool (ouTo ss ts k) ∧ Below w6.heap.size w6 wr) (fun _ i _ => ss.length - (intOf i).toNat)
  case atStart => exact ⟨0, Nat.zero_le _, rfl, rfl, Below.refl _ _⟩
  case round =>
    obtain ⟨k, hk, rfl, rfl, hB⟩ := hrel
    by_cases hlt : k < ss.length
    · have hne : ss ≠ [] := by intro h; rw [h] at hlt; simp at hlt
      obtain ⟨b1, o1, rfl, hcs⟩ := (H1.out.later hB) hne
      obtain ⟨A4, c4, r1, r2, r3⟩ := hcs k hlt
      have h3 := DA.out _ (getD_in (d := []) hlt)
      have HR := Lib.hid (show ouTo ss ts (k + 1) = inTo (ouTo ss ts k) (ss.getD k []) ts ts.length from rfl)
      clear hcs
      generalize ss.getD k [] = s at *
      rw [h3.2] at r1 r2
      have H3 := Lib.hid h3
      have HT := Lib.hid r3
      clear h3 r3
      go_wp2_with fail
      go_loopw [11, 71] (fun v j wr2 => ∃ i : Nat, i ≤ ts.length ∧ j = .int .i64 i ∧ v = .bool (inTo (ouTo ss ts k) s ts i) ∧ Below wr.heap.size wr wr2) (fun _ j _ => ts.length - (intOf j).toNat)
      case atStart => exact ⟨0, Nat.zero_le _, rfl, rfl, Below.refl _ _⟩
      case round =>
        obtain ⟨i, hi, rfl, rfl, hB2⟩ := hrel
        by_cases hj : i < ts.length
        · have hne2 : ts ≠ [] := by intro h; rw [h] at hj; simp at hj
          have hBB := hB.trans (hB2.mono hB.size)
          obtain ⟨b2, o2, rfl, hct⟩ := (H2.out.later hBB) hne2
          obtain ⟨A5, c5, s1, s2, s3⟩ := hct i hj
          have h5 := DB.out _ (getD_in (d := []) hj)
          have HC := Lib.hid (show inTo (ouTo ss ts k) s ts (i + 1) = (inTo (ouTo ss ts k) s ts i || decide (relZ s (ts.getD i []) = 1)) from rfl)
          clear hct
          generalize ts.getD i [] = t at *
          rw [h5.2] at s1 s2
          have HU := Lib.hid s3
          have H5 := Lib.hid h5
          have E5 := Lib.hid (ov_ok H3.out.1 h5.1)
          clear s3 h5
          go_wp2_with fail
          refine (overlap48 A4 A5 3 3 c4 c5 s t _ H3.out.2 H5.out.2 (HT.out.later hB2) HU.out r2 s2).mono ?_
          rintro e w' ⟨rfl, hbq⟩
          rw [E5.out.1, E5.out.2.1]
          replace hB2 := hB2.trans (hbq.mono hB2.size)
          clear hbq hBB
          generalize decide (relZ s t = 1) = dd at *
          cases hin : inTo (ouTo ss ts k) s ts i
          all_goals
            have HIN := Lib.hid hin
            clear hin
            go_wp2
            go_roundw
            case rel => exact ⟨i + 1, by omega, by go_num, by rw [HC.out, HIN.out]; simp, hB2⟩
            case measure => simp [intOf]; omega
        · obtain rfl : i = ts.length := by omega
          go_wp2
          go_roundw
          case rel => exact ⟨k + 1, by omega, by go_num, by rw [HR.out], hB.trans (hB2.mono hB.size)⟩
          case measure => simp [intOf]; omega
    · obtain rfl : k = ss.length := by omega
      rw [LW.out]
      go_wp2_with fail
      refine (example47 _).mono ?_
      rintro e w9 ⟨rfl, hb⟩
      go_wp2
      go_ret
      exact ⟨rfl, below_trans (below_trans HW.out hB) hb⟩
end Go.Proofs.Ytfgeengdmbabhaa
