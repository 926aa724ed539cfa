import Derived.Test.YtfgeengdmbabhaaWd
namespace Go.Proofs.Ytfgeengdmbabhaa
open Go.RowKit
attribute [local go_sem ↓] Go.wp_at_zero Go.wp_at_succ

/-- the vertex behind vertex k -/
def nx (ps : List Z2) (k : Nat) : Z2 := pt ps ((k + 1) % ps.length)
/-- one side's part of twice the area -/
def sideZ (a b : Z2) : Int := a.x * b.y - a.y * b.x
def areaTo (ps : List Z2) : Nat → Int
  | 0 => 0
  | k + 1 => areaTo ps k + sideZ (pt ps k) (nx ps k)
/-- twice the area -/
def areaZ (ps : List Z2) : Int := areaTo ps ps.length

theorem prod22 {a b : Int} (h1 : -4194304 ≤ a ∧ a ≤ 4194304) (h2 : -4194304 ≤ b ∧ b ≤ 4194304) : -17592186044416 ≤ a * b ∧ a * b ≤ 17592186044416 := by
  have := mul_bd (M := 4194304) (N := 4194304) h1.1 h1.2 h2.1 h2.2
  omega
theorem sideZ_bd {a b : Z2} (ha : Bd a) (hb : Bd b) : -35184372088832 ≤ sideZ a b ∧ sideZ a b ≤ 35184372088832 := by
  unfold Bd at *
  have e1 := prod22 (a := a.x) (b := b.y) (by omega) (by omega)
  have e2 := prod22 (a := a.y) (b := b.x) (by omega) (by omega)
  unfold sideZ; omega
theorem sideZ_wrap {a b : Z2} (ha : Bd a) (hb : Bd b) : wrap64 (wrap64 (a.x * b.y) - wrap64 (a.y * b.x)) = sideZ a b := by
  have h0 := sideZ_bd ha hb
  unfold Bd at *
  have e1 := prod22 (a := a.x) (b := b.y) (by omega) (by omega)
  have e2 := prod22 (a := a.y) (b := b.x) (by omega) (by omega)
  rw [wrap64_in (n := a.x * b.y) (by omega) (by omega), wrap64_in (n := a.y * b.x) (by omega) (by omega)]
  unfold sideZ at *
  rw [wrap64_in (by omega) (by omega)]
theorem areaTo_bd {ps : List Z2} (h : ∀ p ∈ ps, Bd p) (k : Nat) : -(35184372088832 * (k : Int)) ≤ areaTo ps k ∧ areaTo ps k ≤ 35184372088832 * (k : Int) := by
  induction k with
  | zero => simp [areaTo]
  | succ k ih =>
    have := sideZ_bd (bd_pt h k) (bd_pt h ((k + 1) % ps.length))
    simp only [areaTo, nx]
    omega

set_option maxHeartbeats 400000 in
/-- polygon.area -/
theorem area74 (A : Option Addr) (c : Nat) (ps : List Z2) (w : World) (hsp : Sp w A ps) (hn : ps.length ≤ 100000) (hbd : ∀ p ∈ ps, Bd p) :
    Calls Try.prog 74 #[.slice A ps.length c] w fun e w' => e = .returned (iv (areaZ ps)) ∧ Below w.heap.size w w' := by
  have HS := Lib.hid hsp; clear hsp
  have HD := Lib.hid hbd; clear hbd
  go_enter Try.func74, Try.ntmps74
  go_wp2
  go_loopw [3, 9] (fun s i wr => ∃ k : Nat, k ≤ ps.length ∧ i = .int .i64 k ∧ s = iv (areaTo ps k) ∧ Below w.heap.size w wr) (fun _ i _ => ps.length - (intOf i).toNat)
  case atStart => exact ⟨0, Nat.zero_le _, rfl, rfl, Below.refl _ _⟩
  case round =>
    obtain ⟨k, hk, rfl, rfl, hB⟩ := hrel
    by_cases hlt : k < ps.length
    · have hne : ps ≠ [] := by intro h; simp [h] at hlt
      have hp : 0 < ps.length := by omega
      obtain ⟨b, off, rfl, hc⟩ := HS.out.later hB hne
      have l1 : (k + 1) % ps.length < ps.length := Nat.mod_lt _ hp
      obtain ⟨g1, g2⟩ := hc k hlt
      obtain ⟨g3, g4⟩ := hc _ l1
      have m1 := mod_one k ps.length
      have hb0 := areaTo_bd HD.out k
      have hb1 := sideZ_bd (bd_pt HD.out k) (bd_pt HD.out ((k + 1) % ps.length))
      have HW := Lib.hid (sideZ_wrap (bd_pt HD.out k) (bd_pt HD.out ((k + 1) % ps.length)))
      have HE := Lib.hid (show areaTo ps (k + 1) = areaTo ps k + sideZ (pt ps k) (pt ps ((k + 1) % ps.length)) from rfl)
      generalize e1 : (k + 1) % ps.length = k1 at *
      clear hc e1
      have nb : b < wr.heap.size := World.block_lt_of_cell? _ _ g1
      have nb2 : b ≠ wr.heap.size := by omega
      have nb3 : b ≠ wr.heap.size + 1 := by omega
      have hB' := hB.trans ((boxes2 wr (pt ps k) (pt ps k1)).1.mono hB.size)
      have HX := Lib.hid (show wrap64 (areaTo ps k + wrap64 (wrap64 ((pt ps k).x * (pt ps k1).y) - wrap64 ((pt ps k).y * (pt ps k1).x))) = areaTo ps (k + 1) by
        rw [HW.out, HE.out]; exact wrap64_in (by omega) (by omega))
      go_wp2
      go_roundw
      case rel => exact ⟨k + 1, by omega, by go_num, congrArg iv HX.out, hB'⟩
      case measure => simp [intOf]; omega
    · obtain rfl : k = ps.length := by omega
      go_wp2
      go_ret
      exact ⟨rfl, hB⟩

theorem chkZ_zero {ps : List Z2} (h0 : chkZ ps = 0) : ps.length ≤ 40 ∧ 3 ≤ ps.length ∧ (∀ p ∈ ps, Bd p) ∧ ps.any outZ = false ∧ simpleZ ps = true := by
  unfold chkZ at h0
  split at h0
  · simp at h0
  split at h0
  · simp at h0
  cases h3 : ps.any outZ with
  | true => rw [h3] at h0; simp at h0
  | false =>
    rw [h3] at h0
    cases h4 : simpleZ ps with
    | false => rw [h4] at h0; simp at h0
    | true => exact ⟨by omega, by omega, bd_of_in h3, rfl, rfl⟩

def aZ (ps : List Z2) : Int := if chkZ ps = 0 then areaZ ps else 0
theorem aZ_pos {ps : List Z2} (h : chkZ ps = 0) : aZ ps = areaZ ps := if_pos h
theorem aZ_neg {ps : List Z2} (h : ¬ chkZ ps = 0) : aZ ps = 0 := if_neg h

set_option maxHeartbeats 400000 in
/-- polygon.Area2 -/
theorem area2_39 (A : Option Addr) (c : Nat) (ps : List Z2) (w : World) (hsp : Sp w A ps) (hcap : ps.length ≤ c) :
    Calls Try.prog 39 #[.slice A ps.length c] w fun e w' => e = .returned (iv (aZ ps)) ∧ Below w.heap.size w w' := by
  have HS := Lib.hid hsp; clear hsp
  by_cases h0 : chkZ ps = 0
  · have H0 := Lib.hid h0
    obtain ⟨hl, _, hD, _, _⟩ := chkZ_zero h0
    have HD := Lib.hid hD
    clear hD
    clear h0
    go_enter Try.func39, Try.ntmps39
    go_wp2_with fail
    refine (check38 A c ps _ HS.out hcap).mono ?_
    rintro e w1 ⟨rfl, hb1⟩
    rw [H0.out]
    go_wp2_with fail
    refine (area74 A c ps _ (HS.out.later hb1) (by omega) HD.out).mono ?_
    rintro e w2 ⟨rfl, hb2⟩
    go_wp2
    go_ret
    exact ⟨ret_int (aZ_pos H0.out).symm, below_trans hb1 hb2⟩
  · have H0 := Lib.hid h0
    have hd : (chkZ ps != 0) = true := by simpa using h0
    clear h0
    go_enter Try.func39, Try.ntmps39
    go_wp2_with fail
    refine (check38 A c ps _ HS.out hcap).mono ?_
    rintro e w1 ⟨rfl, hb1⟩
    go_wp2
    go_ret
    exact ⟨ret_int (aZ_neg H0.out).symm, hb1⟩

/-- the answer of Convex -/
def convexZ (ps : List Z2) : Bool := (List.range ps.length).all (fun i => decide (0 ≤ bendZ ps i)) && decide (0 < areaZ ps)
def cvZ (ps : List Z2) : Bool := if chkZ ps = 0 then convexZ ps else false
theorem cvZ_pos {ps : List Z2} (h : chkZ ps = 0) : cvZ ps = convexZ ps := if_pos h
theorem cvZ_neg {ps : List Z2} (h : ¬ chkZ ps = 0) : cvZ ps = false := if_neg h

theorem bendZ_bd {ps : List Z2} (h : ∀ p ∈ ps, Bd p) (k : Nat) : -140737488355328 ≤ bendZ ps k ∧ bendZ ps k ≤ 140737488355328 := crZ_bd (bd_pt h _) (bd_pt h _) (bd_pt h _)

set_option maxHeartbeats 400000 in
/-- polygon.Convex -/
theorem convex44 (A : Option Addr) (c : Nat) (ps : List Z2) (w : World) (hsp : Sp w A ps) (hcap : ps.length ≤ c) :
    Calls Try.prog 44 #[.slice A ps.length c] w fun e w' => e = .returned (.tuple #[.bool (cvZ ps), iv (chkZ ps)]) ∧ Below w.heap.size w w' := by
  have HS := Lib.hid hsp; clear hsp
  by_cases h0 : chkZ ps = 0
  · have H0 := Lib.hid h0
    obtain ⟨hl, _, hD, _, _⟩ := chkZ_zero h0
    have HD := Lib.hid hD
    clear h0 hD
    go_enter Try.func44, Try.ntmps44
    go_wp2_with fail
    refine (check38 A c ps _ HS.out hcap).mono ?_
    rintro e w1 ⟨rfl, hb1⟩
    rw [H0.out]
    go_wp2_with fail
    go_loopw [13] (fun i wr => ∃ k : Nat, k ≤ ps.length ∧ i = .int .i64 k ∧ (∀ j, j < k → decide (0 ≤ bendZ ps j) = true) ∧ Below w.heap.size w wr) (fun i _ => ps.length - (intOf i).toNat)
    case atStart => exact ⟨0, Nat.zero_le _, rfl, fun j hj => absurd hj (by omega), hb1⟩
    case round =>
      obtain ⟨k, hk, rfl, hno, hB⟩ := hrel
      have HN := Lib.hid hno
      clear hno
      by_cases hlt : k < ps.length
      · go_wp2_with fail
        refine (bend73 A c ps k _ (HS.out.later hB) (by omega) hlt HD.out).mono ?_
        rintro e w2 ⟨rfl, hb2⟩
        go_wp2
        · have h : bendZ ps k < 0 := by assumption
          go_ret2
          refine ⟨?_, hB.trans (hb2.mono hB.size)⟩
          have : convexZ ps = false := by
            unfold convexZ
            have : (List.range ps.length).all (fun i => decide (0 ≤ bendZ ps i)) = false := by
              rw [List.all_eq_false]
              exact ⟨k, by simpa using hlt, by simp; omega⟩
            rw [this]; rfl
          rw [cvZ_pos H0.out, this, H0.out]
          rfl
        · have h : 0 ≤ bendZ ps k := by assumption
          go_roundw
          case rel =>
            refine ⟨k + 1, by omega, by go_num, fun j hj => ?_, hB.trans (hb2.mono hB.size)⟩
            by_cases e : j = k
            · subst e; simpa using h
            · exact HN.out j (by omega)
          case measure => simp [intOf]; omega
      · obtain rfl : k = ps.length := by omega
        go_wp2_with fail
        refine (area74 A c ps _ (HS.out.later hB) (by omega) HD.out).mono ?_
        rintro e w2 ⟨rfl, hb2⟩
        go_wp2
        go_ret2
        refine ⟨?_, hB.trans (hb2.mono hB.size)⟩
        have : (List.range ps.length).all (fun i => decide (0 ≤ bendZ ps i)) = true := List.all_eq_true.2 fun j hj => HN.out j (by simpa using hj)
        rw [cvZ_pos H0.out, H0.out]
        unfold convexZ
        rw [this]
        rfl
  · have H0 := Lib.hid h0
    have hd : (chkZ ps != 0) = true := by simpa using h0
    clear h0
    go_enter Try.func44, Try.ntmps44
    go_wp2_with fail
    refine (check38 A c ps _ HS.out hcap).mono ?_
    rintro e w1 ⟨rfl, hb1⟩
    go_wp2
    go_ret2
    refine ⟨?_, hb1⟩
    rw [cvZ_neg H0.out]
    rfl
end Go.Proofs.Ytfgeengdmbabhaa
