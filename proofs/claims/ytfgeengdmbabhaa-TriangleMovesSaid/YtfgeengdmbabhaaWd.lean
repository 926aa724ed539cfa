import Derived.Test.YtfgeengdmbabhaaWc
namespace Go.Proofs.Ytfgeengdmbabhaa
open Go.RowKit
attribute [local go_sem ↓] Go.wp_at_zero Go.wp_at_succ

/-- the result of Check -/
def chkZ (ps : List Z2) : Int :=
  if 40 < ps.length then 5 else if ps.length < 3 then 11 else if ps.any outZ then 3 else if simpleZ ps then 0 else 11

theorem bd_of_in {ps : List Z2} (h : ps.any outZ = false) : ∀ p ∈ ps, Bd p := fun p hp => by
  have := List.any_eq_false.1 h p hp
  simp [outZ] at this
  unfold Bd; omega

set_option maxHeartbeats 400000 in
/-- polygon.Check -/
theorem check38 (A : Option Addr) (c : Nat) (ps : List Z2) (w : World) (hsp : Sp w A ps) (hcap : ps.length ≤ c) :
    Calls Try.prog 38 #[.slice A ps.length c] w fun e w' => e = .returned (iv (chkZ ps)) ∧ Below w.heap.size w w' := by
  have HS := Lib.hid hsp; clear hsp
  by_cases h1 : 40 < ps.length
  · have HE := Lib.hid (show chkZ ps = 5 by simp [chkZ, h1])
    go_enter Try.func38, Try.ntmps38
    go_wp2
    go_ret
    exact ⟨ret_int HE.out.symm, Below.refl _ _⟩
  by_cases h2 : ps.length < 3
  · have HE := Lib.hid (show chkZ ps = 11 by simp [chkZ, h1, h2])
    go_enter Try.func38, Try.ntmps38
    go_wp2
    go_ret
    exact ⟨ret_int HE.out.symm, Below.refl _ _⟩
  cases h3 : ps.any outZ
  case true =>
    have HE := Lib.hid (show chkZ ps = 3 by unfold chkZ; rw [if_neg h1, if_neg h2, h3]; rfl)
    have H3 := Lib.hid h3
    clear h3
    go_enter Try.func38, Try.ntmps38
    go_wp2_with fail
    refine (containsFunc83 A c ps _ HS.out (by omega)).mono ?_
    rintro e w1 ⟨rfl, hb1⟩
    rw [H3.out]
    go_wp2
    go_ret
    exact ⟨ret_int HE.out.symm, hb1⟩
  case false =>
    have HD := Lib.hid (bd_of_in h3)
    have HE := Lib.hid (show chkZ ps = if simpleZ ps then 0 else 11 by unfold chkZ; rw [if_neg h1, if_neg h2, h3]; rfl)
    have H3 := Lib.hid h3
    clear h3
    go_enter Try.func38, Try.ntmps38
    go_wp2_with fail
    refine (containsFunc83 A c ps _ HS.out (by omega)).mono ?_
    rintro e w1 ⟨rfl, hb1⟩
    rw [H3.out]
    go_wp2_with fail
    refine (simple84 A c ps _ (HS.out.later hb1) (by omega) hcap HD.out).mono ?_
    rintro e w2 ⟨b, rfl, hb, hb2⟩
    have HB := Lib.hid hb
    clear hb
    cases b
    all_goals
      go_wp2
      go_ret
      exact ⟨ret_int (by rw [HE.out, ← HB.out]; rfl), below_trans hb1 hb2⟩

/-- the turn at a vertex -/
def bendZ (ps : List Z2) (i : Nat) : Int := crZ (pt ps ((i + ps.length - 1) % ps.length)) (pt ps i) (pt ps ((i + 1) % ps.length))

theorem modN {k n : Nat} (h : 1 ≤ n) : ((k : Int) + (n : Int) - 1) % (n : Int) = (((k + n - 1) % n : Nat) : Int) := by
  rw [Int.natCast_emod]; congr 1; omega

set_option maxHeartbeats 400000 in
/-- polygon.bend -/
theorem bend73 (A : Option Addr) (c : Nat) (ps : List Z2) (i : Nat) (w : World) (hsp : Sp w A ps) (hn : ps.length ≤ 1000000000) (hi : i < ps.length) (hbd : ∀ p ∈ ps, Bd p) :
    Calls Try.prog 73 #[.slice A ps.length c, iv i] w fun e w' => e = .returned (iv (bendZ ps i)) ∧ Below w.heap.size w w' := by
  have hne : ps ≠ [] := by intro h; simp [h] at hi
  have hp : 0 < ps.length := by omega
  obtain ⟨b, off, rfl, hc⟩ := hsp hne
  have l1 : (i + 1) % ps.length < ps.length := Nat.mod_lt _ hp
  have l2 : (i + ps.length - 1) % ps.length < ps.length := Nat.mod_lt _ hp
  obtain ⟨g1, g2⟩ := hc i hi
  obtain ⟨g3, g4⟩ := hc _ l1
  obtain ⟨g5, g6⟩ := hc _ l2
  have m1 := mod_one i ps.length
  have m2 := modN (k := i) (n := ps.length) hp
  have HE := Lib.hid (show bendZ ps i = crZ (pt ps ((i + ps.length - 1) % ps.length)) (pt ps i) (pt ps ((i + 1) % ps.length)) from rfl)
  generalize e1 : (i + 1) % ps.length = k1 at *
  generalize e2 : (i + ps.length - 1) % ps.length = k2 at *
  have HD := Lib.hid hbd
  clear e1 e2 hc hbd hsp
  have q1 : (0 : Int) ≤ (k2 : Int) := by omega
  have q2 : (k2 : Int) < (ps.length : Int) := by omega
  have q5 : (0 : Int) ≤ (k1 : Int) := by omega
  have q6 : (k1 : Int) < (ps.length : Int) := by omega
  have q7 : (0 : Int) ≤ (i : Int) := by omega
  have q8 : (i : Int) < (ps.length : Int) := by omega
  have q3 : ((ps.length : Int) == 0) = false := beq_eq_false_iff_ne.2 (by omega)
  have q4 : ¬ ((ps.length : Int) = 0) := by omega
  have t1 : ((i : Int) + 1).tmod (ps.length : Int) = (k1 : Int) := by rw [Int.tmod_eq_emod_of_nonneg (by omega)]; exact m1
  have t2 : ((i : Int) + (ps.length : Int) - 1).tmod (ps.length : Int) = (k2 : Int) := by rw [Int.tmod_eq_emod_of_nonneg (by omega)]; exact m2
  clear m1 m2
  have s1 : IntKind.i64.wrap ((i : Int) + 1) = (i : Int) + 1 := IntWalk.i64_in _ (by omega)
  have s2 : IntKind.i64.wrap ((i : Int) + (ps.length : Int)) = (i : Int) + (ps.length : Int) := IntWalk.i64_in _ (by omega)
  have s3 : IntKind.i64.wrap ((i : Int) + (ps.length : Int) - 1) = (i : Int) + (ps.length : Int) - 1 := IntWalk.i64_in _ (by omega)
  go_enter Try.func73, Try.ntmps73
  go_wp2
  go_region_held3 (fun w' => w'.cell? ⟨b, off + i * 2, none⟩ = some (iv (pt ps i).x) ∧ w'.cell? ⟨b, off + i * 2 + 1, none⟩ = some (iv (pt ps i).y) ∧ w'.cell? ⟨b, off + k1 * 2, none⟩ = some (iv (pt ps k1).x) ∧ w'.cell? ⟨b, off + k1 * 2 + 1, none⟩ = some (iv (pt ps k1).y)
      ∧ w'.cell? ⟨b, off + k2 * 2, none⟩ = some (iv (pt ps k2).x) ∧ w'.cell? ⟨b, off + k2 * 2 + 1, none⟩ = some (iv (pt ps k2).y))
    (first | exact ⟨g1, g2, g3, g4, g5, g6⟩ | assumption | (go_split_ands; refine ⟨?_, ?_, ?_, ?_, ?_, ?_⟩ <;> exact cell_later hbq (by assumption)))
    (first | (go_at_call 81; refine (cross81 (pt ps k2) (pt ps i) (pt ps k1) _ (bd_pt HD.out _) (bd_pt HD.out _) (bd_pt HD.out _)).mono ?_; rintro e w' ⟨rfl, hbq⟩))
  go_split_ands
  clear s1 s2 s3 t1 t2
  go_wp2
  go_ret
  exact ⟨ret_int HE.out.symm, below_trans (below_drew w) hbq⟩
end Go.Proofs.Ytfgeengdmbabhaa
