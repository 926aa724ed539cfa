import Derived.Test.YtfgeengdmbabhaaWs
namespace Go.Proofs.Ytfgeengdmbabhaa
open Go.RowKit
attribute [local go_sem ↓] Go.wp_at_zero Go.wp_at_succ

set_option maxHeartbeats 400000 in
/-- garmentref11.Less -/
theorem less40 (a b : Z2) (w : World) : Calls Try.prog 40 #[sv a, sv b] w fun e w' => e = .returned (.bool (lessZ a b)) ∧ Below w.heap.size w w' := by
  go_enter Try.func40, Try.ntmps40
  go_wp2
  all_goals
    go_ret
    refine ⟨ret_bool ?_, below_trans (below_alloc _ _) (below_alloc _ _)⟩
    rw [Bool.eq_iff_iff]
    simp [lessZ]
    try omega

set_option maxHeartbeats 1000000 in
/-- garmentref11.Twice -/
theorem twice77 (A : Option Addr) (n c : Nat) (ps : List Z2) (w : World) (hl : ps.length = n) (hsp : Sp w A ps) (hn : n ≤ 100000) (hbd : ∀ p ∈ ps, Bd p) :
    Calls Try.prog 77 #[.slice A n c] w fun e w' => e = .returned (iv (areaZ ps)) ∧ Below w.heap.size w w' := by
  subst hl
  have HS := Lib.hid hsp; clear hsp
  have HD := Lib.hid hbd; clear hbd
  go_enter Try.func77, Try.ntmps77
  go_wp2
  go_loopw [3, 4] (fun s i wr => ∃ k : Nat, k ≤ ps.length ∧ i = .int .i64 k ∧ s = iv (areaTo ps k) ∧ Below w.heap.size w wr) (fun _ i _ => ps.length - (intOf i).toNat)
  case atStart => exact ⟨0, Nat.zero_le _, rfl, rfl, Below.refl _ _⟩
  case round =>
    obtain ⟨k, hk, rfl, rfl, hB⟩ := hrel
    by_cases hlt : k < ps.length
    · have hne : ps ≠ [] := by intro h; simp [h] at hlt
      have hp : 0 < ps.length := by omega
      obtain ⟨b, off, rfl, hc⟩ := HS.out.later hB hne
      have l1 : (k + 1) % ps.length < ps.length := Nat.mod_lt _ hp
      obtain ⟨g1, g2⟩ := hc k hlt
      obtain ⟨g3, g4⟩ := hc _ l1
      have m1 := mod_one k ps.length
      have hb0 := areaTo_bd HD.out k
      have hb1 := sideZ_bd (bd_pt HD.out k) (bd_pt HD.out ((k + 1) % ps.length))
      have hba := bd_pt HD.out k
      have hbb := bd_pt HD.out ((k + 1) % ps.length)
      have HE := Lib.hid (show areaTo ps (k + 1) = areaTo ps k + sideZ (pt ps k) (pt ps ((k + 1) % ps.length)) from rfl)
      generalize e1 : (k + 1) % ps.length = k1 at *
      clear hc e1
      have nb : b < wr.heap.size := World.block_lt_of_cell? _ _ g1
      have nb2 : b ≠ wr.heap.size := by omega
      have nb3 : b ≠ wr.heap.size + 1 := by omega
      have q1 : (0 : Int) ≤ (k1 : Int) := by omega
      have q2 : (k1 : Int) < (ps.length : Int) := by omega
      have q3 : ((ps.length : Int) == 0) = false := beq_eq_false_iff_ne.2 (by omega)
      have q4 : ¬ ((ps.length : Int) = 0) := by omega
      have t1 : ((k : Int) + 1).tmod (ps.length : Int) = (k1 : Int) := by rw [Int.tmod_eq_emod_of_nonneg (by omega)]; exact m1
      have s1 : IntKind.i64.wrap ((k : Int) + 1) = (k : Int) + 1 := IntWalk.i64_in _ (by omega)
      have HX := Lib.hid (show wrap64 (wrap64 (areaTo ps k + wrap64 ((pt ps k).x * (pt ps k1).y)) - wrap64 ((pt ps k).y * (pt ps k1).x)) = areaTo ps (k + 1) by
        unfold Bd at hba hbb
        have e1 := prod22 (a := (pt ps k).x) (b := (pt ps k1).y) (by omega) (by omega)
        have e2 := prod22 (a := (pt ps k).y) (b := (pt ps k1).x) (by omega) (by omega)
        rw [HE.out, wrap64_in (n := (pt ps k).x * (pt ps k1).y) (by omega) (by omega), wrap64_in (n := (pt ps k).y * (pt ps k1).x) (by omega) (by omega), wrap64_in (n := areaTo ps k + (pt ps k).x * (pt ps k1).y) (by omega) (by omega)]
        rw [wrap64_in (by omega) (by omega)]
        unfold sideZ; omega)
      clear hb0 hb1 hba hbb
      go_upto_region 5 with fail
      go_cut [5, 6] (fun u v wx => TwoAt wr (pt ps k) (pt ps k1) u v wx)
      case first =>
        go_region
        · go_wp2_with fail
          go_meet
          exact TwoAt.new _ _ _
        · go_wp2_with fail
          go_meet
          exact TwoAt.new' _ _ _
      case rest =>
        obtain ⟨ga, gb, rfl, rfl, na, ngb, nab, Ba, Bb, hbx⟩ := hcut
        clear g1 g2 g3 g4 nb nb2 nb3 t1 s1 m1 q1 q2 q3 q4
        have hBx := hB.trans (hbx.mono hB.size)
        have f3 := Ba.cell 0; have f4 := Ba.cell 1; have f5 := Bb.cell 0; have f6 := Bb.cell 1
        simp at f3 f4 f5 f6
        clear Ba Bb hbx
        go_wp2
        go_roundw
        case rel => exact ⟨k + 1, by omega, by go_num, congrArg iv HX.out, hBx⟩
        case measure => simp [intOf]; omega
    · obtain rfl : k = ps.length := by omega
      go_wp2
      go_ret
      exact ⟨rfl, hB⟩

/-- garmentref11.Area2 -/
theorem area2_51 (A : Option Addr) (n c : Nat) (ps : List Z2) (w : World) (hl : ps.length = n) (hsp : Sp w A ps) :
    Calls Try.prog 51 #[.slice A n c] w fun e w' => e = .returned (iv (aZ ps)) ∧ Below w.heap.size w w' := by
  have HS := Lib.hid hsp; clear hsp
  have HL := Lib.hid hl
  by_cases h0 : chkZ ps = 0
  · have H0 := Lib.hid h0
    obtain ⟨hl40, _, hD, _, _⟩ := chkZ_zero h0
    have HD := Lib.hid hD
    clear h0 hD
    go_enter Try.func51, Try.ntmps51
    go_wp2_with fail
    refine (check46 A n c ps _ HL.out HS.out).mono ?_
    rintro e w1 ⟨rfl, hb1⟩
    rw [H0.out]
    go_wp2_with fail
    refine (twice77 A n c ps _ HL.out (HS.out.later hb1) (by omega) HD.out).mono ?_
    rintro e w2 ⟨rfl, hb2⟩
    go_wp2
    go_ret
    exact ⟨ret_int (aZ_pos H0.out).symm, below_trans hb1 hb2⟩
  · have H0 := Lib.hid h0
    have hd : (chkZ ps != 0) = true := by simpa using h0
    clear h0
    go_enter Try.func51, Try.ntmps51
    go_wp2_with fail
    refine (check46 A n c ps _ HL.out HS.out).mono ?_
    rintro e w1 ⟨rfl, hb1⟩
    go_wp2
    go_ret
    exact ⟨ret_int (aZ_neg H0.out).symm, hb1⟩
end Go.Proofs.Ytfgeengdmbabhaa
