import Derived.Test.YtfgeengdmbabhaaWe
import Derived.Deep.QuietTactic
import Derived.BigQuiet
namespace Go.Proofs.Ytfgeengdmbabhaa
open Go.RowKit
attribute [local go_sem ↓] Go.wp_at_zero Go.wp_at_succ

/-- does the ray from q to the right cross the side a b? -/
def crossesZ (a b q : Z2) : Bool := (decide (a.y ≤ q.y) && decide (q.y < b.y) && decide (0 < crZ a b q)) || (decide (b.y ≤ q.y) && decide (q.y < a.y) && decide (crZ a b q < 0))
def parTo (ps : List Z2) (q : Z2) : Nat → Int
  | 0 => -1
  | k + 1 => if crossesZ (pt ps k) (nx ps k) q then - parTo ps q k else parTo ps q k
def onAny (ps : List Z2) (q : Z2) : Bool := (List.range ps.length).any fun i => onZ (pt ps i) (nx ps i) q
/-- the position of a spot relative to a valid polygon -/
def placeZ (ps : List Z2) (q : Z2) : Int := if outZ q then -1 else if onAny ps q then 0 else parTo ps q ps.length
def whereZ (ps : List Z2) (q : Z2) : Int := if chkZ ps = 0 then placeZ ps q else 0
theorem whereZ_pos {ps : List Z2} (h : chkZ ps = 0) (q : Z2) : whereZ ps q = placeZ ps q := if_pos h
theorem whereZ_neg {ps : List Z2} (h : ¬ chkZ ps = 0) (q : Z2) : whereZ ps q = 0 := if_neg h
theorem parTo_bd (ps : List Z2) (q : Z2) (k : Nat) : -1 ≤ parTo ps q k ∧ parTo ps q k ≤ 1 := by
  induction k with
  | zero => simp [parTo]
  | succ k ih => simp only [parTo]; split <;> omega
theorem parTo_succ (ps : List Z2) (q : Z2) (k : Nat) : parTo ps q (k + 1) = if crossesZ (pt ps k) (pt ps ((k + 1) % ps.length)) q then - parTo ps q k else parTo ps q k := rfl
theorem bd_of_out {q : Z2} (h : outZ q = false) : Bd q := by
  simp [outZ] at h; unfold Bd; omega

theorem bdN {B : Nat} {a w : World} (h : Below B a w) (n : Nat) : Below B a (w.drewN n) := ⟨h.os, h.tape, h.output, h.size, h.block⟩
theorem cross_iff (a b q : Z2) : crossesZ a b q = true ↔ (a.y ≤ q.y ∧ q.y < b.y ∧ 0 < crZ a b q ∨ b.y ≤ q.y ∧ q.y < a.y ∧ crZ a b q < 0) := by
  simp [crossesZ]; omega

set_option maxHeartbeats 4000000 in
/-- polygon.Where -/
theorem where35 (A : Option Addr) (c : Nat) (ps : List Z2) (q : Z2) (w : World) (hsp : Sp w A ps) (hcap : ps.length ≤ c) :
    Calls Try.prog 35 #[.slice A ps.length c, sv q] w fun e w' => e = .returned (.tuple #[iv (whereZ ps q), iv (chkZ ps)]) ∧ Below w.heap.size w w' := by
  have HS := Lib.hid hsp; clear hsp
  by_cases h0 : chkZ ps = 0
  case neg =>
    have H0 := Lib.hid h0
    have hd : (chkZ ps != 0) = true := by simpa using h0
    clear h0
    go_enter Try.func35, Try.ntmps35
    go_wp2_with fail
    refine (check38 A c ps _ (HS.out.later (below_alloc _ _)) hcap).mono ?_
    rintro e w1 ⟨rfl, hb1⟩
    go_wp2
    go_ret2
    refine ⟨?_, below_trans (below_alloc _ _) hb1⟩
    rw [whereZ_neg H0.out]
    rfl
  case pos =>
    have H0 := Lib.hid h0
    obtain ⟨hl, _, hD, _, _⟩ := chkZ_zero h0
    have HD := Lib.hid hD
    clear h0 hD
    go_enter Try.func35, Try.ntmps35
    go_wp2_with fail
    refine (check38 A c ps _ (HS.out.later (below_alloc _ _)) hcap).mono ?_
    rintro e w1 ⟨rfl, hb1⟩
    have F := boxes1 w q
    revert hb1 F
    generalize w.alloc (.cells #[iv q.x, iv q.y] 30) = W
    rintro hb1 ⟨hW, f1, f2⟩
    replace f1 := cell_later hb1 f1
    replace f2 := cell_later hb1 f2
    have hB1 := below_trans hW hb1
    clear hb1 hW W
    rw [H0.out]
    go_wp2_with fail
    refine (outside79 q _).mono ?_
    rintro e w2 ⟨rfl, hb2⟩
    replace f1 := cell_later hb2 f1
    replace f2 := cell_later hb2 f2
    have hB2 := below_trans hB1 hb2
    clear hb2 hB1
    cases ho : outZ q
    case true =>
      have HO := Lib.hid ho
      clear ho
      go_wp2
      go_ret2
      refine ⟨?_, hB2⟩
      rw [whereZ_pos H0.out, H0.out]
      unfold placeZ
      rw [HO.out]
      rfl
    case false =>
      have HO := Lib.hid ho
      have HQ := Lib.hid (bd_of_out ho)
      clear ho
      go_wp2
      go_loopw [7, 22] (fun v i wr => ∃ k : Nat, k ≤ ps.length ∧ i = .int .i64 k ∧ v = iv (parTo ps q k) ∧ (∀ j, j < k → onZ (pt ps j) (nx ps j) q = false) ∧ Below w.heap.size w wr ∧ wr.cell? ⟨w.heap.size, 0, none⟩ = some (iv q.x) ∧ wr.cell? ⟨w.heap.size, 1, none⟩ = some (iv q.y)) (fun _ i _ => ps.length - (intOf i).toNat)
      case atStart => exact ⟨0, Nat.zero_le _, rfl, rfl, fun j hj => absurd hj (by omega), hB2, f1, f2⟩
      case round =>
        clear f1 f2 hB2
        obtain ⟨k, hk, rfl, rfl, hno, hB, f1, f2⟩ := hrel
        have HN := Lib.hid hno
        clear hno
        by_cases hlt : k < ps.length
        · have hne : ps ≠ [] := by intro h; simp [h] at hlt
          have hp : 0 < ps.length := by omega
          obtain ⟨b, off, rfl, hc⟩ := HS.out.later hB hne
          have l1 : (k + 1) % ps.length < ps.length := Nat.mod_lt _ hp
          obtain ⟨g1, g2⟩ := hc k hlt
          obtain ⟨g3, g4⟩ := hc _ l1
          have m1 := mod_one k ps.length
          have HP := Lib.hid (parTo_succ ps q k)
          have HX := Lib.hid (show nx ps k = pt ps ((k + 1) % ps.length) from rfl)
          have hb0 := parTo_bd ps q k
          generalize e1 : (k + 1) % ps.length = k1 at *
          clear hc e1
          have nb : b < wr.heap.size := World.block_lt_of_cell? _ _ g1
          have nb2 : b ≠ wr.heap.size := by omega
          have nb3 : b ≠ wr.heap.size + 1 := by omega
          have nc : w.heap.size < wr.heap.size := World.block_lt_of_cell? _ _ f1
          have nc2 : w.heap.size ≠ wr.heap.size := by omega
          have nc3 : w.heap.size ≠ wr.heap.size + 1 := by omega
          go_wp2_with fail
          refine (on80 (pt ps k) (pt ps k1) q _ (bd_pt HD.out _) (bd_pt HD.out _) HQ.out).mono ?_
          rintro e w3 ⟨rfl, hb3⟩
          have F := boxes2 wr (pt ps k) (pt ps k1)
          revert F hb3
          generalize ((wr.alloc (.cells #[iv (pt ps k).x, iv (pt ps k).y] 30)).alloc (.cells #[iv (pt ps k1).x, iv (pt ps k1).y] 30)) = W
          rintro hb3 ⟨hW, f3, f4, f5, f6⟩
          have hB3 := hB.trans ((below_trans hW hb3).mono hB.size)
          replace f1 := cell_later (below_trans hW hb3) f1
          replace f2 := cell_later (below_trans hW hb3) f2
          replace f3 := cell_later hb3 f3
          replace f4 := cell_later hb3 f4
          replace f5 := cell_later hb3 f5
          replace f6 := cell_later hb3 f6
          clear hb3 hW g1 g2 g3 g4 m1 nb nb2 nb3 nc nc2 nc3
          cases hon : onZ (pt ps k) (pt ps k1) q
          case true =>
            have HON := Lib.hid hon
            clear hon
            go_wp2
            go_ret2
            refine ⟨?_, hB3⟩
            have : onAny ps q = true := List.any_eq_true.2 ⟨k, by simpa using hlt, by simp only [HX.out]; exact HON.out⟩
            rw [whereZ_pos H0.out, H0.out]
            unfold placeZ
            rw [HO.out, this]
            rfl
          case false =>
            have HON := Lib.hid hon
            clear hon
            go_wp2
            by_cases c1 : (pt ps k).y ≤ q.y <;> by_cases c2 : q.y < (pt ps k1).y
            all_goals
              first | have d1 := decide_eq_true c1 | have d1 := decide_eq_false c1
              first | have d2 := decide_eq_true c2 | have d2 := decide_eq_false c2
              first | have d3 := decide_eq_true (show (pt ps k1).y ≤ q.y by omega) | have d3 := decide_eq_false (show ¬ (pt ps k1).y ≤ q.y by omega)
              first | have d4 := decide_eq_true (show q.y < (pt ps k).y by omega) | have d4 := decide_eq_false (show ¬ q.y < (pt ps k).y by omega)
              go_quiet (fail)
              go_wp2_with (first | (go_at_call 81; refine (cross81 (pt ps k) (pt ps k1) q _ (bd_pt HD.out _) (bd_pt HD.out _) HQ.out).mono ?_; rintro e w' ⟨rfl, hbq⟩))
            all_goals
              go_roundw
              case rel =>
                refine ⟨k + 1, by omega, by go_num, congrArg iv ?_, fun j hj => ?_, ?_, ?_, ?_⟩
                · rw [HP.out]
                  first
                    | rw [if_pos ((cross_iff _ _ _).2 (by omega))]
                    | rw [if_neg (fun h => by have := (cross_iff _ _ _).1 h; omega)]
                · by_cases e : j = k
                  · subst e; rw [HX.out]; exact HON.out
                  · exact HN.out j (by omega)
                · first
                    | exact (bdN hB3 _).trans (hbq.mono (bdN hB3 _).size)
                    | exact bdN hB3 _
                · first
                    | exact cell_later hbq f1
                    | exact f1
                · first
                    | exact cell_later hbq f2
                    | exact f2
              case measure => simp [intOf]; omega
        · obtain rfl : k = ps.length := by omega
          go_wp2
          go_ret2
          refine ⟨?_, hB⟩
          have : onAny ps q = false := List.any_eq_false.2 fun j hj => by
            have := HN.out j (by simpa using hj)
            simp [this]
          rw [whereZ_pos H0.out, H0.out]
          unfold placeZ
          rw [HO.out, this]
          rfl
end Go.Proofs.Ytfgeengdmbabhaa
