import Derived.Test.YtfgeengdmbabhaaA5
import Derived.Test.YtfgeengdmbabhaaPj
namespace Go.Proofs.Ytfgeengdmbabhaa
open Go.RowKit
attribute [local go_sem ↓] Go.wp_at_zero Go.wp_at_succ

def allP (ps : List Z2) (q : Z2) : Nat → Bool
  | 0 => true
  | k + 1 => allP ps q k && decide (0 < crZ (pt ps k) (nx ps k) q)
def anyN (ps : List Z2) (q : Z2) : Nat → Bool
  | 0 => false
  | k + 1 => anyN ps q k || decide (crZ (pt ps k) (nx ps k) q < 0)
theorem allP_iff (ps : List Z2) (q : Z2) (k : Nat) : allP ps q k = true ↔ ∀ i, i < k → 0 < crZ (pt ps i) (nx ps i) q := by
  induction k with
  | zero => simp [allP]
  | succ k ih =>
    simp only [allP, Bool.and_eq_true, decide_eq_true_eq, ih]
    constructor
    · rintro ⟨h1, h2⟩ i hi
      by_cases e : i = k
      · subst e; exact h2
      · exact h1 i (by omega)
    · intro h; exact ⟨fun i hi => h i (by omega), h k (by omega)⟩
theorem anyN_iff (ps : List Z2) (q : Z2) (k : Nat) : anyN ps q k = true ↔ ∃ i, i < k ∧ crZ (pt ps i) (nx ps i) q < 0 := by
  induction k with
  | zero => simp [anyN]
  | succ k ih =>
    simp only [anyN, Bool.or_eq_true, decide_eq_true_eq, ih]
    constructor
    · rintro (⟨i, hi, h⟩ | h)
      · exact ⟨i, by omega, h⟩
      · exact ⟨k, by omega, h⟩
    · rintro ⟨i, hi, h⟩
      by_cases e : i = k
      · subst e; exact .inr h
      · exact .inl ⟨i, by omega, h⟩
theorem convexity_three {ps : List Z2} (h : chkZ ps = 0) (hc : convexZ ps = true) {q : Z2} (hq : outZ q = false) :
    (placeZ ps q = 1 ∧ allP ps q ps.length = true ∧ anyN ps q ps.length = false) ∨ (placeZ ps q = 0 ∧ allP ps q ps.length = false ∧ anyN ps q ps.length = false) ∨ (placeZ ps q = -1 ∧ allP ps q ps.length = false ∧ anyN ps q ps.length = true) := by
  obtain ⟨h1, h2⟩ := convexity_law h hc hq
  rw [← allP_iff] at h1
  rw [← anyN_iff] at h2
  have h3 : placeZ ps q = 1 ∨ placeZ ps q = 0 ∨ placeZ ps q = -1 := by
    rcases place_good (chk_simple h) ((convexZ_iff ps).1 hc).2 hq with g | g | g
    · exact .inr (.inl g.1)
    · exact .inl g.1
    · exact .inr (.inr g.1)
  rcases h3 with e | e | e
  · exact .inl ⟨e, h1.1 e, by rw [Bool.eq_false_iff]; intro g; have := h2.2 g; omega⟩
  · exact .inr (.inl ⟨e, by rw [Bool.eq_false_iff]; intro g; have := h1.2 g; omega, by rw [Bool.eq_false_iff]; intro g; have := h2.2 g; omega⟩)
  · exact .inr (.inr ⟨e, by rw [Bool.eq_false_iff]; intro g; have := h1.2 g; omega, h2.1 e⟩)

set_option maxRecDepth 100000 in
set_option maxHeartbeats 4000000 in
/-- garmentlaw11.PolygonConvexity -/
theorem lawConvexity (A : Option Addr) (c : Nat) (ps : List Z2) (q : Z2) (w : World) (hsp : Sp w A ps) (hcap : ps.length ≤ c) :
    Calls Try.prog 8 #[.slice A ps.length c, sv q] w fun e w' => e = .returned (.bool true) ∧ Below w.heap.size w w' := by
  have HS := Lib.hid hsp; clear hsp
  by_cases hf : ps.length ≤ 50
  case neg =>
    have dF := decide_eq_false hf
    go_enter Try.func8, Try.ntmps8
    go_wp2_with fail
    refine (few30 _ _ _ _).mono ?_
    rintro e w1 ⟨rfl, rfl⟩
    rw [dF]
    go_wp2_with fail
    refine (awake31 _).mono ?_
    rintro e w8 ⟨rfl, hb⟩
    go_wp2
    go_ret
    exact ⟨rfl, below_trans (boxes1 w q).1 hb⟩
  case pos =>
    have dF := decide_eq_true hf
    go_enter Try.func8, Try.ntmps8
    go_wp2_with fail
    refine (few30 _ _ _ _).mono ?_
    rintro e w1 ⟨rfl, rfl⟩
    have F := boxes1 w q
    revert F
    generalize w.alloc (.cells #[iv q.x, iv q.y] 30) = W
    rintro ⟨hW, f1, f2⟩
    rw [dF]
    clear dF
    go_wp2_with fail
    refine (within43 q _).mono ?_
    rintro e w1 ⟨rfl, hb⟩
    replace hW := below_trans hW hb; replace f1 := cell_later hb f1; replace f2 := cell_later hb f2
    clear hb W
    cases hoq : outZ q
    case true =>
      simp only [Bool.not_true]
      clear hoq
      go_wp2_with fail
      refine (awake31 _).mono ?_
      rintro e w8 ⟨rfl, hb⟩
      go_wp2
      go_ret
      exact ⟨rfl, below_trans hW hb⟩
    case false =>
    have HOQ := Lib.hid hoq
    simp only [Bool.not_false]
    clear hoq
    go_wp2_with fail
    refine (convex44 A c ps _ (HS.out.later hW) hcap).mono ?_
    rintro e w2 ⟨rfl, hb⟩
    replace hW := below_trans hW hb; replace f1 := cell_later hb f1; replace f2 := cell_later hb f2
    clear hb
    by_cases h0 : chkZ ps = 0
    case neg =>
      have H0 := Lib.hid h0
      have hd : (chkZ ps != 0) = true := by simpa using h0
      have hd2 : (chkZ ps == 0) = false := by simpa using h0
      clear h0
      go_wp2_with fail
      refine (check38 A c ps _ (HS.out.later hW) hcap).mono ?_
      rintro e w3 ⟨rfl, hb⟩
      replace hW := below_trans hW hb
      clear hb
      have hd3 : (chkZ ps == chkZ ps) = true := by simp
      go_wp2_with fail
      refine (awake31 _).mono ?_
      rintro e w8 ⟨rfl, hb⟩
      go_wp2
      go_ret
      exact ⟨rfl, below_trans hW hb⟩
    case pos =>
    have H0 := Lib.hid h0
    rw [cvZ_pos h0, h0]
    clear h0
    cases hcv : convexZ ps
    case false =>
      go_wp2_with fail
      refine (awake31 _).mono ?_
      rintro e w8 ⟨rfl, hb⟩
      go_wp2
      go_ret
      exact ⟨rfl, below_trans hW hb⟩
    case true =>
    have HT := Lib.hid (convexity_three H0.out hcv HOQ.out)
    have HA := Lib.hid (show 0 < aZ ps by rw [aZ_pos H0.out]; exact ((convexZ_iff ps).1 hcv).2)
    have HD := Lib.hid (chkZ_zero H0.out).2.2.1
    have BQ := Lib.hid (bd_of_out HOQ.out)
    clear hcv
    go_wp2_with fail
    refine (where35 A c ps q _ (HS.out.later hW) hcap).mono ?_
    rintro e w3 ⟨rfl, hb⟩
    rw [whereZ_pos H0.out, H0.out]
    replace hW := below_trans hW hb; replace f1 := cell_later hb f1; replace f2 := cell_later hb f2
    clear hb
    have h3 : 3 ≤ ps.length := (chkZ_zero H0.out).2.1
    go_wp2_with fail
    go_loopw [9, 10, 11] (fun a b v wr => ∃ k : Nat, k ≤ ps.length ∧ v = .int .i64 k ∧ a = .bool (allP ps q k) ∧ b = .bool (anyN ps q k) ∧ Below w.heap.size w wr ∧ wr.cell? ⟨w.heap.size, 0, none⟩ = some (iv q.x) ∧ wr.cell? ⟨w.heap.size, 1, none⟩ = some (iv q.y)) (fun _ _ v _ => ps.length - (intOf v).toNat)
    case atStart => exact ⟨0, Nat.zero_le _, rfl, rfl, rfl, hW, f1, f2⟩
    case round =>
      clear hW f1 f2
      obtain ⟨k, hk, rfl, rfl, rfl, hB, f1, f2⟩ := hrel
      by_cases hlt : k < ps.length
      · have hne : ps ≠ [] := by intro h; simp [h] at hlt
        have hp : 0 < ps.length := by omega
        obtain ⟨b, off, rfl, hc⟩ := HS.out.later hB hne
        have l1 : (k + 1) % ps.length < ps.length := Nat.mod_lt _ hp
        obtain ⟨g1, g2⟩ := hc k hlt
        obtain ⟨g3, g4⟩ := hc _ l1
        have m1 := mod_one k ps.length
        have HE := Lib.hid (And.intro (show allP ps q (k + 1) = (allP ps q k && decide (0 < crZ (pt ps k) (pt ps ((k + 1) % ps.length)) q)) from rfl) (show anyN ps q (k + 1) = (anyN ps q k || decide (crZ (pt ps k) (pt ps ((k + 1) % ps.length)) q < 0)) from rfl))
        have BK := Lib.hid (And.intro (bd_pt HD.out k) (bd_pt HD.out ((k + 1) % ps.length)))
        generalize e1 : (k + 1) % ps.length = k1 at *
        clear e1 hc
        have q5 : (0 : Int) ≤ (k1 : Int) := by omega
        have q6 : (k1 : Int) < (ps.length : Int) := by omega
        have q7 : (0 : Int) ≤ (k : Int) := by omega
        have q8 : (k : Int) < (ps.length : Int) := by omega
        have q3 : ((ps.length : Int) == 0) = false := beq_eq_false_iff_ne.2 (by omega)
        have q4 : ¬ ((ps.length : Int) = 0) := by omega
        have t1 : ((k : Int) + 1).tmod (ps.length : Int) = (k1 : Int) := by rw [Int.tmod_eq_emod_of_nonneg (by omega)]; exact m1
        clear m1
        have s1 : IntKind.i64.wrap ((k : Int) + 1) = (k : Int) + 1 := IntWalk.i64_in _ (by omega)
        go_wp2_with fail
        go_region_held3 (fun w' => Below wr.heap.size wr w' ∧ w'.cell? ⟨b, off + k * 2, none⟩ = some (iv (pt ps k).x) ∧ w'.cell? ⟨b, off + k * 2 + 1, none⟩ = some (iv (pt ps k).y) ∧ w'.cell? ⟨b, off + k1 * 2, none⟩ = some (iv (pt ps k1).x) ∧ w'.cell? ⟨b, off + k1 * 2 + 1, none⟩ = some (iv (pt ps k1).y) ∧ w'.cell? ⟨w.heap.size, 0, none⟩ = some (iv q.x) ∧ w'.cell? ⟨w.heap.size, 1, none⟩ = some (iv q.y))
          (first | exact ⟨below_drew wr, g1, g2, g3, g4, f1, f2⟩ | assumption | (go_split_ands; refine ⟨below_trans (by assumption) hbq, ?_, ?_, ?_, ?_, ?_, ?_⟩ <;> exact cell_later hbq (by assumption)))
          (first | (go_at_call 41; refine (cross41 (pt ps k) (pt ps k1) q _ BK.out.1 BK.out.2 BQ.out).mono ?_; rintro e w' ⟨rfl, hbq⟩))
        go_split_ands
        rename_i hbr _ _ _ _ _ _
        have hB3 := hB.trans (hbr.mono hB.size)
        replace f1 := cell_later hbr f1
        replace f2 := cell_later hbr f2
        clear t1 s1 g1 g2 g3 g4 q5 q6 q7 q8 q3 q4
        generalize crZ (pt ps k) (pt ps k1) q = cc at *
        cases ha : allP ps q k <;> cases hb : anyN ps q k
        all_goals
          have HAB := Lib.hid (And.intro ha hb)
          clear ha hb
          go_wp2
          go_roundw
          case rel => exact ⟨k + 1, by omega, by go_num, by rw [HE.out.1, HAB.out.1]; simp, by rw [HE.out.2, HAB.out.2]; simp, hB3, f1, f2⟩
          case measure => simp [intOf]; omega
      · obtain rfl : k = ps.length := by omega
        rcases HT.out with ⟨e1, e2, e3⟩ | ⟨e1, e2, e3⟩ | ⟨e1, e2, e3⟩
        all_goals
          rw [e1, e2, e3]
          clear e1 e2 e3
          go_wp2_with fail
          refine (area2_39 A c ps _ (HS.out.later hB) hcap).mono ?_
          rintro e w5 ⟨rfl, hb⟩
          replace hB := below_trans hB hb
          clear hb
          have hpos := HA.out
          have dA := decide_eq_true hpos
          generalize aZ ps = az at *
          go_wp2_with fail
          refine (awake31 _).mono ?_
          rintro e w8 ⟨rfl, hb⟩
          go_wp2
          go_ret
          exact ⟨rfl, below_trans hB hb⟩
end Go.Proofs.Ytfgeengdmbabhaa
