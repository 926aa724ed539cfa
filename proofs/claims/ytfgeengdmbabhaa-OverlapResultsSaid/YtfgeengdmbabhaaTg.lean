import Derived.Test.YtfgeengdmbabhaaA6
import Derived.Test.YtfgeengdmbabhaaA5
import Derived.BigRegion
namespace Go.Proofs.Ytfgeengdmbabhaa
open Go.RowKit
attribute [local go_sem ↓] Go.wp_at_zero Go.wp_at_succ

/-- a slice of three spots, new -/
def Ret3 (a b d : Z2) (w : World) (e : Ending) (w' : World) : Prop := ∃ g, w.heap.size ≤ g ∧ g < w'.heap.size ∧ e = .returned (.slice (some ⟨g, 0, none⟩) 3 3) ∧ Sp w' (some ⟨g, 0, none⟩) [a, b, d] ∧ Below w.heap.size w w'

set_option maxRecDepth 100000 in
set_option maxHeartbeats 4000000 in
/-- garmentref13.around -/
theorem around98 (A : Option Addr) (n c : Nat) (l : List Z2) (i : Nat) (w : World) (hl : l.length = n) (hsp : Sp w A l) (hi : i < n) (hn : n ≤ 1000000) :
    Calls Try.prog 98 #[.slice A n c, iv i] w (Ret3 (cA l i) (pt l i) (cC l i) w) := by
  subst hl
  have hne : l ≠ [] := by intro h; simp [h] at hi
  have hp : 0 < l.length := by omega
  obtain ⟨b, off, rfl, hc⟩ := hsp hne
  have l1 : (i + 1) % l.length < l.length := Nat.mod_lt _ hp
  have l2 : (i + l.length - 1) % l.length < l.length := Nat.mod_lt _ hp
  obtain ⟨g1, g2⟩ := hc i hi
  obtain ⟨g3, g4⟩ := hc _ l1
  obtain ⟨g5, g6⟩ := hc _ l2
  have m1 := mod_one i l.length
  have m2 := modN (k := i) (n := l.length) hp
  have HE := Lib.hid (And.intro (show cA l i = pt l ((i + l.length - 1) % l.length) from rfl) (show cC l i = pt l ((i + 1) % l.length) from rfl))
  generalize e1 : (i + 1) % l.length = k1 at *
  generalize e2 : (i + l.length - 1) % l.length = k2 at *
  clear e1 e2 hc hsp
  have q1 : (0 : Int) ≤ (k2 : Int) := by omega
  have q2 : (k2 : Int) < (l.length : Int) := by omega
  have q5 : (0 : Int) ≤ (k1 : Int) := by omega
  have q6 : (k1 : Int) < (l.length : Int) := by omega
  have q7 : (0 : Int) ≤ (i : Int) := by omega
  have q8 : (i : Int) < (l.length : Int) := by omega
  have q3 : ((l.length : Int) == 0) = false := beq_eq_false_iff_ne.2 (by omega)
  have q4 : ¬ ((l.length : Int) = 0) := by omega
  have t1 : ((i : Int) + 1).tmod (l.length : Int) = (k1 : Int) := by rw [Int.tmod_eq_emod_of_nonneg (by omega)]; exact m1
  have t2 : ((i : Int) + (l.length : Int) - 1).tmod (l.length : Int) = (k2 : Int) := by rw [Int.tmod_eq_emod_of_nonneg (by omega)]; exact m2
  clear m1 m2
  have s1 : IntKind.i64.wrap ((i : Int) + 1) = (i : Int) + 1 := IntWalk.i64_in _ (by omega)
  have s2 : IntKind.i64.wrap ((i : Int) + (l.length : Int)) = (i : Int) + (l.length : Int) := IntWalk.i64_in _ (by omega)
  have s3 : IntKind.i64.wrap ((i : Int) + (l.length : Int) - 1) = (i : Int) + (l.length : Int) - 1 := IntWalk.i64_in _ (by omega)
  go_enter Try.func98, Try.ntmps98
  go_upto_region 2 with fail
  go_region
  go_wp2
  go_ret
  refine ⟨w.heap.size, Nat.le_refl _, by simp, rfl, ?_, (below_alloc _ _).drew⟩
  rw [HE.out.1, HE.out.2]
  exact Sp.drew (Blk.sp (Blk.new w 30 (flat [pt l k2, pt l i, pt l k1]).toArray))

/-- the three cells of a triangle -/
theorem tri_cells {w : World} {g : Nat} {a b d : Z2} (h : Sp w (some ⟨g, 0, none⟩) [a, b, d]) : w.cell? ⟨g, 0, none⟩ = some (iv a.x) ∧ w.cell? ⟨g, 1, none⟩ = some (iv a.y) ∧ w.cell? ⟨g, 2, none⟩ = some (iv b.x) ∧ w.cell? ⟨g, 3, none⟩ = some (iv b.y) ∧ w.cell? ⟨g, 4, none⟩ = some (iv d.x) ∧ w.cell? ⟨g, 5, none⟩ = some (iv d.y) := by
  obtain ⟨b3, o3, e, hc5⟩ := h (by simp)
  injection e with e; injection e with e1 e2
  subst e1 e2
  obtain ⟨g1, g2⟩ := hc5 0 (by simp)
  obtain ⟨g3, g4⟩ := hc5 1 (by simp)
  obtain ⟨g5, g6⟩ := hc5 2 (by simp)
  exact ⟨g1, g2, g3, g4, g5, g6⟩
theorem cA_mem {l : List Z2} {i : Nat} (hi : i < l.length) : cA l i ∈ l := pt_mem (Nat.mod_lt _ (by omega))
theorem cC_mem {l : List Z2} {i : Nat} (hi : i < l.length) : cC l i ∈ l := pt_mem (Nat.mod_lt _ (by omega))
set_option maxRecDepth 100000 in
set_option maxHeartbeats 4000000 in
/-- garmentref13.bend -/
theorem bend117 (A : Option Addr) (n c : Nat) (l : List Z2) (i : Nat) (w : World) (hl : l.length = n) (hsp : Sp w A l) (hi : i < n) (hn : n ≤ 1000000) (hbd : ∀ p ∈ l, Bd p) :
    Calls Try.prog 117 #[.slice A n c, iv i] w fun e w' => e = .returned (iv (bendZ l i)) ∧ Below w.heap.size w w' := by
  subst hl
  have HS := Lib.hid hsp
  have BA := Lib.hid (hbd _ (cA_mem hi)); have BB := Lib.hid (hbd _ (pt_mem hi)); have BC := Lib.hid (hbd _ (cC_mem hi))
  have HE := Lib.hid (bendZ_corner l i)
  clear hsp hbd
  go_enter Try.func117, Try.ntmps117
  go_wp2_with fail
  refine (around98 A _ c l i _ rfl HS.out hi hn).mono ?_
  rintro e w1 ⟨g, hg, hlt, rfl, hs, hb⟩
  obtain ⟨g1, g2, g3, g4, g5, g6⟩ := tri_cells hs
  clear hs hg hlt
  generalize cA l i = a at *
  generalize pt l i = b at *
  generalize cC l i = d at *
  go_wp2_with fail
  go_region_held3 (fun w' => Below w.heap.size w w' ∧ w'.cell? ⟨g, 0, none⟩ = some (iv a.x) ∧ w'.cell? ⟨g, 1, none⟩ = some (iv a.y) ∧ w'.cell? ⟨g, 2, none⟩ = some (iv b.x) ∧ w'.cell? ⟨g, 3, none⟩ = some (iv b.y) ∧ w'.cell? ⟨g, 4, none⟩ = some (iv d.x) ∧ w'.cell? ⟨g, 5, none⟩ = some (iv d.y))
    (first | exact ⟨hb.drew, g1, g2, g3, g4, g5, g6⟩ | assumption | (go_split_ands; refine ⟨below_trans (by assumption) hbq, ?_, ?_, ?_, ?_, ?_, ?_⟩ <;> exact cell_later hbq (by assumption)))
    (first | (go_at_call 41; refine (cross41 a b d _ BA.out BB.out BC.out).mono ?_; rintro e w' ⟨rfl, hbq⟩))
  go_split_ands
  go_wp2
  go_ret
  exact ⟨ret_int HE.out.symm, by assumption⟩

set_option maxRecDepth 100000 in
set_option maxHeartbeats 4000000 in
/-- garmentref13.flat -/
theorem flat96 (A : Option Addr) (n c : Nat) (l : List Z2) (w : World) (hl : l.length = n) (hsp : Sp w A l) (hn : n ≤ 1000000) (hbd : ∀ p ∈ l, Bd p) :
    Calls Try.prog 96 #[.slice A n c] w fun e w' => e = .returned (iv (firstZ n (flatZ l))) ∧ Below w.heap.size w w' := by
  subst hl
  have HS := Lib.hid hsp
  have HD := Lib.hid hbd
  clear hsp hbd
  go_enter Try.func96, Try.ntmps96
  go_wp2_with fail
  go_loopw [3] (fun v wr => ∃ k : Nat, k ≤ l.length ∧ v = .int .i64 k ∧ (∀ j, j < k → flatZ l j = false) ∧ Below w.heap.size w wr) (fun v _ => l.length - (intOf v).toNat)
  case atStart => exact ⟨0, Nat.zero_le _, rfl, fun j hj => absurd hj (by omega), Below.refl _ _⟩
  case round =>
    obtain ⟨k, hk, rfl, hno, hB⟩ := hrel
    have HN := Lib.hid hno
    clear hno
    by_cases hlt : k < l.length
    · go_wp2_with fail
      refine (bend117 A _ c l k _ rfl (HS.out.later hB) hlt hn HD.out).mono ?_
      rintro e w1 ⟨rfl, hb⟩
      replace hB := below_trans hB hb
      clear hb
      by_cases hz : bendZ l k = 0
      · have HZ := Lib.hid (show flatZ l k = true by unfold flatZ; rw [hz]; rfl)
        go_wp2
        go_ret
        exact ⟨ret_int (firstZ_at hlt HZ.out HN.out).symm, hB⟩
      · have HZ := Lib.hid (show flatZ l k = false by unfold flatZ; exact decide_eq_false hz)
        go_wp2
        go_roundw
        case rel =>
          refine ⟨k + 1, by omega, by go_num, fun j hj => ?_, hB⟩
          by_cases e : j = k
          · subst e; exact HZ.out
          · exact HN.out j (by omega)
        case measure => simp [intOf]; omega
    · go_wp2
      go_ret
      exact ⟨ret_int (firstZ_none (fun j hj => HN.out j (by omega))).symm, hB⟩

set_option maxRecDepth 100000 in
set_option maxHeartbeats 4000000 in
/-- garmentref13.free, at a turn to the left -/
theorem free118 (A : Option Addr) (n c : Nat) (l : List Z2) (i : Nat) (w : World) (hl : l.length = n) (hsp : Sp w A l) (hi : i < n) (hn : n ≤ 1000000) (hbd : ∀ p ∈ l, Bd p) (hin : ∀ p ∈ l, outZ p = false) (hb : 0 < bendZ l i) :
    Calls Try.prog 118 #[.slice A n c, iv i] w fun e w' => e = .returned (.bool (freeZ l i)) ∧ Below w.heap.size w w' := by
  subst hl
  have HS := Lib.hid hsp
  have HD := Lib.hid hbd
  have HB := Lib.hid hb
  have BA := Lib.hid (hbd _ (cA_mem hi)); have BB := Lib.hid (hbd _ (pt_mem hi)); have BC := Lib.hid (hbd _ (cC_mem hi))
  have HBK := Lib.hid (show ∀ q, blockZ l i q = (!eqZ q (cA l i) && !eqZ q (pt l i) && !eqZ q (cC l i) && decide (0 ≤ holdsZ [cA l i, pt l i, cC l i] q)) from fun q => rfl)
  have HT := Lib.hid (show ∀ q ∈ l, holdsZ [cA l i, pt l i, cC l i] q = outTo [cA l i, pt l i, cC l i] q 3 from fun q hq => by
    rw [outTo_eq (by rw [← bendZ_corner]; omega), holds3, hin q hq, hin _ (cA_mem hi), hin _ (pt_mem hi), hin _ (cC_mem hi)]; rfl)
  clear hsp hbd hin hb
  go_enter Try.func118, Try.ntmps118
  go_wp2_with fail
  refine (around98 A _ c l i _ rfl HS.out hi hn).mono ?_
  rintro e w1 ⟨g, hg, hlt, rfl, hs, hb1⟩
  have HS1 := Lib.hid (HS.out.later hb1)
  have HW := Lib.hid hb1
  have HT3 := Lib.hid hs
  clear hs hb1 hg hlt HS
  generalize hpa : cA l i = a at *
  generalize hpb : pt l i = b at *
  generalize hpc : cC l i = d at *
  clear hpa hpb hpc
  go_wp2_with fail
  go_loopw [6] (fun v wr => ∃ k : Nat, k ≤ l.length ∧ v = .int .i64 k ∧ (∀ j, j < k → blockZ l i (pt l j) = false) ∧ Below w1.heap.size w1 wr) (fun v _ => l.length - (intOf v).toNat)
  case atStart => exact ⟨0, Nat.zero_le _, rfl, fun j hj => absurd hj (by omega), Below.refl _ _⟩
  case round =>
    obtain ⟨k, hk, rfl, hno, hB⟩ := hrel
    have HN := Lib.hid hno
    clear hno
    by_cases hlt : k < l.length
    · have hne : l ≠ [] := by intro h; simp [h] at hlt
      obtain ⟨bb, off, rfl, hc⟩ := HS1.out.later hB hne
      obtain ⟨g1, g2⟩ := hc k hlt
      clear hc
      obtain ⟨r1, r2, r3, r4, r5, r6⟩ := tri_cells (HT3.out.later hB)
      have q7 : (0 : Int) ≤ (k : Int) := by omega
      have q8 : (k : Int) < (l.length : Int) := by omega
      have HBQ := Lib.hid (HBK.out (pt l k))
      have HTQ := Lib.hid (HT.out _ (pt_mem hlt))
      have BQ := Lib.hid (HD.out _ (pt_mem hlt))
      generalize hq : pt l k = q at *
      have HQ := Lib.hid hq
      clear hq
      cases e1 : eqZ q a
      case true =>
        have he : ∀ w, (binOp .neq 30 (sv q) (sv a)).run Try.prog w = .ok (.bool false) w := fun w => by rw [neq30, e1]; rfl
        have HX := Lib.hid e1
        clear e1
        go_wp2_with fail
        go_quiet (fail)
        go_wp2
        go_roundw
        case rel =>
          refine ⟨k + 1, by omega, by go_num, fun j hj => ?_, bdN hB _⟩
          by_cases e : j = k
          · subst e; rw [HQ.out, HBQ.out, HX.out]; rfl
          · exact HN.out j (by omega)
        case measure => simp [intOf]; omega
      case false =>
      have he1 : ∀ w, (binOp .neq 30 (sv q) (sv a)).run Try.prog w = .ok (.bool true) w := fun w => by rw [neq30, e1]; rfl
      have HX1 := Lib.hid e1
      clear e1
      cases e2 : eqZ q b
      case true =>
        have he : ∀ w, (binOp .neq 30 (sv q) (sv b)).run Try.prog w = .ok (.bool false) w := fun w => by rw [neq30, e2]; rfl
        have HX := Lib.hid e2
        clear e2
        go_wp2_with fail
        go_quiet (fail)
        go_wp2
        go_roundw
        case rel =>
          refine ⟨k + 1, by omega, by go_num, fun j hj => ?_, bdN hB _⟩
          by_cases e : j = k
          · subst e; rw [HQ.out, HBQ.out, HX.out]; simp
          · exact HN.out j (by omega)
        case measure => simp [intOf]; omega
      case false =>
      have he2 : ∀ w, (binOp .neq 30 (sv q) (sv b)).run Try.prog w = .ok (.bool true) w := fun w => by rw [neq30, e2]; rfl
      have HX2 := Lib.hid e2
      clear e2
      cases e3 : eqZ q d
      case true =>
        have he : ∀ w, (binOp .neq 30 (sv q) (sv d)).run Try.prog w = .ok (.bool false) w := fun w => by rw [neq30, e3]; rfl
        have HX := Lib.hid e3
        clear e3
        go_wp2_with fail
        go_quiet (fail)
        go_wp2
        go_roundw
        case rel =>
          refine ⟨k + 1, by omega, by go_num, fun j hj => ?_, bdN hB _⟩
          by_cases e : j = k
          · subst e; rw [HQ.out, HBQ.out, HX.out]; simp
          · exact HN.out j (by omega)
        case measure => simp [intOf]; omega
      case false =>
      have he3 : ∀ w, (binOp .neq 30 (sv q) (sv d)).run Try.prog w = .ok (.bool true) w := fun w => by rw [neq30, e3]; rfl
      have HX3 := Lib.hid e3
      clear e3
      go_wp2_with fail
      go_region_held3 (fun w' => Below w1.heap.size w1 w' ∧ w'.cell? ⟨bb, off + k * 2, none⟩ = some (iv q.x) ∧ w'.cell? ⟨bb, off + k * 2 + 1, none⟩ = some (iv q.y) ∧ w'.cell? ⟨g, 0, none⟩ = some (iv a.x) ∧ w'.cell? ⟨g, 1, none⟩ = some (iv a.y) ∧ w'.cell? ⟨g, 2, none⟩ = some (iv b.x) ∧ w'.cell? ⟨g, 3, none⟩ = some (iv b.y) ∧ w'.cell? ⟨g, 4, none⟩ = some (iv d.x) ∧ w'.cell? ⟨g, 5, none⟩ = some (iv d.y))
        (first | exact ⟨hB.drew, g1, g2, r1, r2, r3, r4, r5, r6⟩ | assumption | (go_split_ands; refine ⟨Below.trans (by assumption) (hbq.mono (Below.size (by assumption))), ?_, ?_, ?_, ?_, ?_, ?_, ?_, ?_⟩ <;> exact cell_later hbq (by assumption)))
        (first | (go_at_call 103; go_split_ands; refine (place103 (some ⟨g, 0, none⟩) 3 a b d q _ (HT3.out.later (by assumption)) BA.out BB.out BC.out BQ.out).mono ?_; rintro e w' ⟨rfl, hbq⟩))
      go_split_ands
      rename_i hbr _ _ _ _ _ _ _ _
      rw [← HTQ.out]
      clear he1 he2 he3 g1 g2 r1 r2 r3 r4 r5 r6
      by_cases hh : 0 ≤ holdsZ [a, b, d] q
      · have HH := Lib.hid hh
        go_wp2
        go_ret
        refine ⟨ret_bool (freeZ_no (j := k) hlt ?_).symm, below_trans HW.out hbr⟩
        rw [HQ.out, HBQ.out, HX1.out, HX2.out, HX3.out, decide_eq_true HH.out]; rfl
      · have HH := Lib.hid hh
        go_wp2
        go_roundw
        case rel =>
          refine ⟨k + 1, by omega, by go_num, fun j hj => ?_, hbr⟩
          by_cases e : j = k
          · subst e; rw [HQ.out, HBQ.out, decide_eq_false (by have := HH.out; omega)]; simp
          · exact HN.out j (by omega)
        case measure => simp [intOf]; omega
    · obtain rfl : k = l.length := by omega
      go_wp2
      go_ret
      exact ⟨ret_bool (freeZ_yes HB.out HN.out).symm, below_trans HW.out hB⟩

set_option maxRecDepth 100000 in
set_option maxHeartbeats 4000000 in
/-- garmentref13.ear -/
theorem ear97 (A : Option Addr) (n c : Nat) (l : List Z2) (w : World) (hl : l.length = n) (hsp : Sp w A l) (hn : n ≤ 1000000) (hbd : ∀ p ∈ l, Bd p) (hin : ∀ p ∈ l, outZ p = false) :
    Calls Try.prog 97 #[.slice A n c] w fun e w' => e = .returned (iv (firstZ n (freeZ l))) ∧ Below w.heap.size w w' := by
  subst hl
  have HS := Lib.hid hsp
  have HD := Lib.hid (And.intro hbd hin)
  clear hsp hbd hin
  go_enter Try.func97, Try.ntmps97
  go_wp2_with fail
  go_loopw [3] (fun v wr => ∃ k : Nat, k ≤ l.length ∧ v = .int .i64 k ∧ (∀ j, j < k → freeZ l j = false) ∧ Below w.heap.size w wr) (fun v _ => l.length - (intOf v).toNat)
  case atStart => exact ⟨0, Nat.zero_le _, rfl, fun j hj => absurd hj (by omega), Below.refl _ _⟩
  case round =>
    obtain ⟨k, hk, rfl, hno, hB⟩ := hrel
    have HN := Lib.hid hno
    clear hno
    by_cases hlt : k < l.length
    · go_wp2_with fail
      refine (bend117 A _ c l k _ rfl (HS.out.later hB) hlt hn HD.out.1).mono ?_
      rintro e w1 ⟨rfl, hb⟩
      replace hB := below_trans hB hb
      clear hb
      by_cases hz : 0 < bendZ l k
      · have HZ := Lib.hid hz
        go_wp2_with fail
        refine (free118 A _ c l k _ rfl (HS.out.later hB) hlt hn HD.out.1 HD.out.2 HZ.out).mono ?_
        rintro e w2 ⟨rfl, hb⟩
        replace hB := below_trans hB hb
        clear hb hz
        cases hf : freeZ l k
        case true =>
          have HF := Lib.hid hf
          clear hf
          go_wp2
          go_ret
          exact ⟨ret_int (firstZ_at hlt HF.out HN.out).symm, hB⟩
        case false =>
          have HF := Lib.hid hf
          clear hf
          go_wp2
          go_roundw
          case rel =>
            refine ⟨k + 1, by omega, by go_num, fun j hj => ?_, hB⟩
            by_cases e : j = k
            · subst e; exact HF.out
            · exact HN.out j (by omega)
          case measure => simp [intOf]; omega
      · have HF := Lib.hid (show freeZ l k = false by unfold freeZ; rw [decide_eq_false hz]; rfl)
        go_wp2
        go_roundw
        case rel =>
          refine ⟨k + 1, by omega, by go_num, fun j hj => ?_, hB⟩
          by_cases e : j = k
          · subst e; exact HF.out
          · exact HN.out j (by omega)
        case measure => simp [intOf]; omega
    · go_wp2
      go_ret
      exact ⟨ret_int (firstZ_none (fun j hj => HN.out j (by omega))).symm, hB⟩

set_option maxRecDepth 100000 in
set_option maxHeartbeats 4000000 in
/-- garmentref13.without -/
theorem without99 (A : Option Addr) (n c : Nat) (l : List Z2) (i : Nat) (w : World) (hl : l.length = n) (hsp : Sp w A l) (hi : i < n) (hn : n ≤ 100000) (hcap : n ≤ c) :
    Calls Try.prog 99 #[.slice A n c, iv i] w (RetOwn w.heap.size (l.eraseIdx i) w) := by
  subst hl
  have hne : l ≠ [] := by intro h; simp [h] at hi
  have HS := Lib.hid hsp
  obtain ⟨b, off, rfl, hc⟩ := hsp hne
  clear hc
  have HR := Lib.hid (show l.eraseIdx i = l.take i ++ l.drop (i + 1) from List.eraseIdx_eq_take_drop_succ l i)
  have i1 : (0 : Int) ≤ (i : Int) := by omega
  have i2 : (i : Int) ≤ (l.length : Int) := by omega
  have i3 : (i : Int) ≤ (c : Int) := by omega
  have i5 : (0 : Int) ≤ (i : Int) + 1 := by omega
  have i6 : (i : Int) + 1 ≤ (l.length : Int) := by omega
  have i7 : (i : Int) + 1 ≤ (c : Int) := by omega
  have s1 : IntKind.i64.wrap ((i : Int) + 1) = (i : Int) + 1 := IntWalk.i64_in _ (by omega)
  have Q1 := Lib.hid (show (l.take i).length = i by simp; omega)
  have Q2 := Lib.hid (show (l.drop (i + 1)).length = l.length - (i + 1) by simp)
  obtain ⟨v', w1, hr, o', hb1⟩ := append_sp_nil w w.heap.size (some ⟨b, off, none⟩) i c (l.take i) (HS.out.take i) Q1.out (by omega) (Nat.le_refl _)
  by_cases hic : i + 1 = c
  · obtain ⟨v2, w2, hr2, o2, hg2, _⟩ := run_append_sp w1 w.heap.size v' (l.take i) (some ⟨b, off, none⟩) (l.length - (i + 1)) (c - (i + 1)) (l.drop (i + 1)) o' (by
      have e : l.drop (i + 1) = [] := by rw [List.drop_eq_nil_iff]; omega
      rw [e]; exact fun h => absurd rfl h) Q2.out (by rw [Q2.out, Q1.out]; omega) hb1.size
    have hB2 := below_grown hb1 hg2 (fun k hk => (o'.lt k hk).1)
    have z1 : l.length - (i + 1) = 0 := by omega
    have z2 : c - (i + 1) = 0 := by omega
    rw [z1, z2] at hr2
    have HH1 := Lib.hid hr; have HH2 := Lib.hid hr2
    have HO := Lib.hid (And.intro o2 hB2)
    clear hr hr2 o' o2 hg2 hb1 hB2 z1 z2 hsp
    go_enter Try.func99, Try.ntmps99
    go_wp2_with (at_builtin; first | refine Lib.wpList_append_run _ (by rfl) _ _ _ _ (by rfl) _ _ (by rfl) (by rfl) _ _ HH1.out ?_ | refine Lib.wpList_append_run _ (by rfl) _ _ _ _ (by rfl) _ _ (by rfl) (by rfl) _ _ HH2.out ?_)
    go_ret
    exact ⟨_, rfl, by rw [HR.out]; exact HO.out.1, HO.out.2⟩
  · obtain ⟨v2, w2, hr2, o2, hg2, _⟩ := run_append_sp w1 w.heap.size v' (l.take i) (some ⟨b, off + (i + 1) * 2, none⟩) (l.length - (i + 1)) (c - (i + 1)) (l.drop (i + 1)) o' ((HS.out.later hb1).drop (i + 1)) Q2.out (by rw [Q2.out, Q1.out]; omega) hb1.size
    have hB2 := below_grown hb1 hg2 (fun k hk => (o'.lt k hk).1)
    have hic3 : i + 1 ≠ c := hic
    have HH1 := Lib.hid hr; have HH2 := Lib.hid hr2
    have HO := Lib.hid (And.intro o2 hB2)
    clear hr hr2 o' o2 hg2 hb1 hB2 hsp
    go_enter Try.func99, Try.ntmps99
    go_wp2_with (at_builtin; first | refine Lib.wpList_append_run _ (by rfl) _ _ _ _ (by rfl) _ _ (by rfl) (by rfl) _ _ HH1.out ?_ | refine Lib.wpList_append_run _ (by rfl) _ _ _ _ (by rfl) _ _ (by rfl) (by rfl) _ _ HH2.out ?_)
    go_ret
    exact ⟨_, rfl, by rw [HR.out]; exact HO.out.1, HO.out.2⟩
end Go.Proofs.Ytfgeengdmbabhaa
