import Derived.Test.YtfgeengdmbabhaaVe
namespace Go.Proofs.Ytfgeengdmbabhaa
open Go.RowKit
attribute [local go_sem ↓] Go.wp_at_zero Go.wp_at_succ

set_option maxRecDepth 100000 in
set_option maxHeartbeats 8000000 in
/-- garmentref15.Touch -/
theorem touch64 (A B : Option Addr) (n m c d : Nat) (a b : List Z2) (w : World) (e1 : a.length = n) (e2 : b.length = m) (h1 : Sp w A a) (h2 : Sp w B b) :
    Calls Try.prog 64 #[.slice A n c, .slice B m d] w fun e w' => e = .returned (.tuple #[.bool (toZ a b), iv (relE a b)]) ∧ Below w.heap.size w w' := by
  subst e1 e2
  have HA := Lib.hid h1; have HB := Lib.hid h2
  clear h1 h2
  go_enter Try.func64, Try.ntmps64
  go_wp2_with fail
  refine (overlap63 A B _ _ c d a b _ rfl rfl HA.out HB.out).mono ?_
  rintro e w1 ⟨rfl, hb⟩
  have HW := Lib.hid hb
  clear hb
  by_cases he : relE a b = 0
  case neg =>
    have HE := Lib.hid (show toZ a b = false by unfold toZ; rw [decide_eq_false he]; rfl)
    have hd : (relE a b != 0) = true := by simpa using he
    clear he
    go_wp2
    go_ret2
    refine ⟨?_, HW.out⟩
    rw [HE.out]; rfl
  case pos =>
  have hab : chkZ a = 0 ∧ chkZ b = 0 := by
    unfold relE at he
    split at he
    · exact ⟨by assumption, he⟩
    · exact absurd he (by assumption)
  have HE := Lib.hid he
  have h2 : relR a b = relZ a b := by unfold relR; rw [if_pos hab.1, if_pos hab.2]
  have HO := Lib.hid (show ovZ a b = decide (relZ a b = 1) by unfold ovZ; rw [he, h2]; simp)
  have HT := Lib.hid (show toZ a b = decide (relZ a b = 0) by unfold toZ; rw [he, h2]; simp)
  have LW := Lib.hid (touch_law hab.1 hab.2)
  have DA := Lib.hid (chkZ_zero hab.1).2.2.1
  have DB := Lib.hid (chkZ_zero hab.2).2.2.1
  have L1 := (chkZ_zero hab.1).1
  have L2 := (chkZ_zero hab.2).1
  rw [he, HO.out]
  clear he hab h2
  by_cases hr : relZ a b = 1
  · have HR := Lib.hid hr
    rw [decide_eq_true hr]
    clear hr
    go_wp2
    go_ret2
    refine ⟨?_, HW.out⟩
    rw [HT.out, HE.out, HR.out]; rfl
  have HR := Lib.hid hr
  rw [decide_eq_false hr]
  clear hr
  go_wp2_with fail
  go_loopw [8] (fun v wr => ∃ k : Nat, k ≤ a.length ∧ v = .int .i64 k ∧ (∀ i, i < k → ∀ j, j < b.length → meetZ (pt a i) (nx a i) (pt b j) (nx b j) = false) ∧ Below w.heap.size w wr) (fun v _ => a.length - (intOf v).toNat)
  case atStart => exact ⟨0, Nat.zero_le _, rfl, fun j hj => absurd hj (by omega), HW.out⟩
  case round =>
    obtain ⟨k, hk, rfl, hno, hB⟩ := hrel
    have HN := Lib.hid hno
    clear hno
    by_cases hlt : k < a.length
    · go_wp2_with fail
      go_loopw [9] (fun v wr => ∃ i : Nat, i ≤ b.length ∧ v = .int .i64 i ∧ (∀ j, j < i → meetZ (pt a k) (nx a k) (pt b j) (nx b j) = false) ∧ Below w.heap.size w wr) (fun v _ => b.length - (intOf v).toNat)
      case atStart => exact ⟨0, Nat.zero_le _, rfl, fun j hj => absurd hj (by omega), hB⟩
      case round =>
        clear hB
        obtain ⟨i, hi, rfl, hno, hB⟩ := hrel
        have HM := Lib.hid hno
        clear hno
        by_cases hj : i < b.length
        · have hne : a ≠ [] := by intro h; simp [h] at hlt
          have hne2 : b ≠ [] := by intro h; simp [h] at hj
          have hpa : 0 < a.length := by omega
          have hpb : 0 < b.length := by omega
          obtain ⟨ba, oa, rfl, hca⟩ := HA.out.later hB hne
          obtain ⟨bb, ob, rfl, hcb⟩ := HB.out.later hB hne2
          have l1 : (k + 1) % a.length < a.length := Nat.mod_lt _ hpa
          have l2 : (i + 1) % b.length < b.length := Nat.mod_lt _ hpb
          obtain ⟨g1, g2⟩ := hca k hlt
          obtain ⟨g3, g4⟩ := hca _ l1
          obtain ⟨g5, g6⟩ := hcb i hj
          obtain ⟨g7, g8⟩ := hcb _ l2
          have m1 := mod_one k a.length
          have m2 := mod_one i b.length
          have HX := Lib.hid (And.intro (show nx a k = pt a ((k + 1) % a.length) from rfl) (show nx b i = pt b ((i + 1) % b.length) from rfl))
          have BP := Lib.hid (And.intro (bd_pt DA.out k) (And.intro (bd_pt DA.out ((k + 1) % a.length)) (And.intro (bd_pt DB.out i) (bd_pt DB.out ((i + 1) % b.length)))))
          generalize e1 : (k + 1) % a.length = k1 at *
          generalize e2 : (i + 1) % b.length = i1 at *
          clear hca hcb e1 e2
          have q1 : (0 : Int) ≤ (k1 : Int) := by omega
          have q2 : (k1 : Int) < (a.length : Int) := by omega
          have q3 : (0 : Int) ≤ (k : Int) := by omega
          have q4 : (k : Int) < (a.length : Int) := by omega
          have q5 : (0 : Int) ≤ (i1 : Int) := by omega
          have q6 : (i1 : Int) < (b.length : Int) := by omega
          have q7 : (0 : Int) ≤ (i : Int) := by omega
          have q8 : (i : Int) < (b.length : Int) := by omega
          have n1 : ((a.length : Int) == 0) = false := beq_eq_false_iff_ne.2 (by omega)
          have n2 : ¬ ((a.length : Int) = 0) := by omega
          have n3 : ((b.length : Int) == 0) = false := beq_eq_false_iff_ne.2 (by omega)
          have n4 : ¬ ((b.length : Int) = 0) := by omega
          have t1 : ((k : Int) + 1).tmod (a.length : Int) = (k1 : Int) := by rw [Int.tmod_eq_emod_of_nonneg (by omega)]; exact m1
          have t2 : ((i : Int) + 1).tmod (b.length : Int) = (i1 : Int) := by rw [Int.tmod_eq_emod_of_nonneg (by omega)]; exact m2
          clear m1 m2
          have s1 : IntKind.i64.wrap ((k : Int) + 1) = (k : Int) + 1 := IntWalk.i64_in _ (by omega)
          have s2 : IntKind.i64.wrap ((i : Int) + 1) = (i : Int) + 1 := IntWalk.i64_in _ (by omega)
          go_wp2_with fail
          go_region_held3 (fun w' => Below w.heap.size w w' ∧ w'.cell? ⟨ba, oa + k * 2, none⟩ = some (iv (pt a k).x) ∧ w'.cell? ⟨ba, oa + k * 2 + 1, none⟩ = some (iv (pt a k).y) ∧ w'.cell? ⟨ba, oa + k1 * 2, none⟩ = some (iv (pt a k1).x) ∧ w'.cell? ⟨ba, oa + k1 * 2 + 1, none⟩ = some (iv (pt a k1).y)
              ∧ w'.cell? ⟨bb, ob + i * 2, none⟩ = some (iv (pt b i).x) ∧ w'.cell? ⟨bb, ob + i * 2 + 1, none⟩ = some (iv (pt b i).y) ∧ w'.cell? ⟨bb, ob + i1 * 2, none⟩ = some (iv (pt b i1).x) ∧ w'.cell? ⟨bb, ob + i1 * 2 + 1, none⟩ = some (iv (pt b i1).y))
            (first | exact ⟨hB.drew, g1, g2, g3, g4, g5, g6, g7, g8⟩ | assumption | (go_split_ands; refine ⟨below_trans (by assumption) hbq, ?_, ?_, ?_, ?_, ?_, ?_, ?_, ?_⟩ <;> exact cell_later hbq (by assumption)))
            (first | (go_at_call 106; refine (joined106 (pt a k) (pt a k1) (pt b i) (pt b i1) _ BP.out.1 BP.out.2.1 BP.out.2.2.1 BP.out.2.2.2).mono ?_; rintro e w' ⟨rfl, hbq⟩))
          go_split_ands
          rename_i hbr _ _ _ _ _ _ _ _
          clear t1 t2 s1 s2 g1 g2 g3 g4 g5 g6 g7 g8 q1 q2 q5 q6 n1 n2 n3 n4
          cases hz : meetZ (pt a k) (pt a k1) (pt b i) (pt b i1)
          case true =>
            have HZ := Lib.hid hz
            clear hz
            go_wp2
            go_ret2
            refine ⟨?_, hbr⟩
            have : relZ a b = 0 := LW.out.2 ⟨HR.out, k, hlt, i, hj, by rw [HX.out.1, HX.out.2]; exact HZ.out⟩
            rw [HT.out, HE.out, decide_eq_true this]; rfl
          case false =>
            have HZ := Lib.hid hz
            clear hz
            go_wp2
            go_roundw
            case rel =>
              refine ⟨i + 1, by omega, by go_num, fun j hj' => ?_, hbr⟩
              by_cases e : j = i
              · subst e; rw [HX.out.1, HX.out.2]; exact HZ.out
              · exact HM.out j (by omega)
            case measure => simp [intOf]; omega
        · obtain rfl : i = b.length := by omega
          go_wp2
          go_roundw
          case rel =>
            refine ⟨k + 1, by omega, by go_num, fun j hj' => ?_, hB⟩
            by_cases e : j = k
            · subst e; exact HM.out
            · exact HN.out j (by omega)
          case measure => simp [intOf]; omega
    · obtain rfl : k = a.length := by omega
      go_wp2
      go_ret2
      refine ⟨?_, hB⟩
      have : ¬ relZ a b = 0 := fun h => by
        obtain ⟨_, i, hi, j, hj, g⟩ := LW.out.1 h
        rw [HN.out i hi j hj] at g; cases g
      rw [HT.out, HE.out, decide_eq_false this]; rfl
end Go.Proofs.Ytfgeengdmbabhaa
