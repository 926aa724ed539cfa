import Derived.Test.YtfgeengdmbabhaaVa
import Derived.Test.YtfgeengdmbabhaaTh
namespace Go.Proofs.Ytfgeengdmbabhaa
open Go.RowKit
attribute [local go_sem ↓] Go.wp_at_zero Go.wp_at_succ run_min2 run_max2

set_option maxHeartbeats 1000000 in
/-- garmentref15.side -/
theorem side121 (a b p : Z2) (w : World) (ha : Bd a) (hb : Bd b) (hp : Bd p) : Calls Try.prog 121 #[sv a, sv b, sv p] w fun e w' => e = .returned (iv (sgn (crZ a b p))) ∧ Below w.heap.size w w' := by
  have HE := Lib.hid (crZ_wrap4 ha hb hp)
  clear ha hb hp
  go_enter Try.func121, Try.ntmps121
  go_upto_region 2 with fail
  rw [HE.out]
  have F := (boxes3 w a b p).1
  revert F
  generalize (((w.alloc (.cells #[iv a.x, iv a.y] 30)).alloc (.cells #[iv b.x, iv b.y] 30)).alloc (.cells #[iv p.x, iv p.y] 30)) = W
  intro hW
  clear HE
  generalize hn : crZ a b p = n
  have HN := Lib.hid hn
  clear hn
  rcases Int.lt_trichotomy n 0 with h | h | h
  · have HS := Lib.hid (sgn_neg h)
    go_wp2
    go_ret
    exact ⟨ret_int (by rw [HN.out, HS.out]), hW⟩
  · have HS := Lib.hid (sgn_zero h)
    subst h
    go_wp2
    go_ret
    exact ⟨ret_int (by rw [HN.out, HS.out]), hW⟩
  · have HS := Lib.hid (sgn_pos h)
    go_wp2
    go_ret
    exact ⟨ret_int (by rw [HN.out, HS.out]), hW⟩

set_option maxRecDepth 100000 in
set_option maxHeartbeats 4000000 in
/-- garmentref15.beyond -/
theorem beyond129 (p q : Z2) (B : Option Addr) (m d : Nat) (b : List Z2) (w : World) (e2 : b.length = m) (h2 : Sp w B b) (hm : m ≤ 1000000) (hp : Bd p) (hq : Bd q) (hb : ∀ p ∈ b, Bd p) :
    Calls Try.prog 129 #[sv p, sv q, .slice B m d] w fun e w' => e = .returned (.bool (decide (mostTo p q b m ≠ 1))) ∧ Below w.heap.size w w' := by
  subst e2
  have HB := Lib.hid h2
  have DB := Lib.hid hb
  have BP := Lib.hid (And.intro hp hq)
  clear h2 hb hp hq
  go_enter Try.func129, Try.ntmps129
  go_upto_region 1 with fail
  have F := boxes2 w p q
  revert F
  generalize ((w.alloc (.cells #[iv p.x, iv p.y] 30)).alloc (.cells #[iv q.x, iv q.y] 30)) = W
  rintro ⟨hW, f1, f2, f3, f4⟩
  go_wp2_with fail
  go_loopw [7] (fun v wr => ∃ k : Nat, k ≤ b.length ∧ v = .int .i64 k ∧ (∀ j, j < k → crZ p q (pt b j) ≤ 0) ∧ Below w.heap.size w wr ∧ wr.cell? ⟨w.heap.size, 0, none⟩ = some (iv p.x) ∧ wr.cell? ⟨w.heap.size, 1, none⟩ = some (iv p.y) ∧ wr.cell? ⟨w.heap.size + 1, 0, none⟩ = some (iv q.x) ∧ wr.cell? ⟨w.heap.size + 1, 1, none⟩ = some (iv q.y)) (fun v _ => b.length - (intOf v).toNat)
  case atStart => exact ⟨0, Nat.zero_le _, rfl, fun j hj => absurd hj (by omega), hW, f1, f2, f3, f4⟩
  case round =>
    clear hW f1 f2 f3 f4
    obtain ⟨k, hk, rfl, hno, hB, f1, f2, f3, f4⟩ := hrel
    have HN := Lib.hid hno
    clear hno
    by_cases hlt : k < b.length
    · have hne : b ≠ [] := by intro h; simp [h] at hlt
      obtain ⟨bb, off, rfl, hc⟩ := HB.out.later hB hne
      obtain ⟨g1, g2⟩ := hc k hlt
      clear hc
      have q7 : (0 : Int) ≤ (k : Int) := by omega
      have q8 : (k : Int) < (b.length : Int) := by omega
      go_wp2_with fail
      go_region_held3 (fun w' => Below wr.heap.size wr w' ∧ w'.cell? ⟨w.heap.size, 0, none⟩ = some (iv p.x) ∧ w'.cell? ⟨w.heap.size, 1, none⟩ = some (iv p.y) ∧ w'.cell? ⟨w.heap.size + 1, 0, none⟩ = some (iv q.x) ∧ w'.cell? ⟨w.heap.size + 1, 1, none⟩ = some (iv q.y) ∧ w'.cell? ⟨bb, off + k * 2, none⟩ = some (iv (pt b k).x) ∧ w'.cell? ⟨bb, off + k * 2 + 1, none⟩ = some (iv (pt b k).y))
        (first | exact ⟨below_drew wr, f1, f2, f3, f4, g1, g2⟩ | assumption | (go_split_ands; refine ⟨below_trans (by assumption) hbq, ?_, ?_, ?_, ?_, ?_, ?_⟩ <;> exact cell_later hbq (by assumption)))
        (first | (go_at_call 121; refine (side121 p q (pt b k) _ BP.out.1 BP.out.2 (bd_pt DB.out k)).mono ?_; rintro e w' ⟨rfl, hbq⟩))
      go_split_ands
      rename_i hbr _ _ _ _ _ _
      have hB3 := hB.trans (hbr.mono hB.size)
      replace f1 := cell_later hbr f1; replace f2 := cell_later hbr f2; replace f3 := cell_later hbr f3; replace f4 := cell_later hbr f4
      clear g1 g2
      have hs := sgn_bd (crZ p q (pt b k))
      have hs1 := @sgn_one (crZ p q (pt b k))
      by_cases hz : 0 < crZ p q (pt b k)
      · have HZ := Lib.hid hz
        have e : sgn (crZ p q (pt b k)) = 1 := hs1.2 hz
        rw [e]
        clear hs hs1 hz e
        go_wp2
        go_ret
        refine ⟨ret_bool (decide_eq_false fun h => h ((mostTo_one p q b b.length).2 ⟨k, hlt, HZ.out⟩)).symm, hB3⟩
      · have HZ := Lib.hid hz
        have e : ¬ (0 < sgn (crZ p q (pt b k))) := fun h => hz (hs1.1 (by omega))
        clear hs hs1 hz
        generalize sgn (crZ p q (pt b k)) = sg at *
        go_wp2
        go_roundw
        case rel =>
          refine ⟨k + 1, by omega, by go_num, fun j hj => ?_, hB3, f1, f2, f3, f4⟩
          by_cases e : j = k
          · subst e; have := HZ.out; omega
          · exact HN.out j (by omega)
        case measure => simp [intOf]; omega
    · obtain rfl : k = b.length := by omega
      go_wp2
      go_ret
      refine ⟨ret_bool ?_, hB⟩
      symm
      rw [decide_eq_true_eq]
      intro h
      obtain ⟨j, hj, g⟩ := (mostTo_one p q b b.length).1 h
      have := HN.out j hj
      omega

set_option maxRecDepth 100000 in
set_option maxHeartbeats 4000000 in
/-- garmentref15.apart -/
theorem apart127 (A B : Option Addr) (n m c d : Nat) (a b : List Z2) (w : World) (e1 : a.length = n) (e2 : b.length = m) (h1 : Sp w A a) (h2 : Sp w B b) (hn : n ≤ 1000000) (hm : m ≤ 1000000) (ha : ∀ p ∈ a, Bd p) (hb : ∀ p ∈ b, Bd p) :
    Calls Try.prog 127 #[.slice A n c, .slice B m d] w fun e w' => e = .returned (.bool (decide (reachZ a b ≠ 1))) ∧ Below w.heap.size w w' := by
  subst e1
  have E2 := Lib.hid e2
  have HA := Lib.hid h1; have HB := Lib.hid h2
  have DA := Lib.hid ha; have DB := Lib.hid hb
  clear h1 h2 ha hb e2
  go_enter Try.func127, Try.ntmps127
  go_wp2_with fail
  go_loopw [5] (fun v wr => ∃ k : Nat, k ≤ a.length ∧ v = .int .i64 k ∧ (∀ j, j < k → mostTo (pt a j) (nx a j) b b.length = 1) ∧ Below w.heap.size w wr) (fun v _ => a.length - (intOf v).toNat)
  case atStart => exact ⟨0, Nat.zero_le _, rfl, fun j hj => absurd hj (by omega), Below.refl _ _⟩
  case round =>
    obtain ⟨k, hk, rfl, hno, hW⟩ := hrel
    have HN := Lib.hid hno
    clear hno
    by_cases hlt : k < a.length
    · have hne : a ≠ [] := by intro h; simp [h] at hlt
      have hp : 0 < a.length := by omega
      obtain ⟨ba, off, rfl, hc⟩ := HA.out.later hW hne
      have l1 : (k + 1) % a.length < a.length := Nat.mod_lt _ hp
      obtain ⟨g1, g2⟩ := hc k hlt
      obtain ⟨g3, g4⟩ := hc _ l1
      have m1 := mod_one k a.length
      have HX := Lib.hid (show nx a k = pt a ((k + 1) % a.length) from rfl)
      have BP := Lib.hid (And.intro (bd_pt DA.out k) (bd_pt DA.out ((k + 1) % a.length)))
      generalize e1 : (k + 1) % a.length = k1 at *
      clear hc e1
      have q5 : (0 : Int) ≤ (k1 : Int) := by omega
      have q6 : (k1 : Int) < (a.length : Int) := by omega
      have q7 : (0 : Int) ≤ (k : Int) := by omega
      have q8 : (k : Int) < (a.length : Int) := by omega
      have q3 : ((a.length : Int) == 0) = false := beq_eq_false_iff_ne.2 (by omega)
      have q4 : ¬ ((a.length : Int) = 0) := by omega
      have t1 : ((k : Int) + 1).tmod (a.length : Int) = (k1 : Int) := by rw [Int.tmod_eq_emod_of_nonneg (by omega)]; exact m1
      clear m1
      have s1 : IntKind.i64.wrap ((k : Int) + 1) = (k : Int) + 1 := IntWalk.i64_in _ (by omega)
      go_wp2_with fail
      go_region_held3 (fun w' => Below w.heap.size w w' ∧ w'.cell? ⟨ba, off + k * 2, none⟩ = some (iv (pt a k).x) ∧ w'.cell? ⟨ba, off + k * 2 + 1, none⟩ = some (iv (pt a k).y) ∧ w'.cell? ⟨ba, off + k1 * 2, none⟩ = some (iv (pt a k1).x) ∧ w'.cell? ⟨ba, off + k1 * 2 + 1, none⟩ = some (iv (pt a k1).y))
        (first | exact ⟨hW.drew, g1, g2, g3, g4⟩ | assumption | (go_split_ands; refine ⟨Below.trans (by assumption) (hbq.mono (Below.size (by assumption))), ?_, ?_, ?_, ?_⟩ <;> exact cell_later hbq (by assumption)))
        (first | (go_at_call 129; go_split_ands; refine (beyond129 (pt a k) (pt a k1) B m d b _ E2.out (HB.out.later (by assumption)) hm BP.out.1 BP.out.2 DB.out).mono ?_; rintro e w' ⟨rfl, hbq⟩))
      go_split_ands
      rename_i hbr _ _ _ _
      clear t1 s1 g1 g2 g3 g4 q5 q6 q7 q8 q3 q4
      by_cases hz : mostTo (pt a k) (pt a k1) b m = 1
      · have HZ := Lib.hid (show mostTo (pt a k) (nx a k) b b.length = 1 by rw [HX.out, E2.out]; exact hz)
        rw [decide_eq_true hz]
        clear hz
        go_wp2
        go_roundw
        case rel =>
          refine ⟨k + 1, by omega, by go_num, fun j hj => ?_, hbr⟩
          by_cases e : j = k
          · subst e; exact HZ.out
          · exact HN.out j (by omega)
        case measure => simp [intOf]; omega
      · have HZ := Lib.hid (show ¬ mostTo (pt a k) (nx a k) b b.length = 1 by rw [HX.out, E2.out]; exact hz)
        rw [decide_eq_false hz]
        clear hz
        go_wp2
        go_ret
        refine ⟨ret_bool ?_, hbr⟩
        symm
        rw [decide_eq_true_eq]
        intro h
        exact HZ.out ((mostTo_one _ _ _ _).2 ((reachTo_one a b a.length).1 h k hlt))
    · obtain rfl : k = a.length := by omega
      go_wp2
      go_ret
      refine ⟨ret_bool (decide_eq_false fun h => h ?_).symm, hW⟩
      exact (reachTo_one a b a.length).2 fun j hj => (mostTo_one _ _ _ _).1 (HN.out j hj)

set_option maxHeartbeats 1000000 in
/-- garmentref15.meets -/
theorem meets120 (A B : Option Addr) (n m c d : Nat) (a b : List Z2) (w : World) (e1 : a.length = n) (e2 : b.length = m) (h1 : Sp w A a) (h2 : Sp w B b) (hn : n ≤ 1000000) (hm : m ≤ 1000000) (ha : ∀ p ∈ a, Bd p) (hb : ∀ p ∈ b, Bd p) :
    Calls Try.prog 120 #[.slice A n c, .slice B m d] w fun e w' => e = .returned (.bool (decide (contactZ a b = 1))) ∧ Below w.heap.size w w' := by
  have HA := Lib.hid h1; have HB := Lib.hid h2
  have DA := Lib.hid ha; have DB := Lib.hid hb
  have HC := Lib.hid (contact_one a b)
  clear h1 h2 ha hb
  go_enter Try.func120, Try.ntmps120
  go_wp2_with fail
  refine (apart127 A B n m c d a b _ e1 e2 HA.out HB.out hn hm DA.out DB.out).mono ?_
  rintro e w1 ⟨rfl, hb1⟩
  by_cases r1 : reachZ a b = 1
  · have R1 := Lib.hid r1
    rw [decide_eq_false (p := reachZ a b ≠ 1) (fun h => h r1)]
    clear r1
    go_wp2_with fail
    refine (apart127 B A m n d c b a _ e2 e1 (HB.out.later hb1) (HA.out.later hb1) hm hn DB.out DA.out).mono ?_
    rintro e w2 ⟨rfl, hb2⟩
    by_cases r2 : reachZ b a = 1
    · have R2 := Lib.hid r2
      rw [decide_eq_false (p := reachZ b a ≠ 1) (fun h => h r2)]
      clear r2
      go_wp2
      go_ret
      exact ⟨ret_bool (decide_eq_true (HC.out.2 ⟨R1.out, R2.out⟩)).symm, below_trans hb1 hb2⟩
    · have R2 := Lib.hid r2
      rw [decide_eq_true (p := reachZ b a ≠ 1) r2]
      clear r2
      go_wp2
      go_ret
      exact ⟨ret_bool (decide_eq_false fun h => R2.out (HC.out.1 h).2).symm, below_trans hb1 hb2⟩
  · have R1 := Lib.hid r1
    rw [decide_eq_true (p := reachZ a b ≠ 1) r1]
    clear r1
    go_wp2
    go_ret
    exact ⟨ret_bool (decide_eq_false fun h => R1.out (HC.out.1 h).1).symm, hb1⟩

def someZ (ss ts : List (List Z2)) : Bool := ss.any fun s => ts.any fun t => decide (contactZ s t = 1)
theorem someZ_yes {ss ts : List (List Z2)} {i j : Nat} (hi : i < ss.length) (hj : j < ts.length) (h : contactZ (ss.getD i []) (ts.getD j []) = 1) : someZ ss ts = true :=
  List.any_eq_true.2 ⟨_, getD_in hi, List.any_eq_true.2 ⟨_, getD_in hj, decide_eq_true h⟩⟩
theorem someZ_no {ss ts : List (List Z2)} (h : ∀ i, i < ss.length → ∀ j, j < ts.length → ¬ contactZ (ss.getD i []) (ts.getD j []) = 1) : someZ ss ts = false := by
  unfold someZ
  rw [List.any_eq_false]
  intro s hs
  rw [Bool.not_eq_true, List.any_eq_false]
  intro t ht
  obtain ⟨i, hi, rfl⟩ := List.getElem_of_mem hs
  obtain ⟨j, hj, rfl⟩ := List.getElem_of_mem ht
  have := h i hi j hj
  have e1 : ss.getD i [] = ss[i] := by simp [hi]
  have e2 : ts.getD j [] = ts[j] := by simp [hj]
  rw [e1, e2] at this
  simpa using this
set_option maxRecDepth 100000 in
set_option maxHeartbeats 4000000 in
/-- garmentref15.some -/
theorem some105 (A B : Option Addr) (n m c d : Nat) (ss ts : List (List Z2)) (w : World) (e1 : ss.length = n) (e2 : ts.length = m) (h1 : SSp w A ss) (h2 : SSp w B ts) (hn : n ≤ 1000) (hm : m ≤ 1000)
    (ha : ∀ s ∈ ss, (∀ p ∈ s, Bd p) ∧ s.length ≤ 1000) (hb : ∀ s ∈ ts, (∀ p ∈ s, Bd p) ∧ s.length ≤ 1000) :
    Calls Try.prog 105 #[.slice A n c, .slice B m d] w fun e w' => e = .returned (.bool (someZ ss ts)) ∧ Below w.heap.size w w' := by
  subst e1 e2
  have H1 := Lib.hid h1; have H2 := Lib.hid h2
  have DA := Lib.hid ha; have DB := Lib.hid hb
  clear h1 h2 ha hb
  go_enter Try.func105, Try.ntmps105
  go_wp2_with fail
  go_loopw [5] (fun v wr => ∃ k : Nat, k ≤ ss.length ∧ v = .int .i64 k ∧ (∀ i, i < k → ∀ j, j < ts.length → ¬ contactZ (ss.getD i []) (ts.getD j []) = 1) ∧ Below w.heap.size w wr) (fun v _ => ss.length - (intOf v).toNat)
  case atStart => exact ⟨0, Nat.zero_le _, rfl, fun j hj => absurd hj (by omega), Below.refl _ _⟩
  case round =>
    obtain ⟨k, hk, rfl, hno, hB⟩ := hrel
    have HN := Lib.hid hno
    clear hno
    by_cases hlt : k < ss.length
    · go_wp2_with fail
      go_loopw [6] (fun v wr => ∃ i : Nat, i ≤ ts.length ∧ v = .int .i64 i ∧ (∀ j, j < i → ¬ contactZ (ss.getD k []) (ts.getD j []) = 1) ∧ Below w.heap.size w wr) (fun v _ => ts.length - (intOf v).toNat)
      case atStart => exact ⟨0, Nat.zero_le _, rfl, fun j hj => absurd hj (by omega), hB⟩
      case round =>
        clear hB
        obtain ⟨i, hi, rfl, hno, hB⟩ := hrel
        have HM := Lib.hid hno
        clear hno
        by_cases hj : i < ts.length
        · have hne : ss ≠ [] := by intro h; rw [h] at hlt; simp at hlt
          have hne2 : ts ≠ [] := by intro h; rw [h] at hj; simp at hj
          obtain ⟨b1, o1, rfl, hcs⟩ := (H1.out.later hB) hne
          obtain ⟨A4, c4, r1, r2, r3⟩ := hcs k hlt
          obtain ⟨b2, o2, rfl, hct⟩ := (H2.out.later hB) hne2
          obtain ⟨A5, c5, s1, s2, s3⟩ := hct i hj
          have h3 := DA.out _ (getD_in (d := []) hlt)
          have h5 := DB.out _ (getD_in (d := []) hj)
          clear hcs hct
          generalize es : ss.getD k [] = s at *
          generalize et : ts.getD i [] = t at *
          have ES := Lib.hid (And.intro es et)
          clear es et
          have HT := Lib.hid r3
          have HU := Lib.hid s3
          have H3 := Lib.hid h3
          have H5 := Lib.hid h5
          have l3 := h3.2
          have l5 := h5.2
          clear r3 s3 h3 h5 r2 s2
          generalize hn4 : s.length = n4 at *
          generalize hn5 : t.length = n5 at *
          have i1 : (0 : Int) ≤ (i : Int) := by omega
          have i2 : (i : Int) < (ts.length : Int) := by omega
          have i3 : (0 : Int) ≤ (k : Int) := by omega
          have i4 : (k : Int) < (ss.length : Int) := by omega
          go_wp2_with fail
          go_region_held3 (fun w' => Below wr.heap.size wr w' ∧ w'.cell? ⟨b1, o1 + k, none⟩ = some (.slice A4 n4 c4) ∧ w'.cell? ⟨b2, o2 + i, none⟩ = some (.slice A5 n5 c5))
            (first | exact ⟨below_drew wr, r1, s1⟩ | assumption | (go_split_ands; refine ⟨below_trans (by assumption) hbq, ?_, ?_⟩ <;> exact cell_later hbq (by assumption)))
            (first
              | (go_at_call 120; go_split_ands; refine (meets120 A4 A5 n4 n5 c4 c5 s t _ hn4 hn5 (HT.out.later (by assumption)) (HU.out.later (by assumption)) (by omega) (by omega) H3.out.1 H5.out.1).mono ?_; rintro e w' ⟨rfl, hbq⟩))
          go_split_ands
          rename_i hbr _ _
          have hB4 := hB.trans (hbr.mono hB.size)
          by_cases hz : contactZ s t = 1
          · have HZ := Lib.hid hz
            rw [decide_eq_true hz]
            clear hz
            go_wp2
            go_ret
            exact ⟨ret_bool (someZ_yes hlt hj (by rw [ES.out.1, ES.out.2]; exact HZ.out)).symm, hB4⟩
          · have HZ := Lib.hid hz
            rw [decide_eq_false hz]
            clear hz
            go_wp2
            go_roundw
            case rel =>
              refine ⟨i + 1, by omega, by go_num, fun j hj' => ?_, hB4⟩
              by_cases e : j = i
              · subst e; rw [ES.out.2]; exact HZ.out
              · exact HM.out j (by omega)
            case measure => simp [intOf]; omega
        · obtain rfl : i = ts.length := by omega
          go_wp2
          go_roundw
          case rel =>
            refine ⟨k + 1, by omega, by go_num, fun j hj' => ?_, hB⟩
            by_cases e : j = k
            · subst e; exact HM.out
            · exact HN.out j (by omega)
          case measure => simp [intOf]; omega
    · obtain rfl : k = ss.length := by omega
      go_wp2
      go_ret
      exact ⟨ret_bool (someZ_no HN.out).symm, hB⟩

set_option maxHeartbeats 1000000 in
/-- garmentref15.check -/
theorem check104 (A B : Option Addr) (n m c d : Nat) (a b : List Z2) (w : World) (e1 : a.length = n) (e2 : b.length = m) (h1 : Sp w A a) (h2 : Sp w B b) :
    Calls Try.prog 104 #[.slice A n c, .slice B m d] w fun e w' => e = .returned (iv (relE a b)) ∧ Below w.heap.size w w' := by
  have HA := Lib.hid h1; have HB := Lib.hid h2
  clear h1 h2
  go_enter Try.func104, Try.ntmps104
  go_wp2_with fail
  refine (check46 A n c a _ e1 HA.out).mono ?_
  rintro e w1 ⟨rfl, hb1⟩
  by_cases ha : chkZ a = 0
  · have HE := Lib.hid (show relE a b = chkZ b by unfold relE; rw [if_pos ha])
    rw [ha]
    clear ha
    go_wp2_with fail
    refine (check46 B m d b _ e2 (HB.out.later hb1)).mono ?_
    rintro e w2 ⟨rfl, hb2⟩
    go_wp2
    go_ret
    exact ⟨ret_int HE.out.symm, below_trans hb1 hb2⟩
  · have HE := Lib.hid (show relE a b = chkZ a by unfold relE; rw [if_neg ha])
    have hd : (chkZ a != 0) = true := by simpa using ha
    clear ha
    go_wp2
    go_ret
    exact ⟨ret_int HE.out.symm, hb1⟩

theorem some_rel {a b : List Z2} (ha : chkZ a = 0) (hb : chkZ b = 0) : ovZ a b = someZ (splitZ a) (splitZ b) ∧ relE a b = 0 := by
  have h1 : relE a b = 0 := by unfold relE; rw [if_pos ha, hb]
  have h2 : relR a b = relZ a b := by unfold relR; rw [if_pos ha, if_pos hb]
  refine ⟨?_, h1⟩
  unfold ovZ
  rw [h1, h2]
  have hbd := rel_bd a b
  have e : relZ a b = 1 ↔ 1 ≤ relZ a b := by omega
  rw [Bool.eq_iff_iff]
  simp only [decide_true, Bool.true_and, decide_eq_true_eq]
  rw [e, rel_le a b 1 (by omega)]
  unfold someZ
  simp only [List.any_eq_true, decide_eq_true_eq]
  constructor
  · rintro ⟨s, hs, t, ht, h⟩; have := contact_bd s t; exact ⟨s, hs, t, ht, by omega⟩
  · rintro ⟨s, hs, t, ht, h⟩; exact ⟨s, hs, t, ht, by omega⟩
set_option maxHeartbeats 1000000 in
/-- garmentref15.Overlap -/
theorem overlap63 (A B : Option Addr) (n m c d : Nat) (a b : List Z2) (w : World) (e1 : a.length = n) (e2 : b.length = m) (h1 : Sp w A a) (h2 : Sp w B b) :
    Calls Try.prog 63 #[.slice A n c, .slice B m d] w fun e w' => e = .returned (.tuple #[.bool (ovZ a b), iv (relE a b)]) ∧ Below w.heap.size w w' := by
  have HA := Lib.hid h1; have HB := Lib.hid h2
  clear h1 h2
  go_enter Try.func63, Try.ntmps63
  go_wp2_with fail
  refine (check104 A B n m c d a b _ e1 e2 HA.out HB.out).mono ?_
  rintro e w1 ⟨rfl, hb⟩
  have HW := Lib.hid hb
  clear hb
  by_cases he : relE a b = 0
  case neg =>
    have HE := Lib.hid (show ovZ a b = false by unfold ovZ; rw [decide_eq_false he]; rfl)
    have hd : (relE a b != 0) = true := by simpa using he
    clear he
    go_wp2
    go_ret2
    refine ⟨?_, HW.out⟩
    rw [HE.out]; rfl
  case pos =>
  have hab : chkZ a = 0 ∧ chkZ b = 0 := by
    unfold relE at he
    split at he
    · exact ⟨by assumption, he⟩
    · exact absurd he (by assumption)
  have HC := Lib.hid hab
  have HE := Lib.hid (some_rel hab.1 hab.2)
  rw [he]
  clear he hab
  go_wp2_with fail
  refine (split59 A n c a _ e1 (HA.out.later HW.out)).mono ?_
  rintro e w2 ⟨A1, c1, rfl, hc1, hs1, hb⟩
  rw [splitE_eq, HC.out.1]
  have H1 := Lib.hid hs1
  replace HW := Lib.hid (below_trans HW.out hb)
  clear hs1 hb
  go_wp2_with fail
  refine (split59 B m d b _ e2 (HB.out.later HW.out)).mono ?_
  rintro e w3 ⟨A2, c2, rfl, hc2, hs2, hb⟩
  rw [splitE_eq, HC.out.2]
  have H2 := Lib.hid hs2
  replace H1 := Lib.hid (H1.out.later hb)
  replace HW := Lib.hid (below_trans HW.out hb)
  clear hs2 hb
  have L1 : (splitZ a).length ≤ 40 := Nat.le_trans (split_len a) (chkZ_zero HC.out.1).1
  have L2 : (splitZ b).length ≤ 40 := Nat.le_trans (split_len b) (chkZ_zero HC.out.2).1
  go_wp2_with fail
  refine (some105 A1 A2 _ _ c1 c2 (splitZ a) (splitZ b) _ rfl rfl H1.out H2.out (by omega) (by omega) (fun s hs => ⟨(split_bd hs).1, by rw [(split_bd hs).2]; omega⟩) (fun s hs => ⟨(split_bd hs).1, by rw [(split_bd hs).2]; omega⟩)).mono ?_
  rintro e w4 ⟨rfl, hb⟩
  replace HW := Lib.hid (below_trans HW.out hb)
  clear hb
  go_wp2
  go_ret2
  refine ⟨?_, HW.out⟩
  rw [HE.out.1, HE.out.2]; rfl
end Go.Proofs.Ytfgeengdmbabhaa
