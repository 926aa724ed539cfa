import Derived.Test.YtfgeengdmbabhaaA6
import Derived.Test.YtfgeengdmbabhaaQa
namespace Go.Proofs.Ytfgeengdmbabhaa
open Go.RowKit
attribute [local go_sem ↓] Go.wp_at_zero Go.wp_at_succ run_min2 run_max2

theorem crZ_wrap4 {p q v : Z2} (hp : Bd p) (hq : Bd q) (hv : Bd v) : wrap64 (wrap64 (wrap64 (q.x - p.x) * wrap64 (v.y - p.y)) - wrap64 (wrap64 (q.y - p.y) * wrap64 (v.x - p.x))) = crZ p q v := by
  have e := crZ_wrap hp hq hv
  unfold Bd at hp hq hv
  rw [wrap64_in (n := q.x - p.x) (by omega) (by omega), wrap64_in (n := v.y - p.y) (by omega) (by omega), wrap64_in (n := q.y - p.y) (by omega) (by omega), wrap64_in (n := v.x - p.x) (by omega) (by omega)]
  exact e

set_option maxRecDepth 100000 in
set_option maxHeartbeats 4000000 in
/-- overlap.reach -/
theorem reach123 (A B : Option Addr) (n m c d : Nat) (a b : List Z2) (w : World) (e1 : a.length = n) (e2 : b.length = m) (h1 : Sp w A a) (h2 : Sp w B b) (hn : n ≤ 1000000) (hm : m ≤ 1000000) (ha : ∀ p ∈ a, Bd p) (hb : ∀ p ∈ b, Bd p) :
    Calls Try.prog 123 #[.slice A n c, .slice B m d] w fun e w' => e = .returned (iv (reachZ a b)) ∧ Below w.heap.size w w' := by
  subst e1 e2
  have HA := Lib.hid h1; have HB := Lib.hid h2
  have DA := Lib.hid ha; have DB := Lib.hid hb
  clear h1 h2 ha hb
  go_enter Try.func123, Try.ntmps123
  go_wp2
  go_loopw [5, 15] (fun l i wr => ∃ k : Nat, k ≤ a.length ∧ i = .int .i64 k ∧ l = iv (reachTo a b k) ∧ Below w.heap.size w wr) (fun _ i _ => a.length - (intOf i).toNat)
  case atStart => exact ⟨0, Nat.zero_le _, rfl, rfl, Below.refl _ _⟩
  case round =>
    obtain ⟨k, hk, rfl, rfl, hW⟩ := hrel
    by_cases hlt : k < a.length
    · have hne : a ≠ [] := by intro h; simp [h] at hlt
      have hp : 0 < a.length := by omega
      obtain ⟨ba, off, rfl, hc⟩ := HA.out.later hW hne
      have l1 : (k + 1) % a.length < a.length := Nat.mod_lt _ hp
      obtain ⟨g1, g2⟩ := hc k hlt
      obtain ⟨g3, g4⟩ := hc _ l1
      have m1 := mod_one k a.length
      have HR := Lib.hid (show reachTo a b (k + 1) = min (reachTo a b k) (mostTo (pt a k) (pt a ((k + 1) % a.length)) b b.length) from rfl)
      have BP := Lib.hid (And.intro (bd_pt DA.out k) (bd_pt DA.out ((k + 1) % a.length)))
      generalize e1 : (k + 1) % a.length = k1 at *
      clear hc e1
      have nb : ba < wr.heap.size := World.block_lt_of_cell? _ _ g1
      have nb2 : ba ≠ wr.heap.size := by omega
      have nb3 : ba ≠ wr.heap.size + 1 := by omega
      generalize pt a k = p at *
      generalize pt a k1 = q at *
      go_upto_region 6 with fail
      have F := boxes2 wr p q
      revert F
      generalize ((wr.alloc (.cells #[iv p.x, iv p.y] 30)).alloc (.cells #[iv q.x, iv q.y] 30)) = W
      rintro ⟨hb, f1, f2, f3, f4⟩
      have hW1 := hW.trans (hb.mono hW.size)
      clear hb g1 g2 g3 g4 nb nb2 nb3 m1
      generalize wr.heap.size = h0 at *
      go_wp2_with fail
      go_loopw [9, 30] (fun ms j wr2 => ∃ i : Nat, i ≤ b.length ∧ j = .int .i64 i ∧ ms = iv (mostTo p q b i) ∧ Below w.heap.size w wr2 ∧ wr2.cell? ⟨h0, 0, none⟩ = some (iv p.x) ∧ wr2.cell? ⟨h0, 1, none⟩ = some (iv p.y) ∧ wr2.cell? ⟨h0 + 1, 0, none⟩ = some (iv q.x) ∧ wr2.cell? ⟨h0 + 1, 1, none⟩ = some (iv q.y)) (fun _ j _ => b.length - (intOf j).toNat)
      case atStart => exact ⟨0, Nat.zero_le _, rfl, rfl, hW1, f1, f2, f3, f4⟩
      case round =>
        clear f1 f2 f3 f4 hW1
        obtain ⟨i, hi, rfl, rfl, hB, f1, f2, f3, f4⟩ := hrel
        by_cases hj : i < b.length
        · have hne2 : b ≠ [] := by intro h; simp [h] at hj
          obtain ⟨bb, offb, rfl, hc⟩ := HB.out.later hB hne2
          obtain ⟨g5, g6⟩ := hc i hj
          clear hc
          have HM := Lib.hid (show mostTo p q b (i + 1) = max (mostTo p q b i) (sgn (crZ p q (pt b i))) from rfl)
          have HX := Lib.hid (crZ_wrap4 BP.out.1 BP.out.2 (bd_pt DB.out i))
          generalize pt b i = v at *
          go_upto_region 10 with fail
          have F := boxes1 wr v
          revert F
          generalize wr.alloc (.cells #[iv v.x, iv v.y] 30) = W5
          rintro ⟨hb, f5, f6⟩
          have hB5 := hB.trans (hb.mono hB.size)
          replace f1 := cell_later hb f1; replace f2 := cell_later hb f2; replace f3 := cell_later hb f3; replace f4 := cell_later hb f4
          clear hb g5 g6
          generalize wr.heap.size = h5 at *
          go_upto_region 11 with fail
          rw [HX.out]
          go_wp2_with fail
          refine (compare128 (crZ p q v) _).mono ?_
          rintro e w' ⟨rfl, rfl⟩
          go_wp2
          go_roundw
          case rel => exact ⟨i + 1, by omega, by go_num, by rw [HM.out], hB5, f1, f2, f3, f4⟩
          case measure => simp [intOf]; omega
        · obtain rfl : i = b.length := by omega
          go_wp2
          go_roundw
          case rel => exact ⟨k + 1, by omega, by go_num, by rw [HR.out], hB⟩
          case measure => simp [intOf]; omega
    · obtain rfl : k = a.length := by omega
      go_wp2
      go_ret
      exact ⟨rfl, hW⟩

set_option maxHeartbeats 1000000 in
/-- overlap.contact -/
theorem contact108 (A B : Option Addr) (n m c d : Nat) (a b : List Z2) (w : World) (e1 : a.length = n) (e2 : b.length = m) (h1 : Sp w A a) (h2 : Sp w B b) (hn : n ≤ 1000000) (hm : m ≤ 1000000) (ha : ∀ p ∈ a, Bd p) (hb : ∀ p ∈ b, Bd p) :
    Calls Try.prog 108 #[.slice A n c, .slice B m d] w fun e w' => e = .returned (iv (contactZ a b)) ∧ Below w.heap.size w w' := by
  have HA := Lib.hid h1; have HB := Lib.hid h2
  have DA := Lib.hid ha; have DB := Lib.hid hb
  clear h1 h2 ha hb
  go_enter Try.func108, Try.ntmps108
  go_wp2_with fail
  refine (reach123 A B n m c d a b _ e1 e2 HA.out HB.out hn hm DA.out DB.out).mono ?_
  rintro e w1 ⟨rfl, hb1⟩
  go_wp2_with fail
  refine (reach123 B A m n d c b a _ e2 e1 (HB.out.later hb1) (HA.out.later hb1) hm hn DB.out DA.out).mono ?_
  rintro e w2 ⟨rfl, hb2⟩
  go_wp2
  go_ret
  exact ⟨rfl, below_trans hb1 hb2⟩

def relE (a b : List Z2) : Int := if chkZ a = 0 then chkZ b else chkZ a
def relR (a b : List Z2) : Int := if chkZ a = 0 then (if chkZ b = 0 then relZ a b else 0) else 0
theorem split_bd {a : List Z2} {s : List Z2} (hs : s ∈ splitZ a) : (∀ p ∈ s, Bd p) ∧ s.length = 3 := by
  by_cases h : chkZ a = 0
  · obtain ⟨t, rfl, _, m1, m2, m3⟩ := split_tri h hs
    have nn := norm_norm h
    refine ⟨fun p hp => ?_, rfl⟩
    simp only [toL, List.mem_cons, List.not_mem_nil, or_false] at hp
    rcases hp with rfl | rfl | rfl
    · exact bd_of_out (nn.in_range h _ m1)
    · exact bd_of_out (nn.in_range h _ m2)
    · exact bd_of_out (nn.in_range h _ m3)
  · rw [(split_no h).1] at hs; simp at hs
theorem getD_in {α : Type} {l : List α} {i : Nat} {d : α} (h : i < l.length) : l.getD i d ∈ l := by
  have e : l.getD i d = l[i] := by simp [h]
  rw [e]; exact List.getElem_mem h

set_option maxRecDepth 100000 in
set_option maxHeartbeats 4000000 in
/-- overlap.relation -/
theorem relation87 (A B : Option Addr) (n m c d : Nat) (a b : List Z2) (w : World) (e1 : a.length = n) (e2 : b.length = m) (h1 : Sp w A a) (h2 : Sp w B b) (hc : n ≤ c) (hd : m ≤ d) :
    Calls Try.prog 87 #[.slice A n c, .slice B m d] w fun e w' => e = .returned (.tuple #[iv (relR a b), iv (relE a b)]) ∧ Below w.heap.size w w' := by
  have HA := Lib.hid h1; have HB := Lib.hid h2
  clear h1 h2
  go_enter Try.func87, Try.ntmps87
  go_wp2_with fail
  refine (split58' A n c a _ e1 HA.out hc).mono ?_
  rintro e w1 ⟨A1, c1, rfl, hc1, hs1, hb1⟩
  rw [splitE_eq]
  have H1 := Lib.hid hs1
  have HW := Lib.hid hb1
  clear hs1 hb1
  by_cases ha : chkZ a = 0
  case neg =>
    have HE := Lib.hid (And.intro (show relR a b = 0 by unfold relR; rw [if_neg ha]) (show relE a b = chkZ a by unfold relE; rw [if_neg ha]))
    have hd : (chkZ a != 0) = true := by simpa using ha
    clear ha
    go_wp2
    go_ret2
    refine ⟨?_, HW.out⟩
    rw [HE.out.1, HE.out.2]; rfl
  case pos =>
  have Ha := Lib.hid ha
  rw [ha]
  clear ha
  go_wp2_with fail
  refine (split58' B m d b _ e2 (HB.out.later HW.out) hd).mono ?_
  rintro e w2 ⟨A2, c2, rfl, hc2, hs2, hb2⟩
  rw [splitE_eq]
  have H2 := Lib.hid hs2
  replace H1 := Lib.hid (H1.out.later hb2)
  replace HW := Lib.hid (below_trans HW.out hb2)
  clear hs2 hb2
  by_cases hb : chkZ b = 0
  case neg =>
    have HE := Lib.hid (And.intro (show relR a b = 0 by unfold relR; rw [if_pos Ha.out, if_neg hb]) (show relE a b = chkZ b by unfold relE; rw [if_pos Ha.out]))
    have hd : (chkZ b != 0) = true := by simpa using hb
    clear hb
    go_wp2
    go_ret2
    refine ⟨?_, HW.out⟩
    rw [HE.out.1, HE.out.2]; rfl
  case pos =>
  have HE := Lib.hid (And.intro (show relR a b = relTo (splitZ a) (splitZ b) (splitZ a).length by unfold relR; rw [if_pos Ha.out, if_pos hb]; rfl) (show relE a b = 0 by unfold relE; rw [if_pos Ha.out, hb]))
  have L1 : (splitZ a).length ≤ 40 := Nat.le_trans (split_len a) (chkZ_zero Ha.out).1
  have L2 : (splitZ b).length ≤ 40 := Nat.le_trans (split_len b) (chkZ_zero hb).1
  rw [hb]
  clear hb
  have DA := Lib.hid (fun s (hs : s ∈ splitZ a) => split_bd hs)
  have DB := Lib.hid (fun s (hs : s ∈ splitZ b) => split_bd hs)
  generalize splitZ a = ss at *
  generalize splitZ b = ts at *
  go_wp2_with fail
  go_loopw [9, 32] (fun cl i wr => ∃ k : Nat, k ≤ ss.length ∧ i = .int .i64 k ∧ cl = iv (relTo ss ts k) ∧ Below w2.heap.size w2 wr) (fun _ i _ => ss.length - (intOf i).toNat)
  case atStart => exact ⟨0, Nat.zero_le _, rfl, rfl, Below.refl _ _⟩
  case round =>
    obtain ⟨k, hk, rfl, rfl, hB⟩ := hrel
    by_cases hlt : k < ss.length
    · have hne : ss ≠ [] := by intro h; rw [h] at hlt; simp at hlt
      obtain ⟨b1, o1, rfl, hcs⟩ := (H1.out.later hB) hne
      obtain ⟨A4, c4, r1, r2, r3⟩ := hcs k hlt
      have h3 := DA.out _ (getD_in (d := []) hlt)
      have HR := Lib.hid (show relTo ss ts (k + 1) = closTo (relTo ss ts k) (ss.getD k []) ts ts.length from rfl)
      clear hcs
      generalize ss.getD k [] = s at *
      rw [h3.2] at r1 r2
      have H3 := Lib.hid h3
      have HT := Lib.hid r3
      clear h3 r3
      go_wp2_with fail
      go_loopw [9, 38] (fun cl j wr2 => ∃ i : Nat, i ≤ ts.length ∧ j = .int .i64 i ∧ cl = iv (closTo (relTo ss ts k) s ts i) ∧ Below wr.heap.size wr wr2) (fun _ j _ => ts.length - (intOf j).toNat)
      case atStart => exact ⟨0, Nat.zero_le _, rfl, rfl, Below.refl _ _⟩
      case round =>
        obtain ⟨i, hi, rfl, rfl, hB2⟩ := hrel
        by_cases hj : i < ts.length
        · have hne2 : ts ≠ [] := by intro h; rw [h] at hj; simp at hj
          have hBB := hB.trans (hB2.mono hB.size)
          obtain ⟨b2, o2, rfl, hct⟩ := (H2.out.later hBB) hne2
          obtain ⟨A5, c5, s1, s2, s3⟩ := hct i hj
          have h5 := DB.out _ (getD_in (d := []) hj)
          have HC := Lib.hid (show closTo (relTo ss ts k) s ts (i + 1) = max (closTo (relTo ss ts k) s ts i) (contactZ s (ts.getD i [])) from rfl)
          clear hct
          generalize ts.getD i [] = t at *
          rw [h5.2] at s1 s2
          have HU := Lib.hid s3
          have H5 := Lib.hid h5
          clear s3 h5
          go_wp2_with fail
          refine (contact108 A4 A5 3 3 c4 c5 s t _ H3.out.2 H5.out.2 (HT.out.later hB2) HU.out (by omega) (by omega) H3.out.1 H5.out.1).mono ?_
          rintro e w' ⟨rfl, hbq⟩
          replace hB2 := hB2.trans (hbq.mono hB2.size)
          clear hbq hBB
          go_wp2
          go_roundw
          case rel => exact ⟨i + 1, by omega, by go_num, by rw [HC.out], hB2⟩
          case measure => simp [intOf]; omega
        · obtain rfl : i = ts.length := by omega
          go_wp2
          go_roundw
          case rel => exact ⟨k + 1, by omega, by go_num, by rw [HR.out], hB.trans (hB2.mono hB.size)⟩
          case measure => simp [intOf]; omega
    · obtain rfl : k = ss.length := by omega
      go_wp2
      go_ret2
      refine ⟨?_, below_trans HW.out hB⟩
      rw [HE.out.1, HE.out.2]; rfl

def ovZ (a b : List Z2) : Bool := decide (relE a b = 0) && decide (relR a b = 1)
def toZ (a b : List Z2) : Bool := decide (relE a b = 0) && decide (relR a b = 0)
set_option maxHeartbeats 1000000 in
/-- overlap.Overlap -/
theorem overlap48 (A B : Option Addr) (n m c d : Nat) (a b : List Z2) (w : World) (e1 : a.length = n) (e2 : b.length = m) (h1 : Sp w A a) (h2 : Sp w B b) (hc : n ≤ c) (hd : m ≤ d) :
    Calls Try.prog 48 #[.slice A n c, .slice B m d] w fun e w' => e = .returned (.tuple #[.bool (ovZ a b), iv (relE a b)]) ∧ Below w.heap.size w w' := by
  have HA := Lib.hid h1; have HB := Lib.hid h2
  clear h1 h2
  go_enter Try.func48, Try.ntmps48
  go_wp2_with fail
  refine (relation87 A B n m c d a b _ e1 e2 HA.out HB.out hc hd).mono ?_
  rintro e w1 ⟨rfl, hb1⟩
  have HE := Lib.hid (show ovZ a b = (decide (relE a b = 0) && decide (relR a b = 1)) from rfl)
  generalize hE : relE a b = e at *
  generalize relR a b = r at *
  have HG := Lib.hid hE
  clear hE
  by_cases he : e = 0
  · subst he
    go_wp2
    go_ret2
    refine ⟨?_, hb1⟩
    have e : decide (r = 1) = (r == 1) := by rw [Bool.eq_iff_iff]; simp
    rw [HG.out, HE.out, e]
    simp only [decide_true, Bool.true_and]
    rfl
  · have hd : (e == 0) = false := by simpa using he
    have HZ := Lib.hid he
    clear he
    go_wp2
    go_ret2
    refine ⟨?_, hb1⟩
    rw [HG.out, HE.out, decide_eq_false HZ.out, Bool.false_and]
    rfl
set_option maxHeartbeats 1000000 in
/-- overlap.Touch -/
theorem touch55 (A B : Option Addr) (n m c d : Nat) (a b : List Z2) (w : World) (e1 : a.length = n) (e2 : b.length = m) (h1 : Sp w A a) (h2 : Sp w B b) (hc : n ≤ c) (hd : m ≤ d) :
    Calls Try.prog 55 #[.slice A n c, .slice B m d] w fun e w' => e = .returned (.tuple #[.bool (toZ a b), iv (relE a b)]) ∧ Below w.heap.size w w' := by
  have HA := Lib.hid h1; have HB := Lib.hid h2
  clear h1 h2
  go_enter Try.func55, Try.ntmps55
  go_wp2_with fail
  refine (relation87 A B n m c d a b _ e1 e2 HA.out HB.out hc hd).mono ?_
  rintro e w1 ⟨rfl, hb1⟩
  have HE := Lib.hid (show toZ a b = (decide (relE a b = 0) && decide (relR a b = 0)) from rfl)
  generalize hE : relE a b = e at *
  generalize relR a b = r at *
  have HG := Lib.hid hE
  clear hE
  by_cases he : e = 0
  · subst he
    go_wp2
    go_ret2
    refine ⟨?_, hb1⟩
    have e : decide (r = 0) = (r == 0) := by rw [Bool.eq_iff_iff]; simp
    rw [HG.out, HE.out, e]
    simp only [decide_true, Bool.true_and]
    rfl
  · have hd : (e == 0) = false := by simpa using he
    have HZ := Lib.hid he
    clear he
    go_wp2
    go_ret2
    refine ⟨?_, hb1⟩
    rw [HG.out, HE.out, decide_eq_false HZ.out, Bool.false_and]
    rfl
end Go.Proofs.Ytfgeengdmbabhaa
