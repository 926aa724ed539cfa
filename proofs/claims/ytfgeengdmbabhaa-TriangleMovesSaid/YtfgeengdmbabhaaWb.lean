import Derived.Test.YtfgeengdmbabhaaWa
namespace Go.Proofs.Ytfgeengdmbabhaa
open Go.RowKit
attribute [local go_sem ↓] Go.wp_at_zero Go.wp_at_succ

def sgn (n : Int) : Int := if n < 0 then -1 else if 0 < n then 1 else 0

/-- cmp.isNaN -/
theorem isNaN130 (n : Int) (w : World) : Calls Try.prog 130 #[iv n] w fun e w' => e = .returned (.bool false) ∧ w = w' := by
  go_enter Try.func130, Try.ntmps130
  go_wp2
  go_ret
  exact ⟨ret_bool (by simp), rfl⟩

set_option maxHeartbeats 400000 in
/-- cmp.Compare with 0 -/
theorem compare128 (n : Int) (w : World) : Calls Try.prog 128 #[iv n, iv 0] w fun e w' => e = .returned (iv (sgn n)) ∧ w = w' := by
  go_enter Try.func128, Try.ntmps128
  go_wp2_with fail
  refine (isNaN130 _ _).mono ?_
  rintro e w1 ⟨rfl, rfl⟩
  go_wp2_with fail
  refine (isNaN130 _ _).mono ?_
  rintro e w1 ⟨rfl, rfl⟩
  go_wp2
  all_goals
    go_ret
    exact ⟨ret_int (by unfold sgn; first | rw [if_pos (by assumption)] | (rw [if_neg (by omega), if_pos (by omega)]) | (rw [if_neg (by omega), if_neg (by omega)])), rfl⟩

def partedZ (a b c d : Z2) : Bool := decide (sgn (crZ a b c) * sgn (crZ a b d) < 0)

theorem sgn_bd (n : Int) : -1 ≤ sgn n ∧ sgn n ≤ 1 := by unfold sgn; split <;> (try split) <;> omega
theorem sgn_wrap (m n : Int) : IntKind.i64.wrap (sgn m * sgn n) = sgn m * sgn n := by
  have h1 := sgn_bd m
  have h2 := sgn_bd n
  have h3 := mul_bd h1.1 h1.2 h2.1 h2.2
  exact IntWalk.i64_in _ (by omega)
set_option maxHeartbeats 400000 in
/-- polygon.parted -/
theorem parted125 (a b c d : Z2) (w : World) (ha : Bd a) (hb : Bd b) (hc : Bd c) (hd : Bd d) :
    Calls Try.prog 125 #[sv a, sv b, sv c, sv d] w fun e w' => e = .returned (.bool (partedZ a b c d)) ∧ Below w.heap.size w w' := by
  go_enter Try.func125, Try.ntmps125
  go_wp2_with fail
  have F := boxes4 w a b c d
  revert F
  generalize ((((w.alloc (.cells #[iv a.x, iv a.y] 30)).alloc (.cells #[iv b.x, iv b.y] 30)).alloc (.cells #[iv c.x, iv c.y] 30)).alloc (.cells #[iv d.x, iv d.y] 30)) = W
  rintro ⟨hB, f1, f2, f3, f4, f5, f6, f7, f8⟩
  go_region_held3 (fun w' => Below w.heap.size w w' ∧ w'.cell? ⟨w.heap.size, 0, none⟩ = some (iv a.x) ∧ w'.cell? ⟨w.heap.size, 1, none⟩ = some (iv a.y) ∧ w'.cell? ⟨w.heap.size + 1, 0, none⟩ = some (iv b.x) ∧ w'.cell? ⟨w.heap.size + 1, 1, none⟩ = some (iv b.y)
      ∧ w'.cell? ⟨w.heap.size + 1 + 1, 0, none⟩ = some (iv c.x) ∧ w'.cell? ⟨w.heap.size + 1 + 1, 1, none⟩ = some (iv c.y) ∧ w'.cell? ⟨w.heap.size + 1 + 1 + 1, 0, none⟩ = some (iv d.x) ∧ w'.cell? ⟨w.heap.size + 1 + 1 + 1, 1, none⟩ = some (iv d.y))
    (first | exact ⟨hB.drew, f1, f2, f3, f4, f5, f6, f7, f8⟩ | assumption | (go_split_ands; refine ⟨below_trans (by assumption) hbq, ?_, ?_, ?_, ?_, ?_, ?_, ?_, ?_⟩ <;> exact cell_later hbq (by assumption)))
    (first | (go_at_call 81; refine (cross81 _ _ _ _ ?_ ?_ ?_).mono ?_; (assumption); (assumption); (assumption); rintro e w' ⟨rfl, hbq⟩) | (go_at_call 128; refine (compare128 _ _).mono ?_; rintro e w' ⟨rfl, rfl⟩))
  go_split_ands
  go_wp2
  go_ret
  exact ⟨ret_bool (by unfold partedZ; rw [sgn_wrap]), by assumption⟩

def meetZ (a b c d : Z2) : Bool := onZ a b c || onZ a b d || onZ c d a || onZ c d b || (partedZ a b c d && partedZ c d a b)

set_option maxHeartbeats 1000000 in
/-- polygon.meet -/
theorem meet115 (a b c d : Z2) (w : World) (ha : Bd a) (hb : Bd b) (hc : Bd c) (hd : Bd d) :
    Calls Try.prog 115 #[sv a, sv b, sv c, sv d] w fun e w' => e = .returned (.bool (meetZ a b c d)) ∧ Below w.heap.size w w' := by
  go_enter Try.func115, Try.ntmps115
  go_wp2_with fail
  have F := boxes4 w a b c d
  revert F
  generalize ((((w.alloc (.cells #[iv a.x, iv a.y] 30)).alloc (.cells #[iv b.x, iv b.y] 30)).alloc (.cells #[iv c.x, iv c.y] 30)).alloc (.cells #[iv d.x, iv d.y] 30)) = W
  rintro ⟨hB, f1, f2, f3, f4, f5, f6, f7, f8⟩
  have hW := World.block_lt_of_cell? _ _ f8
  go_wp2_with (first | (go_at_call 80; refine (on80 _ _ _ _ ?_ ?_ ?_).mono ?_; (assumption); (assumption); (assumption); rintro e w' ⟨rfl, hbq⟩; replace hB := below_trans hB hbq; replace f1 := cell_later hbq f1; replace f2 := cell_later hbq f2; replace f3 := cell_later hbq f3; replace f4 := cell_later hbq f4; replace f5 := cell_later hbq f5; replace f6 := cell_later hbq f6; replace f7 := cell_later hbq f7; replace f8 := cell_later hbq f8; clear hbq) | (go_at_call 125; refine (parted125 _ _ _ _ _ ?_ ?_ ?_ ?_).mono ?_; (assumption); (assumption); (assumption); (assumption); rintro e w' ⟨rfl, hbq⟩; replace hB := below_trans hB hbq; replace f1 := cell_later hbq f1; replace f2 := cell_later hbq f2; replace f3 := cell_later hbq f3; replace f4 := cell_later hbq f4; replace f5 := cell_later hbq f5; replace f6 := cell_later hbq f6; replace f7 := cell_later hbq f7; replace f8 := cell_later hbq f8; clear hbq))
  all_goals
    go_ret
    exact ⟨ret_bool (by simp [meetZ, *]), hB⟩

def foldedZ (a b c : Z2) : Bool := decide (crZ a b c = 0) && decide (0 < (a.x - b.x) * (c.x - b.x) + (a.y - b.y) * (c.y - b.y))

theorem dot_wrap {a b c : Z2} (ha : Bd a) (hb : Bd b) (hc : Bd c) :
    wrap64 (wrap64 ((a.x - b.x) * (c.x - b.x)) + wrap64 ((a.y - b.y) * (c.y - b.y))) = (a.x - b.x) * (c.x - b.x) + (a.y - b.y) * (c.y - b.y) := by
  unfold Bd at *
  have e1 := prod_bd (a := a.x - b.x) (b := c.x - b.x) (by omega) (by omega)
  have e2 := prod_bd (a := a.y - b.y) (b := c.y - b.y) (by omega) (by omega)
  rw [wrap64_in (n := (a.x - b.x) * (c.x - b.x)) (by omega) (by omega), wrap64_in (n := (a.y - b.y) * (c.y - b.y)) (by omega) (by omega)]
  rw [wrap64_in (by omega) (by omega)]

set_option maxHeartbeats 400000 in
/-- polygon.folded -/
theorem folded114 (a b c : Z2) (w : World) (ha : Bd a) (hb : Bd b) (hc : Bd c) :
    Calls Try.prog 114 #[sv a, sv b, sv c] w fun e w' => e = .returned (.bool (foldedZ a b c)) ∧ Below w.heap.size w w' := by
  have HE := Lib.hid (dot_wrap ha hb hc)
  go_enter Try.func114, Try.ntmps114
  go_wp2_with fail
  refine (cross81 a b c _ ha hb hc).mono ?_
  rintro e w1 ⟨rfl, hb1⟩
  obtain ⟨a1, a2, a3, a4⟩ := ha
  obtain ⟨b1, b2, b3, b4⟩ := hb
  obtain ⟨c1, c2, c3, c4⟩ := hc
  have F := boxes3 w a b c
  revert F hb1
  generalize (((w.alloc (.cells #[iv a.x, iv a.y] 30)).alloc (.cells #[iv b.x, iv b.y] 30)).alloc (.cells #[iv c.x, iv c.y] 30)) = W
  rintro hb1 ⟨hB, f1, f2, f3, f4, f5, f6⟩
  replace hB := below_trans hB hb1; replace f1 := cell_later hb1 f1; replace f2 := cell_later hb1 f2; replace f3 := cell_later hb1 f3; replace f4 := cell_later hb1 f4; replace f5 := cell_later hb1 f5; replace f6 := cell_later hb1 f6
  clear hb1
  go_wp2
  all_goals
    go_ret
    refine ⟨ret_bool ?_, hB⟩
    have H := HE.out
    simp only [foldedZ]
    first | (rw [← H]; simp [*]; done) | (simp [*]; done)

def outZ (a : Z2) : Bool := decide (a.x < -1048576) || decide (1048576 < a.x) || decide (a.y < -1048576) || decide (1048576 < a.y)

set_option maxHeartbeats 400000 in
/-- polygon.outside -/
theorem outside79 (a : Z2) (w : World) : Calls Try.prog 79 #[sv a] w fun e w' => e = .returned (.bool (outZ a)) ∧ Below w.heap.size w w' := by
  go_enter Try.func79, Try.ntmps79
  go_wp2
  all_goals
    go_ret
    refine ⟨ret_bool ?_, below_alloc _ _⟩
    rw [Bool.eq_iff_iff]
    simp [outZ]
    try omega

/-- the k-th spot of a list -/
def pt (ps : List Z2) (k : Nat) : Z2 := ps.getD k ⟨0, 0⟩
theorem pt_eq {ps : List Z2} {k : Nat} (h : k < ps.length) : pt ps k = ps[k] := by simp [pt, h]
theorem pt_mem {ps : List Z2} {k : Nat} (h : k < ps.length) : pt ps k ∈ ps := by rw [pt_eq h]; exact List.getElem_mem h

/-- a slice at the address A reads as the list ps -/
def Sp (w : World) (A : Option Addr) (ps : List Z2) : Prop :=
  ps ≠ [] → ∃ b off, A = some ⟨b, off, none⟩ ∧ ∀ k, k < ps.length → w.cell? ⟨b, off + k * 2, none⟩ = some (iv (pt ps k).x) ∧ w.cell? ⟨b, off + k * 2 + 1, none⟩ = some (iv (pt ps k).y)

theorem Sp.later {w w' : World} {A : Option Addr} {ps : List Z2} (h : Sp w A ps) (hb : Below w.heap.size w w') : Sp w' A ps := fun hne => by
  obtain ⟨b, off, hA, hc⟩ := h hne
  exact ⟨b, off, hA, fun k hk => ⟨cell_later hb (hc k hk).1, cell_later hb (hc k hk).2⟩⟩
theorem Sp.drew {w : World} {A : Option Addr} {ps : List Z2} (h : Sp w A ps) : Sp w.drew A ps := h

def SomeIdx (q : Z2) (ps : List Z2) (w : World) (e : Ending) (w' : World) : Prop := ∃ r : Int, e = .returned (iv r) ∧ (0 ≤ r ↔ q ∈ ps) ∧ Below w.heap.size w w'

set_option maxHeartbeats 400000 in
/-- slices.Index -/
theorem index124 (A : Option Addr) (c : Nat) (ps : List Z2) (q : Z2) (w : World) (hsp : Sp w A ps) (hn : ps.length ≤ 1000000000) :
    Calls Try.prog 124 #[.slice A ps.length c, sv q] w (SomeIdx q ps w) := by
  have HS := Lib.hid hsp; clear hsp
  go_enter Try.func124, Try.ntmps124
  go_wp2
  go_loopw [5, 8] (fun _ i wr => ∃ k : Nat, k ≤ ps.length ∧ i = .int .i64 k ∧ (∀ j, j < k → pt ps j ≠ q) ∧ Below w.heap.size w wr ∧ wr.cell? ⟨w.heap.size, 0, none⟩ = some (iv q.x) ∧ wr.cell? ⟨w.heap.size, 1, none⟩ = some (iv q.y)) (fun _ i _ => ps.length - (intOf i).toNat)
  case atStart => exact ⟨0, Nat.zero_le _, rfl, fun j hj => absurd hj (by omega), below_alloc _ _, by simp, by simp⟩
  case round =>
    obtain ⟨k, hk, rfl, hno, hB, f1, f2⟩ := hrel
    by_cases hlt : k < ps.length
    · have hne : ps ≠ [] := by intro h; simp [h] at hlt
      obtain ⟨b, off, rfl, hc⟩ := HS.out.later hB hne
      obtain ⟨g1, g2⟩ := hc k hlt
      have HN := Lib.hid hno
      have HC := Lib.hid hc
      clear hno hc hne
      have he := fun w => eql30 q (pt ps k) w
      go_wp2
      go_region_held3 (fun w' => Below w.heap.size w w' ∧ w'.cell? ⟨w.heap.size, 0, none⟩ = some (iv q.x) ∧ w'.cell? ⟨w.heap.size, 1, none⟩ = some (iv q.y) ∧ w'.cell? ⟨b, off + k * 2, none⟩ = some (iv (pt ps k).x) ∧ w'.cell? ⟨b, off + k * 2 + 1, none⟩ = some (iv (pt ps k).y)) (first | exact ⟨hB.drew, f1, f2, g1, g2⟩ | assumption) (fail)
      go_split_ands
      go_wp2
      · have h : eqZ q (pt ps k) = true := by assumption
        go_ret
        refine ⟨k, rfl, ⟨fun _ => ?_, fun _ => by omega⟩, by assumption⟩
        have h' : q = pt ps k := by simpa [eqZ] using h
        rw [h']; exact pt_mem hlt
      · have h : eqZ q (pt ps k) = false := by assumption
        go_roundw
        case rel =>
          refine ⟨k + 1, by omega, by go_num, fun j hj => ?_, by assumption, by assumption, by assumption⟩
          by_cases e : j = k
          · subst e; intro h'; simp [eqZ, h'] at h
          · exact HN.out j (by omega)
        case measure => simp [intOf]; omega
    · go_wp2
      go_ret
      refine ⟨-1, rfl, ⟨fun h => absurd h (by omega), fun h => ?_⟩, hB⟩
      obtain ⟨j, hj, hq⟩ := List.getElem_of_mem h
      exact absurd ((pt_eq hj).trans hq) (hno j (by omega))

set_option maxHeartbeats 400000 in
/-- slices.Contains -/
theorem contains113 (A : Option Addr) (c : Nat) (ps : List Z2) (q : Z2) (w : World) (hsp : Sp w A ps) (hn : ps.length ≤ 1000000000) :
    Calls Try.prog 113 #[.slice A ps.length c, sv q] w fun e w' => e = .returned (.bool (decide (q ∈ ps))) ∧ Below w.heap.size w w' := by
  have HS := Lib.hid hsp; clear hsp
  go_enter Try.func113, Try.ntmps113
  go_wp2_with fail
  refine (index124 A c ps q _ (HS.out.later (below_alloc _ _)) hn).mono ?_
  rintro e w1 ⟨r, rfl, hr, hb1⟩
  have HR := Lib.hid hr; clear hr
  go_wp2
  go_ret
  exact ⟨ret_bool (by rw [Bool.eq_iff_iff]; simpa using HR.out), below_trans (below_alloc _ _) hb1⟩

def SomeIdx2 (f : Z2 → Bool) (ps : List Z2) (w : World) (e : Ending) (w' : World) : Prop := ∃ r : Int, e = .returned (iv r) ∧ (0 ≤ r ↔ ps.any f = true) ∧ Below w.heap.size w w'

set_option maxHeartbeats 400000 in
/-- slices.IndexFunc with polygon.outside -/
theorem indexFunc112 (A : Option Addr) (c : Nat) (ps : List Z2) (w : World) (hsp : Sp w A ps) (hn : ps.length ≤ 1000000000) :
    Calls Try.prog 112 #[.slice A ps.length c, .func (.func 79) #[] #[]] w (SomeIdx2 outZ ps w) := by
  have HS := Lib.hid hsp; clear hsp
  go_enter Try.func112, Try.ntmps112
  go_wp2
  go_loopw [5, 8] (fun _ i wr => ∃ k : Nat, k ≤ ps.length ∧ i = .int .i64 k ∧ (∀ j, j < k → outZ (pt ps j) = false) ∧ Below w.heap.size w wr) (fun _ i _ => ps.length - (intOf i).toNat)
  case atStart => exact ⟨0, Nat.zero_le _, rfl, fun j hj => absurd hj (by omega), Below.refl _ _⟩
  case round =>
    obtain ⟨k, hk, rfl, hno, hB⟩ := hrel
    by_cases hlt : k < ps.length
    · have hne : ps ≠ [] := by intro h; simp [h] at hlt
      obtain ⟨b, off, rfl, hc⟩ := HS.out.later hB hne
      obtain ⟨g1, g2⟩ := hc k hlt
      have HN := Lib.hid hno
      have HC := Lib.hid hc
      clear hno hc hne
      go_wp2_with fail
      refine (outside79 _ _).mono ?_
      rintro e w1 ⟨rfl, hb1⟩
      go_wp2
      · have h : outZ (pt ps k) = true := by assumption
        go_ret
        exact ⟨k, rfl, ⟨fun _ => List.any_eq_true.2 ⟨_, pt_mem hlt, h⟩, fun _ => by omega⟩, hB.trans (hb1.mono hB.size)⟩
      · have h : outZ (pt ps k) = false := by assumption
        go_roundw
        case rel =>
          refine ⟨k + 1, by omega, by go_num, fun j hj => ?_, hB.trans (hb1.mono hB.size)⟩
          by_cases e : j = k
          · subst e; exact h
          · exact HN.out j (by omega)
        case measure => simp [intOf]; omega
    · go_wp2
      go_ret
      refine ⟨-1, rfl, ⟨fun h => absurd h (by omega), fun h => ?_⟩, hB⟩
      obtain ⟨x, hx, hf⟩ := List.any_eq_true.1 h
      obtain ⟨j, hj, rfl⟩ := List.getElem_of_mem hx
      have := hno j (by omega)
      rw [pt_eq hj, hf] at this
      cases this

set_option maxHeartbeats 400000 in
/-- slices.ContainsFunc with polygon.outside -/
theorem containsFunc83 (A : Option Addr) (c : Nat) (ps : List Z2) (w : World) (hsp : Sp w A ps) (hn : ps.length ≤ 1000000000) :
    Calls Try.prog 83 #[.slice A ps.length c, .func (.func 79) #[] #[]] w fun e w' => e = .returned (.bool (ps.any outZ)) ∧ Below w.heap.size w w' := by
  have HS := Lib.hid hsp; clear hsp
  go_enter Try.func83, Try.ntmps83
  go_wp2_with fail
  refine (indexFunc112 A c ps _ HS.out hn).mono ?_
  rintro e w1 ⟨r, rfl, hr, hb1⟩
  have HR := Lib.hid hr; clear hr
  go_wp2
  go_ret
  exact ⟨ret_bool (by rw [Bool.eq_iff_iff]; simpa using HR.out), hb1⟩
end Go.Proofs.Ytfgeengdmbabhaa
