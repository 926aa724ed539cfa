import Derived.Test.YtfgeengdmbabhaaChecked
import Derived.WalkKit
import Derived.WalkLawsBesides
import Derived.WalkSpells
import Derived.Below
import Derived.Lib.Hide
import Derived.Deep.RegionHeld3
import Derived.Deep.DeepCutAuto
import Derived.Deep.DrawnRows
import Derived.KernelRfl
import Derived.Deep.QuietTactic
import Derived.BigQuiet
import Derived.RegionTactic
namespace Go.Proofs.Ytfgeengdmbabhaa
open Go.RowKit

/-- a spot -/
structure Z2 where
  x : Int
  y : Int
deriving DecidableEq

/-- its value -/
abbrev sv (p : Z2) : Value := .agg #[.int .i64 p.x, .int .i64 p.y]
abbrev iv (n : Int) : Value := .int .i64 n

/-- moderate coordinates -/
def Bd (p : Z2) : Prop := -4194304 ≤ p.x ∧ p.x ≤ 4194304 ∧ -4194304 ≤ p.y ∧ p.y ≤ 4194304

def crZ (a b c : Z2) : Int := (b.x - a.x) * (c.y - a.y) - (b.y - a.y) * (c.x - a.x)

theorem mul_bd {a b M N : Int} (h1 : -M ≤ a) (h2 : a ≤ M) (h3 : -N ≤ b) (h4 : b ≤ N) : -(M * N) ≤ a * b ∧ a * b ≤ M * N := by
  have e1 : 0 ≤ (M - a) * (N + b) := Int.mul_nonneg (by omega) (by omega)
  have e2 : 0 ≤ (M + a) * (N - b) := Int.mul_nonneg (by omega) (by omega)
  have e3 : 0 ≤ (M - a) * (N - b) := Int.mul_nonneg (by omega) (by omega)
  have e4 : 0 ≤ (M + a) * (N + b) := Int.mul_nonneg (by omega) (by omega)
  grind

theorem sub_bd {a b : Int} (h1 : -4194304 ≤ a) (h2 : a ≤ 4194304) (h3 : -4194304 ≤ b) (h4 : b ≤ 4194304) : -8388608 ≤ a - b ∧ a - b ≤ 8388608 := by omega

theorem prod_bd {a b : Int} (h1 : -8388608 ≤ a ∧ a ≤ 8388608) (h2 : -8388608 ≤ b ∧ b ≤ 8388608) : -70368744177664 ≤ a * b ∧ a * b ≤ 70368744177664 := by
  have := mul_bd (M := 8388608) (N := 8388608) h1.1 h1.2 h2.1 h2.2
  omega

theorem crZ_bd {a b c : Z2} (ha : Bd a) (hb : Bd b) (hc : Bd c) : -140737488355328 ≤ crZ a b c ∧ crZ a b c ≤ 140737488355328 := by
  unfold Bd at *
  have e1 := prod_bd (a := b.x - a.x) (b := c.y - a.y) (by omega) (by omega)
  have e2 := prod_bd (a := b.y - a.y) (b := c.x - a.x) (by omega) (by omega)
  unfold crZ; omega

theorem wrap64_in {n : Int} (h1 : -9223372036854775808 ≤ n) (h2 : n ≤ 9223372036854775807) : wrap64 n = n := by
  unfold wrap64; omega

theorem crZ_wrap {a b c : Z2} (ha : Bd a) (hb : Bd b) (hc : Bd c) :
    wrap64 (wrap64 ((b.x - a.x) * (c.y - a.y)) - wrap64 ((b.y - a.y) * (c.x - a.x))) = crZ a b c := by
  have h0 := crZ_bd ha hb hc
  unfold Bd at *
  have e1 := prod_bd (a := b.x - a.x) (b := c.y - a.y) (by omega) (by omega)
  have e2 := prod_bd (a := b.y - a.y) (b := c.x - a.x) (by omega) (by omega)
  rw [wrap64_in (n := (b.x - a.x) * (c.y - a.y)) (by omega) (by omega), wrap64_in (n := (b.y - a.y) * (c.x - a.x)) (by omega) (by omega)]
  unfold crZ at *
  rw [wrap64_in (by omega) (by omega)]

theorem ret_int {k : IntKind} {a b : Int} (h : a = b) : Ending.returned (.int k a) = .returned (.int k b) := by rw [h]
theorem ret_bool {a b : Bool} (h : a = b) : Ending.returned (.bool a) = .returned (.bool b) := by rw [h]

theorem bcell {W w1 : World} (hb : Below W.heap.size W w1) : (∀ b o, b < W.heap.size → w1.cell? ⟨b, o, none⟩ = W.cell? ⟨b, o, none⟩) ∧ (∀ b o, b < W.heap.size → w1.frozen? ⟨b, o, none⟩ = W.frozen? ⟨b, o, none⟩) :=
  ⟨fun b o h => hb.cell (p := ⟨b, o, none⟩) h, fun b o h => hb.frozen (p := ⟨b, o, none⟩) h⟩

theorem below_trans {a b c : World} (h : Below a.heap.size a b) (k : Below b.heap.size b c) : Below a.heap.size a c := h.trans (k.mono h.size)
theorem below_alloc (w : World) (o : Obj) : Below w.heap.size w (w.alloc o) := (Below.refl _ _).alloc (Nat.le_refl _) _
theorem below_drew (w : World) : Below w.heap.size w w.drew := (Below.refl _ _).drew

/-- the world behind the boxes of two, three and four spots -/
theorem boxes2 (w : World) (a b : Z2) : Below w.heap.size w ((w.alloc (.cells #[iv a.x, iv a.y] 30)).alloc (.cells #[iv b.x, iv b.y] 30))
    ∧ ((w.alloc (.cells #[iv a.x, iv a.y] 30)).alloc (.cells #[iv b.x, iv b.y] 30)).cell? ⟨w.heap.size, 0, none⟩ = some (iv a.x) ∧ ((w.alloc (.cells #[iv a.x, iv a.y] 30)).alloc (.cells #[iv b.x, iv b.y] 30)).cell? ⟨w.heap.size, 1, none⟩ = some (iv a.y)
    ∧ ((w.alloc (.cells #[iv a.x, iv a.y] 30)).alloc (.cells #[iv b.x, iv b.y] 30)).cell? ⟨w.heap.size + 1, 0, none⟩ = some (iv b.x) ∧ ((w.alloc (.cells #[iv a.x, iv a.y] 30)).alloc (.cells #[iv b.x, iv b.y] 30)).cell? ⟨w.heap.size + 1, 1, none⟩ = some (iv b.y) := by
  have h1 := below_alloc w (.cells #[iv a.x, iv a.y] 30)
  have h2 := below_alloc (w.alloc (.cells #[iv a.x, iv a.y] 30)) (.cells #[iv b.x, iv b.y] 30)
  exact ⟨below_trans h1 h2, cell_later h2 (by simp), cell_later h2 (by simp), by simp, by simp⟩
theorem boxes3 (w : World) (a b c : Z2) : Below w.heap.size w (((w.alloc (.cells #[iv a.x, iv a.y] 30)).alloc (.cells #[iv b.x, iv b.y] 30)).alloc (.cells #[iv c.x, iv c.y] 30))
    ∧ (((w.alloc (.cells #[iv a.x, iv a.y] 30)).alloc (.cells #[iv b.x, iv b.y] 30)).alloc (.cells #[iv c.x, iv c.y] 30)).cell? ⟨w.heap.size, 0, none⟩ = some (iv a.x) ∧ (((w.alloc (.cells #[iv a.x, iv a.y] 30)).alloc (.cells #[iv b.x, iv b.y] 30)).alloc (.cells #[iv c.x, iv c.y] 30)).cell? ⟨w.heap.size, 1, none⟩ = some (iv a.y)
    ∧ (((w.alloc (.cells #[iv a.x, iv a.y] 30)).alloc (.cells #[iv b.x, iv b.y] 30)).alloc (.cells #[iv c.x, iv c.y] 30)).cell? ⟨w.heap.size + 1, 0, none⟩ = some (iv b.x) ∧ (((w.alloc (.cells #[iv a.x, iv a.y] 30)).alloc (.cells #[iv b.x, iv b.y] 30)).alloc (.cells #[iv c.x, iv c.y] 30)).cell? ⟨w.heap.size + 1, 1, none⟩ = some (iv b.y)
    ∧ (((w.alloc (.cells #[iv a.x, iv a.y] 30)).alloc (.cells #[iv b.x, iv b.y] 30)).alloc (.cells #[iv c.x, iv c.y] 30)).cell? ⟨w.heap.size + 1 + 1, 0, none⟩ = some (iv c.x) ∧ (((w.alloc (.cells #[iv a.x, iv a.y] 30)).alloc (.cells #[iv b.x, iv b.y] 30)).alloc (.cells #[iv c.x, iv c.y] 30)).cell? ⟨w.heap.size + 1 + 1, 1, none⟩ = some (iv c.y) := by
  obtain ⟨h0, h1, h2, h3, h4⟩ := boxes2 w a b
  have hs : ((w.alloc (.cells #[iv a.x, iv a.y] 30)).alloc (.cells #[iv b.x, iv b.y] 30)).heap.size = w.heap.size + 1 + 1 := by simp
  generalize ((w.alloc (.cells #[iv a.x, iv a.y] 30)).alloc (.cells #[iv b.x, iv b.y] 30)) = W at *
  have k := below_alloc W (.cells #[iv c.x, iv c.y] 30)
  exact ⟨below_trans h0 k, cell_later k h1, cell_later k h2, cell_later k h3, cell_later k h4, by rw [← hs]; simp, by rw [← hs]; simp⟩
theorem boxes4 (w : World) (a b c d : Z2) : Below w.heap.size w ((((w.alloc (.cells #[iv a.x, iv a.y] 30)).alloc (.cells #[iv b.x, iv b.y] 30)).alloc (.cells #[iv c.x, iv c.y] 30)).alloc (.cells #[iv d.x, iv d.y] 30))
    ∧ ((((w.alloc (.cells #[iv a.x, iv a.y] 30)).alloc (.cells #[iv b.x, iv b.y] 30)).alloc (.cells #[iv c.x, iv c.y] 30)).alloc (.cells #[iv d.x, iv d.y] 30)).cell? ⟨w.heap.size, 0, none⟩ = some (iv a.x) ∧ ((((w.alloc (.cells #[iv a.x, iv a.y] 30)).alloc (.cells #[iv b.x, iv b.y] 30)).alloc (.cells #[iv c.x, iv c.y] 30)).alloc (.cells #[iv d.x, iv d.y] 30)).cell? ⟨w.heap.size, 1, none⟩ = some (iv a.y)
    ∧ ((((w.alloc (.cells #[iv a.x, iv a.y] 30)).alloc (.cells #[iv b.x, iv b.y] 30)).alloc (.cells #[iv c.x, iv c.y] 30)).alloc (.cells #[iv d.x, iv d.y] 30)).cell? ⟨w.heap.size + 1, 0, none⟩ = some (iv b.x) ∧ ((((w.alloc (.cells #[iv a.x, iv a.y] 30)).alloc (.cells #[iv b.x, iv b.y] 30)).alloc (.cells #[iv c.x, iv c.y] 30)).alloc (.cells #[iv d.x, iv d.y] 30)).cell? ⟨w.heap.size + 1, 1, none⟩ = some (iv b.y)
    ∧ ((((w.alloc (.cells #[iv a.x, iv a.y] 30)).alloc (.cells #[iv b.x, iv b.y] 30)).alloc (.cells #[iv c.x, iv c.y] 30)).alloc (.cells #[iv d.x, iv d.y] 30)).cell? ⟨w.heap.size + 1 + 1, 0, none⟩ = some (iv c.x) ∧ ((((w.alloc (.cells #[iv a.x, iv a.y] 30)).alloc (.cells #[iv b.x, iv b.y] 30)).alloc (.cells #[iv c.x, iv c.y] 30)).alloc (.cells #[iv d.x, iv d.y] 30)).cell? ⟨w.heap.size + 1 + 1, 1, none⟩ = some (iv c.y)
    ∧ ((((w.alloc (.cells #[iv a.x, iv a.y] 30)).alloc (.cells #[iv b.x, iv b.y] 30)).alloc (.cells #[iv c.x, iv c.y] 30)).alloc (.cells #[iv d.x, iv d.y] 30)).cell? ⟨w.heap.size + 1 + 1 + 1, 0, none⟩ = some (iv d.x) ∧ ((((w.alloc (.cells #[iv a.x, iv a.y] 30)).alloc (.cells #[iv b.x, iv b.y] 30)).alloc (.cells #[iv c.x, iv c.y] 30)).alloc (.cells #[iv d.x, iv d.y] 30)).cell? ⟨w.heap.size + 1 + 1 + 1, 1, none⟩ = some (iv d.y) := by
  obtain ⟨h0, h1, h2, h3, h4, h5, h6⟩ := boxes3 w a b c
  have hs : (((w.alloc (.cells #[iv a.x, iv a.y] 30)).alloc (.cells #[iv b.x, iv b.y] 30)).alloc (.cells #[iv c.x, iv c.y] 30)).heap.size = w.heap.size + 1 + 1 + 1 := by simp
  generalize (((w.alloc (.cells #[iv a.x, iv a.y] 30)).alloc (.cells #[iv b.x, iv b.y] 30)).alloc (.cells #[iv c.x, iv c.y] 30)) = W at *
  have k := below_alloc W (.cells #[iv d.x, iv d.y] 30)
  exact ⟨below_trans h0 k, cell_later k h1, cell_later k h2, cell_later k h3, cell_later k h4, cell_later k h5, cell_later k h6, by rw [← hs]; simp, by rw [← hs]; simp⟩

set_option maxHeartbeats 400000 in
/-- polygon.cross -/
theorem cross81 (a b c : Z2) (w : World) (ha : Bd a) (hb : Bd b) (hc : Bd c) :
    Calls Try.prog 81 #[sv a, sv b, sv c] w fun e w' => e = .returned (iv (crZ a b c)) ∧ Below w.heap.size w w' := by
  have HE := Lib.hid (crZ_wrap ha hb hc)
  obtain ⟨a1, a2, a3, a4⟩ := ha
  obtain ⟨b1, b2, b3, b4⟩ := hb
  obtain ⟨c1, c2, c3, c4⟩ := hc
  go_enter Try.func81, Try.ntmps81
  go_wp2
  go_ret
  exact ⟨ret_int HE.out, (((Below.refl _ _).alloc (Nat.le_refl _) _).alloc (by simp) _).alloc (by simp; omega) _⟩

def onZ (a b p : Z2) : Bool := decide (crZ a b p = 0) && decide (min a.x b.x ≤ p.x) && decide (p.x ≤ max a.x b.x) && decide (min a.y b.y ≤ p.y) && decide (p.y ≤ max a.y b.y)

set_option maxHeartbeats 400000 in
/-- polygon.on -/
theorem on80 (a b c : Z2) (w : World) (ha : Bd a) (hb : Bd b) (hc : Bd c) :
    Calls Try.prog 80 #[sv a, sv b, sv c] w fun e w' => e = .returned (.bool (onZ a b c)) ∧ Below w.heap.size w w' := by
  go_enter Try.func80, Try.ntmps80
  go_wp2_with fail
  refine (cross81 a b c _ ha hb hc).mono ?_
  rintro e w1 ⟨rfl, hb1⟩
  obtain ⟨hcl, hfr⟩ := bcell hb1
  go_wp2_with fail
  all_goals
    go_ret
    refine ⟨ret_bool ?_, (((((Below.refl _ _).alloc (Nat.le_refl _) _).alloc (by simp) _).alloc (by simp; omega) _).trans (hb1.mono (by simp; omega)))⟩
    rw [Bool.eq_iff_iff]
    simp [onZ]
    omega
/-- equality of spots -/
def eqZ (a b : Z2) : Bool := decide (a = b)
theorem eql30 (a b : Z2) (w : World) : (binOp .eql 30 (sv a) (sv b)).run Try.prog w = .ok (.bool (eqZ a b)) w := by
  obtain ⟨ax, ay⟩ := a
  obtain ⟨bx, bY⟩ := b
  by_cases h1 : ax = bx
  · subst h1
    by_cases h2 : ay = bY
    · subst h2; go_simp; simp [eqZ]
    · go_simp; simp [eqZ, h2]
  · go_simp; simp [eqZ, h1]
theorem neq30 (a b : Z2) (w : World) : (binOp .neq 30 (sv a) (sv b)).run Try.prog w = .ok (.bool (!eqZ a b)) w := by
  obtain ⟨ax, ay⟩ := a
  obtain ⟨bx, bY⟩ := b
  by_cases h1 : ax = bx
  · subst h1
    by_cases h2 : ay = bY
    · subst h2; go_simp; simp [eqZ]
    · go_simp; simp [eqZ, h2]
  · go_simp; simp [eqZ, h1]
end Go.Proofs.Ytfgeengdmbabhaa

namespace Go.Proofs.Ytfgeengdmbabhaa
open Go.RowKit
attribute [local go_sem ↓] Go.wp_at_zero Go.wp_at_succ

def sgn (n : Int) : Int := if n < 0 then -1 else if 0 < n then 1 else 0

/-- cmp.isNaN -/
theorem isNaN130 (n : Int) (w : World) : Calls Try.prog 130 #[iv n] w fun e w' => e = .returned (.bool false) ∧ w = w' := by
  go_enter Try.func130, Try.ntmps130
  go_wp2
  go_ret
  exact ⟨ret_bool (by simp), rfl⟩

set_option maxHeartbeats 400000 in
/-- cmp.Compare with 0 -/
theorem compare128 (n : Int) (w : World) : Calls Try.prog 128 #[iv n, iv 0] w fun e w' => e = .returned (iv (sgn n)) ∧ w = w' := by
  go_enter Try.func128, Try.ntmps128
  go_wp2_with fail
  refine (isNaN130 _ _).mono ?_
  rintro e w1 ⟨rfl, rfl⟩
  go_wp2_with fail
  refine (isNaN130 _ _).mono ?_
  rintro e w1 ⟨rfl, rfl⟩
  go_wp2
  all_goals
    go_ret
    exact ⟨ret_int (by unfold sgn; first | rw [if_pos (by assumption)] | (rw [if_neg (by omega), if_pos (by omega)]) | (rw [if_neg (by omega), if_neg (by omega)])), rfl⟩

def partedZ (a b c d : Z2) : Bool := decide (sgn (crZ a b c) * sgn (crZ a b d) < 0)

theorem sgn_bd (n : Int) : -1 ≤ sgn n ∧ sgn n ≤ 1 := by unfold sgn; split <;> (try split) <;> omega
theorem sgn_wrap (m n : Int) : IntKind.i64.wrap (sgn m * sgn n) = sgn m * sgn n := by
  have h1 := sgn_bd m
  have h2 := sgn_bd n
  have h3 := mul_bd h1.1 h1.2 h2.1 h2.2
  exact IntWalk.i64_in _ (by omega)
set_option maxHeartbeats 400000 in
/-- polygon.parted -/
theorem parted125 (a b c d : Z2) (w : World) (ha : Bd a) (hb : Bd b) (hc : Bd c) (hd : Bd d) :
    Calls Try.prog 125 #[sv a, sv b, sv c, sv d] w fun e w' => e = .returned (.bool (partedZ a b c d)) ∧ Below w.heap.size w w' := by
  go_enter Try.func125, Try.ntmps125
  go_wp2_with fail
  have F := boxes4 w a b c d
  revert F
  generalize ((((w.alloc (.cells #[iv a.x, iv a.y] 30)).alloc (.cells #[iv b.x, iv b.y] 30)).alloc (.cells #[iv c.x, iv c.y] 30)).alloc (.cells #[iv d.x, iv d.y] 30)) = W
  rintro ⟨hB, f1, f2, f3, f4, f5, f6, f7, f8⟩
  go_region_held3 (fun w' => Below w.heap.size w w' ∧ w'.cell? ⟨w.heap.size, 0, none⟩ = some (iv a.x) ∧ w'.cell? ⟨w.heap.size, 1, none⟩ = some (iv a.y) ∧ w'.cell? ⟨w.heap.size + 1, 0, none⟩ = some (iv b.x) ∧ w'.cell? ⟨w.heap.size + 1, 1, none⟩ = some (iv b.y)
      ∧ w'.cell? ⟨w.heap.size + 1 + 1, 0, none⟩ = some (iv c.x) ∧ w'.cell? ⟨w.heap.size + 1 + 1, 1, none⟩ = some (iv c.y) ∧ w'.cell? ⟨w.heap.size + 1 + 1 + 1, 0, none⟩ = some (iv d.x) ∧ w'.cell? ⟨w.heap.size + 1 + 1 + 1, 1, none⟩ = some (iv d.y))
    (first | exact ⟨hB.drew, f1, f2, f3, f4, f5, f6, f7, f8⟩ | assumption | (go_split_ands; refine ⟨below_trans (by assumption) hbq, ?_, ?_, ?_, ?_, ?_, ?_, ?_, ?_⟩ <;> exact cell_later hbq (by assumption)))
    (first | (go_at_call 81; refine (cross81 _ _ _ _ ?_ ?_ ?_).mono ?_; (assumption); (assumption); (assumption); rintro e w' ⟨rfl, hbq⟩) | (go_at_call 128; refine (compare128 _ _).mono ?_; rintro e w' ⟨rfl, rfl⟩))
  go_split_ands
  go_wp2
  go_ret
  exact ⟨ret_bool (by unfold partedZ; rw [sgn_wrap]), by assumption⟩

def meetZ (a b c d : Z2) : Bool := onZ a b c || onZ a b d || onZ c d a || onZ c d b || (partedZ a b c d && partedZ c d a b)

set_option maxHeartbeats 1000000 in
/-- polygon.meet -/
theorem meet115 (a b c d : Z2) (w : World) (ha : Bd a) (hb : Bd b) (hc : Bd c) (hd : Bd d) :
    Calls Try.prog 115 #[sv a, sv b, sv c, sv d] w fun e w' => e = .returned (.bool (meetZ a b c d)) ∧ Below w.heap.size w w' := by
  go_enter Try.func115, Try.ntmps115
  go_wp2_with fail
  have F := boxes4 w a b c d
  revert F
  generalize ((((w.alloc (.cells #[iv a.x, iv a.y] 30)).alloc (.cells #[iv b.x, iv b.y] 30)).alloc (.cells #[iv c.x, iv c.y] 30)).alloc (.cells #[iv d.x, iv d.y] 30)) = W
  rintro ⟨hB, f1, f2, f3, f4, f5, f6, f7, f8⟩
  have hW := World.block_lt_of_cell? _ _ f8
  go_wp2_with (first | (go_at_call 80; refine (on80 _ _ _ _ ?_ ?_ ?_).mono ?_; (assumption); (assumption); (assumption); rintro e w' ⟨rfl, hbq⟩; replace hB := below_trans hB hbq; replace f1 := cell_later hbq f1; replace f2 := cell_later hbq f2; replace f3 := cell_later hbq f3; replace f4 := cell_later hbq f4; replace f5 := cell_later hbq f5; replace f6 := cell_later hbq f6; replace f7 := cell_later hbq f7; replace f8 := cell_later hbq f8; clear hbq) | (go_at_call 125; refine (parted125 _ _ _ _ _ ?_ ?_ ?_ ?_).mono ?_; (assumption); (assumption); (assumption); (assumption); rintro e w' ⟨rfl, hbq⟩; replace hB := below_trans hB hbq; replace f1 := cell_later hbq f1; replace f2 := cell_later hbq f2; replace f3 := cell_later hbq f3; replace f4 := cell_later hbq f4; replace f5 := cell_later hbq f5; replace f6 := cell_later hbq f6; replace f7 := cell_later hbq f7; replace f8 := cell_later hbq f8; clear hbq))
  all_goals
    go_ret
    exact ⟨ret_bool (by simp [meetZ, *]), hB⟩

def foldedZ (a b c : Z2) : Bool := decide (crZ a b c = 0) && decide (0 < (a.x - b.x) * (c.x - b.x) + (a.y - b.y) * (c.y - b.y))

theorem dot_wrap {a b c : Z2} (ha : Bd a) (hb : Bd b) (hc : Bd c) :
    wrap64 (wrap64 ((a.x - b.x) * (c.x - b.x)) + wrap64 ((a.y - b.y) * (c.y - b.y))) = (a.x - b.x) * (c.x - b.x) + (a.y - b.y) * (c.y - b.y) := by
  unfold Bd at *
  have e1 := prod_bd (a := a.x - b.x) (b := c.x - b.x) (by omega) (by omega)
  have e2 := prod_bd (a := a.y - b.y) (b := c.y - b.y) (by omega) (by omega)
  rw [wrap64_in (n := (a.x - b.x) * (c.x - b.x)) (by omega) (by omega), wrap64_in (n := (a.y - b.y) * (c.y - b.y)) (by omega) (by omega)]
  rw [wrap64_in (by omega) (by omega)]

set_option maxHeartbeats 400000 in
/-- polygon.folded -/
theorem folded114 (a b c : Z2) (w : World) (ha : Bd a) (hb : Bd b) (hc : Bd c) :
    Calls Try.prog 114 #[sv a, sv b, sv c] w fun e w' => e = .returned (.bool (foldedZ a b c)) ∧ Below w.heap.size w w' := by
  have HE := Lib.hid (dot_wrap ha hb hc)
  go_enter Try.func114, Try.ntmps114
  go_wp2_with fail
  refine (cross81 a b c _ ha hb hc).mono ?_
  rintro e w1 ⟨rfl, hb1⟩
  obtain ⟨a1, a2, a3, a4⟩ := ha
  obtain ⟨b1, b2, b3, b4⟩ := hb
  obtain ⟨c1, c2, c3, c4⟩ := hc
  have F := boxes3 w a b c
  revert F hb1
  generalize (((w.alloc (.cells #[iv a.x, iv a.y] 30)).alloc (.cells #[iv b.x, iv b.y] 30)).alloc (.cells #[iv c.x, iv c.y] 30)) = W
  rintro hb1 ⟨hB, f1, f2, f3, f4, f5, f6⟩
  replace hB := below_trans hB hb1; replace f1 := cell_later hb1 f1; replace f2 := cell_later hb1 f2; replace f3 := cell_later hb1 f3; replace f4 := cell_later hb1 f4; replace f5 := cell_later hb1 f5; replace f6 := cell_later hb1 f6
  clear hb1
  go_wp2
  all_goals
    go_ret
    refine ⟨ret_bool ?_, hB⟩
    have H := HE.out
    simp only [foldedZ]
    first | (rw [← H]; simp [*]; done) | (simp [*]; done)

def outZ (a : Z2) : Bool := decide (a.x < -1048576) || decide (1048576 < a.x) || decide (a.y < -1048576) || decide (1048576 < a.y)

set_option maxHeartbeats 400000 in
/-- polygon.outside -/
theorem outside79 (a : Z2) (w : World) : Calls Try.prog 79 #[sv a] w fun e w' => e = .returned (.bool (outZ a)) ∧ Below w.heap.size w w' := by
  go_enter Try.func79, Try.ntmps79
  go_wp2
  all_goals
    go_ret
    refine ⟨ret_bool ?_, below_alloc _ _⟩
    rw [Bool.eq_iff_iff]
    simp [outZ]
    try omega

/-- the k-th spot of a list -/
def pt (ps : List Z2) (k : Nat) : Z2 := ps.getD k ⟨0, 0⟩
theorem pt_eq {ps : List Z2} {k : Nat} (h : k < ps.length) : pt ps k = ps[k] := by simp [pt, h]
theorem pt_mem {ps : List Z2} {k : Nat} (h : k < ps.length) : pt ps k ∈ ps := by rw [pt_eq h]; exact List.getElem_mem h

/-- a slice at the address A reads as the list ps -/
def Sp (w : World) (A : Option Addr) (ps : List Z2) : Prop :=
  ps ≠ [] → ∃ b off, A = some ⟨b, off, none⟩ ∧ ∀ k, k < ps.length → w.cell? ⟨b, off + k * 2, none⟩ = some (iv (pt ps k).x) ∧ w.cell? ⟨b, off + k * 2 + 1, none⟩ = some (iv (pt ps k).y)

theorem Sp.later {w w' : World} {A : Option Addr} {ps : List Z2} (h : Sp w A ps) (hb : Below w.heap.size w w') : Sp w' A ps := fun hne => by
  obtain ⟨b, off, hA, hc⟩ := h hne
  exact ⟨b, off, hA, fun k hk => ⟨cell_later hb (hc k hk).1, cell_later hb (hc k hk).2⟩⟩
theorem Sp.drew {w : World} {A : Option Addr} {ps : List Z2} (h : Sp w A ps) : Sp w.drew A ps := h

def SomeIdx (q : Z2) (ps : List Z2) (w : World) (e : Ending) (w' : World) : Prop := ∃ r : Int, e = .returned (iv r) ∧ (0 ≤ r ↔ q ∈ ps) ∧ Below w.heap.size w w'

set_option maxHeartbeats 400000 in
/-- slices.Index -/
theorem index124 (A : Option Addr) (c : Nat) (ps : List Z2) (q : Z2) (w : World) (hsp : Sp w A ps) (hn : ps.length ≤ 1000000000) :
    Calls Try.prog 124 #[.slice A ps.length c, sv q] w (SomeIdx q ps w) := by
  have HS := Lib.hid hsp; clear hsp
  go_enter Try.func124, Try.ntmps124
  go_wp2
  go_loopw [5, 8] (fun _ i wr => ∃ k : Nat, k ≤ ps.length ∧ i = .int .i64 k ∧ (∀ j, j < k → pt ps j ≠ q) ∧ Below w.heap.size w wr ∧ wr.cell? ⟨w.heap.size, 0, none⟩ = some (iv q.x) ∧ wr.cell? ⟨w.heap.size, 1, none⟩ = some (iv q.y)) (fun _ i _ => ps.length - (intOf i).toNat)
  case atStart => exact ⟨0, Nat.zero_le _, rfl, fun j hj => absurd hj (by omega), below_alloc _ _, by simp, by simp⟩
  case round =>
    obtain ⟨k, hk, rfl, hno, hB, f1, f2⟩ := hrel
    by_cases hlt : k < ps.length
    · have hne : ps ≠ [] := by intro h; simp [h] at hlt
      obtain ⟨b, off, rfl, hc⟩ := HS.out.later hB hne
      obtain ⟨g1, g2⟩ := hc k hlt
      have HN := Lib.hid hno
      have HC := Lib.hid hc
      clear hno hc hne
      have he := fun w => eql30 q (pt ps k) w
      go_wp2
      go_region_held3 (fun w' => Below w.heap.size w w' ∧ w'.cell? ⟨w.heap.size, 0, none⟩ = some (iv q.x) ∧ w'.cell? ⟨w.heap.size, 1, none⟩ = some (iv q.y) ∧ w'.cell? ⟨b, off + k * 2, none⟩ = some (iv (pt ps k).x) ∧ w'.cell? ⟨b, off + k * 2 + 1, none⟩ = some (iv (pt ps k).y)) (first | exact ⟨hB.drew, f1, f2, g1, g2⟩ | assumption) (fail)
      go_split_ands
      go_wp2
      · have h : eqZ q (pt ps k) = true := by assumption
        go_ret
        refine ⟨k, rfl, ⟨fun _ => ?_, fun _ => by omega⟩, by assumption⟩
        have h' : q = pt ps k := by simpa [eqZ] using h
        rw [h']; exact pt_mem hlt
      · have h : eqZ q (pt ps k) = false := by assumption
        go_roundw
        case rel =>
          refine ⟨k + 1, by omega, by go_num, fun j hj => ?_, by assumption, by assumption, by assumption⟩
          by_cases e : j = k
          · subst e; intro h'; simp [eqZ, h'] at h
          · exact HN.out j (by omega)
        case measure => simp [intOf]; omega
    · go_wp2
      go_ret
      refine ⟨-1, rfl, ⟨fun h => absurd h (by omega), fun h => ?_⟩, hB⟩
      obtain ⟨j, hj, hq⟩ := List.getElem_of_mem h
      exact absurd ((pt_eq hj).trans hq) (hno j (by omega))

set_option maxHeartbeats 400000 in
/-- slices.Contains -/
theorem contains113 (A : Option Addr) (c : Nat) (ps : List Z2) (q : Z2) (w : World) (hsp : Sp w A ps) (hn : ps.length ≤ 1000000000) :
    Calls Try.prog 113 #[.slice A ps.length c, sv q] w fun e w' => e = .returned (.bool (decide (q ∈ ps))) ∧ Below w.heap.size w w' := by
  have HS := Lib.hid hsp; clear hsp
  go_enter Try.func113, Try.ntmps113
  go_wp2_with fail
  refine (index124 A c ps q _ (HS.out.later (below_alloc _ _)) hn).mono ?_
  rintro e w1 ⟨r, rfl, hr, hb1⟩
  have HR := Lib.hid hr; clear hr
  go_wp2
  go_ret
  exact ⟨ret_bool (by rw [Bool.eq_iff_iff]; simpa using HR.out), below_trans (below_alloc _ _) hb1⟩

def SomeIdx2 (f : Z2 → Bool) (ps : List Z2) (w : World) (e : Ending) (w' : World) : Prop := ∃ r : Int, e = .returned (iv r) ∧ (0 ≤ r ↔ ps.any f = true) ∧ Below w.heap.size w w'

set_option maxHeartbeats 400000 in
/-- slices.IndexFunc with polygon.outside -/
theorem indexFunc112 (A : Option Addr) (c : Nat) (ps : List Z2) (w : World) (hsp : Sp w A ps) (hn : ps.length ≤ 1000000000) :
    Calls Try.prog 112 #[.slice A ps.length c, .func (.func 79) #[] #[]] w (SomeIdx2 outZ ps w) := by
  have HS := Lib.hid hsp; clear hsp
  go_enter Try.func112, Try.ntmps112
  go_wp2
  go_loopw [5, 8] (fun _ i wr => ∃ k : Nat, k ≤ ps.length ∧ i = .int .i64 k ∧ (∀ j, j < k → outZ (pt ps j) = false) ∧ Below w.heap.size w wr) (fun _ i _ => ps.length - (intOf i).toNat)
  case atStart => exact ⟨0, Nat.zero_le _, rfl, fun j hj => absurd hj (by omega), Below.refl _ _⟩
  case round =>
    obtain ⟨k, hk, rfl, hno, hB⟩ := hrel
    by_cases hlt : k < ps.length
    · have hne : ps ≠ [] := by intro h; simp [h] at hlt
      obtain ⟨b, off, rfl, hc⟩ := HS.out.later hB hne
      obtain ⟨g1, g2⟩ := hc k hlt
      have HN := Lib.hid hno
      have HC := Lib.hid hc
      clear hno hc hne
      go_wp2_with fail
      refine (outside79 _ _).mono ?_
      rintro e w1 ⟨rfl, hb1⟩
      go_wp2
      · have h : outZ (pt ps k) = true := by assumption
        go_ret
        exact ⟨k, rfl, ⟨fun _ => List.any_eq_true.2 ⟨_, pt_mem hlt, h⟩, fun _ => by omega⟩, hB.trans (hb1.mono hB.size)⟩
      · have h : outZ (pt ps k) = false := by assumption
        go_roundw
        case rel =>
          refine ⟨k + 1, by omega, by go_num, fun j hj => ?_, hB.trans (hb1.mono hB.size)⟩
          by_cases e : j = k
          · subst e; exact h
          · exact HN.out j (by omega)
        case measure => simp [intOf]; omega
    · go_wp2
      go_ret
      refine ⟨-1, rfl, ⟨fun h => absurd h (by omega), fun h => ?_⟩, hB⟩
      obtain ⟨x, hx, hf⟩ := List.any_eq_true.1 h
      obtain ⟨j, hj, rfl⟩ := List.getElem_of_mem hx
      have := hno j (by omega)
      rw [pt_eq hj, hf] at this
      cases this

set_option maxHeartbeats 400000 in
/-- slices.ContainsFunc with polygon.outside -/
theorem containsFunc83 (A : Option Addr) (c : Nat) (ps : List Z2) (w : World) (hsp : Sp w A ps) (hn : ps.length ≤ 1000000000) :
    Calls Try.prog 83 #[.slice A ps.length c, .func (.func 79) #[] #[]] w fun e w' => e = .returned (.bool (ps.any outZ)) ∧ Below w.heap.size w w' := by
  have HS := Lib.hid hsp; clear hsp
  go_enter Try.func83, Try.ntmps83
  go_wp2_with fail
  refine (indexFunc112 A c ps _ HS.out hn).mono ?_
  rintro e w1 ⟨r, rfl, hr, hb1⟩
  have HR := Lib.hid hr; clear hr
  go_wp2
  go_ret
  exact ⟨ret_bool (by rw [Bool.eq_iff_iff]; simpa using HR.out), hb1⟩
end Go.Proofs.Ytfgeengdmbabhaa

namespace Go.Proofs.Ytfgeengdmbabhaa
open Go.RowKit
attribute [local go_sem ↓] Go.wp_at_zero Go.wp_at_succ

theorem contains113' (A : Option Addr) (n c : Nat) (ps : List Z2) (q : Z2) (w : World) (hl : ps.length = n) (hsp : Sp w A ps) (hn : n ≤ 1000000000) :
    Calls Try.prog 113 #[.slice A n c, sv q] w fun e w' => e = .returned (.bool (decide (q ∈ ps))) ∧ Below w.heap.size w w' := by
  subst hl; exact contains113 A c ps q w hsp hn

theorem Sp.take {w : World} {A : Option Addr} {ps : List Z2} (h : Sp w A ps) (n : Nat) : Sp w A (ps.take n) := fun hne => by
  obtain ⟨b, off, hA, hc⟩ := h (by rintro rfl; simp at hne)
  refine ⟨b, off, hA, fun k hk => ?_⟩
  have hk' : k < n ∧ k < ps.length := by simp at hk; omega
  have e : pt (ps.take n) k = pt ps k := by simp [pt, hk'.1]
  rw [e]; exact hc k hk'.2

def stepZ (ps : List Z2) (i k : Nat) : Bool := decide (k < i + 2) || decide ((k + 1) % ps.length = i) || !meetZ (pt ps i) (pt ps ((i + 1) % ps.length)) (pt ps k) (pt ps ((k + 1) % ps.length))
def rowZ (ps : List Z2) (i : Nat) : Bool := !foldedZ (pt ps i) (pt ps ((i + 1) % ps.length)) (pt ps ((i + 2) % ps.length)) && (List.range ps.length).all (stepZ ps i)
def simpleZ (ps : List Z2) : Bool := (List.range ps.length).all (fun i => !(ps.take i).contains (pt ps i)) && (List.range ps.length).all (rowZ ps)

theorem bd_pt {ps : List Z2} (h : ∀ p ∈ ps, Bd p) (k : Nat) : Bd (pt ps k) := by
  by_cases hk : k < ps.length
  · exact h _ (pt_mem hk)
  · have : pt ps k = ⟨0, 0⟩ := by simp [pt, hk]
    rw [this]; unfold Bd; simp

def SomeBool (P : Bool → Prop) (w : World) (e : Ending) (w' : World) : Prop := ∃ b : Bool, e = .returned (.bool b) ∧ P b ∧ Below w.heap.size w w'

theorem boxes1 (w : World) (a : Z2) : Below w.heap.size w (w.alloc (.cells #[iv a.x, iv a.y] 30)) ∧ (w.alloc (.cells #[iv a.x, iv a.y] 30)).cell? ⟨w.heap.size, 0, none⟩ = some (iv a.x) ∧ (w.alloc (.cells #[iv a.x, iv a.y] 30)).cell? ⟨w.heap.size, 1, none⟩ = some (iv a.y) :=
  ⟨below_alloc _ _, by simp, by simp⟩

theorem modC (k j n : Nat) : ((k : Int) + (j : Int)) % (n : Int) = (((k + j) % n : Nat) : Int) := by
  rw [Int.natCast_emod]; rfl
theorem mod_one (k n : Nat) : ((k : Int) + 1) % (n : Int) = (((k + 1) % n : Nat) : Int) := modC k 1 n
theorem mod_two (k n : Nat) : ((k : Int) + 2) % (n : Int) = (((k + 2) % n : Nat) : Int) := modC k 2 n

theorem simpleZ_dup {ps : List Z2} {k : Nat} (hk : k < ps.length) (h : pt ps k ∈ ps.take k) : simpleZ ps = false := by
  cases hs : simpleZ ps with
  | false => rfl
  | true =>
    unfold simpleZ at hs
    rw [Bool.and_eq_true, List.all_eq_true] at hs
    have := hs.1 k (by simpa using hk)
    simp [h] at this
theorem simpleZ_row {ps : List Z2} {k : Nat} (hk : k < ps.length) (h : rowZ ps k = false) : simpleZ ps = false := by
  cases hs : simpleZ ps with
  | false => rfl
  | true =>
    unfold simpleZ at hs
    rw [Bool.and_eq_true, List.all_eq_true, List.all_eq_true] at hs
    have := hs.2 k (by simpa using hk)
    rw [h] at this; cases this
theorem rowZ_step {ps : List Z2} {i k : Nat} (hk : k < ps.length) (h : stepZ ps i k = false) : rowZ ps i = false := by
  cases hs : rowZ ps i with
  | false => rfl
  | true =>
    unfold rowZ at hs
    rw [Bool.and_eq_true, List.all_eq_true] at hs
    have := hs.2 k (by simpa using hk)
    rw [h] at this; cases this

theorem rowZ_ok {ps : List Z2} {k : Nat} (h : foldedZ (pt ps k) (pt ps ((k + 1) % ps.length)) (pt ps ((k + 2) % ps.length)) = false) (hs : ∀ m, m < ps.length → stepZ ps k m = true) : rowZ ps k = true := by
  unfold rowZ
  rw [h, Bool.and_eq_true, List.all_eq_true]
  exact ⟨rfl, fun m hm => hs m (by simpa using hm)⟩
theorem rowZ_fold {ps : List Z2} {k : Nat} (h : foldedZ (pt ps k) (pt ps ((k + 1) % ps.length)) (pt ps ((k + 2) % ps.length)) = true) : rowZ ps k = false := by
  unfold rowZ; rw [h]; rfl
theorem simpleZ_ok {ps : List Z2} (h1 : ∀ j, j < ps.length → (!(ps.take j).contains (pt ps j)) = true) (h2 : ∀ j, j < ps.length → rowZ ps j = true) : simpleZ ps = true := by
  unfold simpleZ
  rw [Bool.and_eq_true, List.all_eq_true, List.all_eq_true]
  exact ⟨fun j hj => h1 j (by simpa using hj), fun j hj => h2 j (by simpa using hj)⟩
theorem last_of {j k n : Nat} (h : (j + 1) % n = k) (h1 : k + 2 ≤ j) (h2 : j < n) : j + 1 = n := by
  by_cases e : j + 1 < n
  · rw [Nat.mod_eq_of_lt e] at h; omega
  · omega
theorem stepZ_low {ps : List Z2} {i k : Nat} (h : k < i + 2) : stepZ ps i k = true := by simp [stepZ, h]
theorem stepZ_wrap {ps : List Z2} {i k : Nat} (h : (k + 1) % ps.length = i) : stepZ ps i k = true := by simp [stepZ, h]
theorem stepZ_yes {ps : List Z2} {i k : Nat} (h : meetZ (pt ps i) (pt ps ((i + 1) % ps.length)) (pt ps k) (pt ps ((k + 1) % ps.length)) = false) : stepZ ps i k = true := by simp [stepZ, h]
theorem stepZ_no {ps : List Z2} {i k : Nat} (h1 : i + 2 ≤ k) (h2 : (k + 1) % ps.length ≠ i) (h : meetZ (pt ps i) (pt ps ((i + 1) % ps.length)) (pt ps k) (pt ps ((k + 1) % ps.length)) = true) : stepZ ps i k = false := by
  simp [stepZ, h, h2]; omega

set_option maxHeartbeats 1000000 in
/-- polygon.simple -/
theorem simple84 (A : Option Addr) (c : Nat) (ps : List Z2) (w : World) (hsp : Sp w A ps) (hn : ps.length ≤ 1000000000) (hcap : ps.length ≤ c) (hbd : ∀ p ∈ ps, Bd p) :
    Calls Try.prog 84 #[.slice A ps.length c] w (SomeBool (· = simpleZ ps) w) := by
  have HS := Lib.hid hsp; clear hsp
  have HD := Lib.hid hbd; clear hbd
  go_enter Try.func84, Try.ntmps84
  go_wp2
  go_loopw [14] (fun i wr => ∃ k : Nat, k ≤ ps.length ∧ i = .int .i64 k ∧ (∀ j, j < k → (!(ps.take j).contains (pt ps j)) = true) ∧ Below w.heap.size w wr) (fun i _ => ps.length - (intOf i).toNat)
  case atStart => exact ⟨0, Nat.zero_le _, rfl, fun j hj => absurd hj (by omega), Below.refl _ _⟩
  case round =>
    obtain ⟨k, hk, rfl, hno, hB⟩ := hrel
    have HN := Lib.hid hno
    clear hno
    by_cases hlt : k < ps.length
    · have hne : ps ≠ [] := by intro h; simp [h] at hlt
      obtain ⟨b, off, rfl, hc⟩ := HS.out.later hB hne
      obtain ⟨g1, g2⟩ := hc k hlt
      have HC := Lib.hid hc
      clear hc hne
      have i1 : (0 : Int) ≤ (k : Int) := by omega
      have i2 : (k : Int) ≤ (c : Int) := by omega
      go_wp2
      have F := boxes1 wr (pt ps k)
      revert F
      generalize wr.alloc (.cells #[iv (pt ps k).x, iv (pt ps k).y] 30) = W
      rintro ⟨hW, f1, f2⟩
      have hB' := hB.trans (hW.mono hB.size)
      go_region_held3 (fun w' => Below w.heap.size w w' ∧ w'.cell? ⟨wr.heap.size, 0, none⟩ = some (iv (pt ps k).x) ∧ w'.cell? ⟨wr.heap.size, 1, none⟩ = some (iv (pt ps k).y))
        (first | exact ⟨hB'.drew, f1, f2⟩ | assumption | (go_split_ands; refine ⟨below_trans (by assumption) hbq, ?_, ?_⟩ <;> exact cell_later hbq (by assumption)))
        (first | (go_at_call 113; refine (contains113' _ k _ (ps.take k) (pt ps k) _ ?_ ?_ ?_).mono ?_; (simp; omega); exact ((HS.out.later hB').drew).take k; omega; rintro e w' ⟨rfl, hbq⟩))
      go_split_ands
      go_wp2
      · have h : pt ps k ∈ ps.take k := by assumption
        go_ret
        exact ⟨false, rfl, (simpleZ_dup hlt h).symm, by assumption⟩
      · have h : ¬ pt ps k ∈ ps.take k := by assumption
        go_roundw
        case rel =>
          refine ⟨k + 1, by omega, by go_num, fun j hj => ?_, by assumption⟩
          by_cases e : j = k
          · subst e; simp [h]
          · exact HN.out j (by omega)
        case measure => simp [intOf]; omega
    · go_wp2
      obtain rfl : k = ps.length := by omega
      go_loopw [27] (fun i wr2 => ∃ k : Nat, k ≤ ps.length ∧ i = .int .i64 k ∧ (∀ j, j < k → rowZ ps j = true) ∧ Below w.heap.size w wr2) (fun i _ => ps.length - (intOf i).toNat)
      case atStart => exact ⟨0, Nat.zero_le _, rfl, fun j hj => absurd hj (by omega), hB⟩
      case round =>
        clear hB
        rename_i wr2 _ _ _
        obtain ⟨k, hk, rfl, hno, hB⟩ := hrel
        have HR := Lib.hid hno
        clear hno
        by_cases hlt : k < ps.length
        · have hne : ps ≠ [] := by intro h; simp [h] at hlt
          obtain ⟨b, off, rfl, hc⟩ := HS.out.later hB hne
          have hp : 0 < ps.length := by omega
          have l1 : (k + 1) % ps.length < ps.length := Nat.mod_lt _ hp
          have l2 : (k + 2) % ps.length < ps.length := Nat.mod_lt _ hp
          obtain ⟨g1, g2⟩ := hc k hlt
          obtain ⟨g3, g4⟩ := hc _ l1
          obtain ⟨g5, g6⟩ := hc _ l2
          have m1 := mod_one k ps.length
          have m2 := mod_two k ps.length
          generalize e1 : (k + 1) % ps.length = k1 at *
          generalize e2 : (k + 2) % ps.length = k2 at *
          have E1 := Lib.hid e1
          have E2 := Lib.hid e2
          have HC := Lib.hid hc
          clear hc e1 e2
          have nb : b < wr.heap.size := World.block_lt_of_cell? _ _ g1
          have nb2 : b ≠ wr.heap.size := by omega
          have nb3 : b ≠ wr.heap.size + 1 := by omega
          have q1 : (0 : Int) ≤ (k2 : Int) := by omega
          have q2 : (k2 : Int) < (ps.length : Int) := by omega
          have q3 : ((ps.length : Int) == 0) = false := beq_eq_false_iff_ne.2 (by omega)
          have q4 : ¬ ((ps.length : Int) = 0) := by omega
          have t2 : ((k : Int) + 2).tmod (ps.length : Int) = (k2 : Int) := by rw [Int.tmod_eq_emod_of_nonneg (by omega)]; exact m2
          have s2 : IntKind.i64.wrap ((k : Int) + 2) = (k : Int) + 2 := IntWalk.i64_in _ (by omega)
          go_wp2_with fail
          have F := boxes2 wr (pt ps k) (pt ps k1)
          revert F
          generalize ((wr.alloc (.cells #[iv (pt ps k).x, iv (pt ps k).y] 30)).alloc (.cells #[iv (pt ps k1).x, iv (pt ps k1).y] 30)) = W
          rintro ⟨hW, f1, f2, f3, f4⟩
          have hB' := hB.trans (hW.mono hB.size)
          replace g1 := cell_later hW g1; replace g2 := cell_later hW g2; replace g3 := cell_later hW g3; replace g4 := cell_later hW g4; replace g5 := cell_later hW g5; replace g6 := cell_later hW g6
          go_region_held3 (fun w' => Below w.heap.size w w' ∧ w'.cell? ⟨wr.heap.size, 0, none⟩ = some (iv (pt ps k).x) ∧ w'.cell? ⟨wr.heap.size, 1, none⟩ = some (iv (pt ps k).y) ∧ w'.cell? ⟨wr.heap.size + 1, 0, none⟩ = some (iv (pt ps k1).x) ∧ w'.cell? ⟨wr.heap.size + 1, 1, none⟩ = some (iv (pt ps k1).y)
              ∧ w'.cell? ⟨b, off + k2 * 2, none⟩ = some (iv (pt ps k2).x) ∧ w'.cell? ⟨b, off + k2 * 2 + 1, none⟩ = some (iv (pt ps k2).y))
            (first | exact ⟨hB'.drew, f1, f2, f3, f4, g5, g6⟩ | assumption | (go_split_ands; refine ⟨below_trans (by assumption) hbq, ?_, ?_, ?_, ?_, ?_, ?_⟩ <;> exact cell_later hbq (by assumption)))
            (first | (go_at_call 114; refine (folded114 (pt ps k) (pt ps k1) (pt ps k2) _ (bd_pt HD.out _) (bd_pt HD.out _) (bd_pt HD.out _)).mono ?_; rintro e w' ⟨rfl, hbq⟩))
          go_split_ands
          clear s2 t2 m1 m2
          cases hfb : foldedZ (pt ps k) (pt ps k1) (pt ps k2)
          case true =>
            have HF := Lib.hid hfb
            clear hfb
            go_wp2
            go_ret
            refine ⟨false, rfl, (simpleZ_row hlt (rowZ_fold ?_)).symm, by assumption⟩
            rw [E1.out, E2.out]; exact HF.out
          case false =>
            have HF := Lib.hid hfb
            clear hfb
            go_wp2
            obtain ⟨wo, rfl⟩ : ∃ wo : World, wo = wr := ⟨_, rfl⟩
            go_loopw [9] (fun v wr3 => ∃ j : Nat, k + 2 ≤ j ∧ v = .int .i64 j ∧ j ≤ ps.length + 2 ∧ (∀ m, m < j → m < ps.length → stepZ ps k m = true) ∧ Below w.heap.size w wr3 ∧ wr3.cell? ⟨wo.heap.size, 0, none⟩ = some (iv (pt ps k).x) ∧ wr3.cell? ⟨wo.heap.size, 1, none⟩ = some (iv (pt ps k).y) ∧ wr3.cell? ⟨wo.heap.size + 1, 0, none⟩ = some (iv (pt ps k1).x) ∧ wr3.cell? ⟨wo.heap.size + 1, 1, none⟩ = some (iv (pt ps k1).y)) (fun v _ => ps.length - (intOf v).toNat)
            case atStart => exact ⟨k + 2, Nat.le_refl _, by go_num, by omega, fun m hm _ => stepZ_low hm, by assumption, by assumption, by assumption, by assumption, by assumption⟩
            case round =>
              obtain ⟨j, hj, rfl, hj2, hst, hB3, f1', f2', f3', f4'⟩ := hrel
              have HT := Lib.hid hst
              clear hst
              by_cases hjn : j < ps.length
              · obtain ⟨_, _, hA, hc⟩ := HS.out.later hB3 hne
                injection hA with hA
                injection hA with hA1 hA2
                subst hA1 hA2
                have l3 : (j + 1) % ps.length < ps.length := Nat.mod_lt _ hp
                obtain ⟨g7, g8⟩ := hc j hjn
                obtain ⟨g9, g10⟩ := hc _ l3
                have m3 := mod_one j ps.length
                generalize e3 : (j + 1) % ps.length = j1 at *
                have E3 := Lib.hid e3
                clear hc e3
                by_cases hjk : j1 = k
                · have hd : ((j1 : Int) != (k : Int)) = false := by simp [hjk]
                  have HJ := Lib.hid hjk
                  clear hjk
                  go_wp2
                  go_roundw
                  case rel =>
                    refine ⟨k + 1, by omega, by go_num, fun i hi => ?_, hB3⟩
                    by_cases e : i = k
                    · subst e
                      refine rowZ_ok (by rw [E1.out, E2.out]; exact HF.out) fun m hm => ?_
                      by_cases hmj : m < j
                      · exact HT.out m hmj hm
                      · have := last_of (E3.out.trans HJ.out) hj hjn
                        obtain rfl : m = j := by omega
                        exact stepZ_wrap (E3.out.trans HJ.out)
                    · exact HR.out i (by omega)
                  case measure => simp [intOf]; omega
                · have hd : ((j1 : Int) != (k : Int)) = true := by simp; omega
                  have HJ := Lib.hid hjk
                  clear hjk
                  have q5 : (0 : Int) ≤ (j1 : Int) := by omega
                  have q6 : (j1 : Int) < (ps.length : Int) := by omega
                  have t3 : ((j : Int) + 1).tmod (ps.length : Int) = (j1 : Int) := by rw [Int.tmod_eq_emod_of_nonneg (by omega)]; exact m3
                  have s3 : IntKind.i64.wrap ((j : Int) + 1) = (j : Int) + 1 := IntWalk.i64_in _ (by omega)
                  go_wp2
                  go_region_held3 (fun w' => Below w.heap.size w w' ∧ w'.cell? ⟨wo.heap.size, 0, none⟩ = some (iv (pt ps k).x) ∧ w'.cell? ⟨wo.heap.size, 1, none⟩ = some (iv (pt ps k).y) ∧ w'.cell? ⟨wo.heap.size + 1, 0, none⟩ = some (iv (pt ps k1).x) ∧ w'.cell? ⟨wo.heap.size + 1, 1, none⟩ = some (iv (pt ps k1).y)
                      ∧ w'.cell? ⟨b, off + j * 2, none⟩ = some (iv (pt ps j).x) ∧ w'.cell? ⟨b, off + j * 2 + 1, none⟩ = some (iv (pt ps j).y) ∧ w'.cell? ⟨b, off + j1 * 2, none⟩ = some (iv (pt ps j1).x) ∧ w'.cell? ⟨b, off + j1 * 2 + 1, none⟩ = some (iv (pt ps j1).y))
                    (first | exact ⟨hB3.drew, f1', f2', f3', f4', g7, g8, g9, g10⟩ | assumption | (go_split_ands; refine ⟨below_trans (by assumption) hbq, ?_, ?_, ?_, ?_, ?_, ?_, ?_, ?_⟩ <;> exact cell_later hbq (by assumption)))
                    (first | (go_at_call 115; refine (meet115 (pt ps k) (pt ps k1) (pt ps j) (pt ps j1) _ (bd_pt HD.out _) (bd_pt HD.out _) (bd_pt HD.out _) (bd_pt HD.out _)).mono ?_; rintro e w' ⟨rfl, hbq⟩))
                  go_split_ands
                  clear t3 s3
                  go_wp2
                  · have h : meetZ (pt ps k) (pt ps k1) (pt ps j) (pt ps j1) = true := by assumption
                    go_ret
                    refine ⟨false, rfl, (simpleZ_row hlt (rowZ_step hjn (stepZ_no hj ?_ ?_))).symm, by assumption⟩
                    · rw [E3.out]; exact HJ.out
                    · rw [E1.out, E3.out]; exact h
                  · have h : meetZ (pt ps k) (pt ps k1) (pt ps j) (pt ps j1) = false := by assumption
                    go_roundw
                    case rel =>
                      refine ⟨j + 1, by omega, by go_num, by omega, fun m hm hmn => ?_, by assumption, by assumption, by assumption, by assumption, by assumption⟩
                      by_cases e : m = j
                      · subst e; exact stepZ_yes (by rw [E1.out, E3.out]; exact h)
                      · exact HT.out m (by omega) hmn
                    case measure => simp [intOf]; omega
              · go_wp2
                go_roundw
                case rel =>
                  refine ⟨k + 1, by omega, by go_num, fun i hi => ?_, hB3⟩
                  by_cases e : i = k
                  · subst e
                    exact rowZ_ok (by rw [E1.out, E2.out]; exact HF.out) fun m hm => HT.out m (by omega) hm
                  · exact HR.out i (by omega)
                case measure => simp [intOf]; omega
        · go_wp2
          go_ret
          exact ⟨true, rfl, (simpleZ_ok (fun j hj => HN.out j hj) (fun j hj => HR.out j (by omega))).symm, hB⟩
end Go.Proofs.Ytfgeengdmbabhaa

namespace Go.Proofs.Ytfgeengdmbabhaa
open Go.RowKit
attribute [local go_sem ↓] Go.wp_at_zero Go.wp_at_succ

/-- the result of Check -/
def chkZ (ps : List Z2) : Int :=
  if 40 < ps.length then 5 else if ps.length < 3 then 11 else if ps.any outZ then 3 else if simpleZ ps then 0 else 11

theorem bd_of_in {ps : List Z2} (h : ps.any outZ = false) : ∀ p ∈ ps, Bd p := fun p hp => by
  have := List.any_eq_false.1 h p hp
  simp [outZ] at this
  unfold Bd; omega

set_option maxHeartbeats 400000 in
/-- polygon.Check -/
theorem check38 (A : Option Addr) (c : Nat) (ps : List Z2) (w : World) (hsp : Sp w A ps) (hcap : ps.length ≤ c) :
    Calls Try.prog 38 #[.slice A ps.length c] w fun e w' => e = .returned (iv (chkZ ps)) ∧ Below w.heap.size w w' := by
  have HS := Lib.hid hsp; clear hsp
  by_cases h1 : 40 < ps.length
  · have HE := Lib.hid (show chkZ ps = 5 by simp [chkZ, h1])
    go_enter Try.func38, Try.ntmps38
    go_wp2
    go_ret
    exact ⟨ret_int HE.out.symm, Below.refl _ _⟩
  by_cases h2 : ps.length < 3
  · have HE := Lib.hid (show chkZ ps = 11 by simp [chkZ, h1, h2])
    go_enter Try.func38, Try.ntmps38
    go_wp2
    go_ret
    exact ⟨ret_int HE.out.symm, Below.refl _ _⟩
  cases h3 : ps.any outZ
  case true =>
    have HE := Lib.hid (show chkZ ps = 3 by unfold chkZ; rw [if_neg h1, if_neg h2, h3]; rfl)
    have H3 := Lib.hid h3
    clear h3
    go_enter Try.func38, Try.ntmps38
    go_wp2_with fail
    refine (containsFunc83 A c ps _ HS.out (by omega)).mono ?_
    rintro e w1 ⟨rfl, hb1⟩
    rw [H3.out]
    go_wp2
    go_ret
    exact ⟨ret_int HE.out.symm, hb1⟩
  case false =>
    have HD := Lib.hid (bd_of_in h3)
    have HE := Lib.hid (show chkZ ps = if simpleZ ps then 0 else 11 by unfold chkZ; rw [if_neg h1, if_neg h2, h3]; rfl)
    have H3 := Lib.hid h3
    clear h3
    go_enter Try.func38, Try.ntmps38
    go_wp2_with fail
    refine (containsFunc83 A c ps _ HS.out (by omega)).mono ?_
    rintro e w1 ⟨rfl, hb1⟩
    rw [H3.out]
    go_wp2_with fail
    refine (simple84 A c ps _ (HS.out.later hb1) (by omega) hcap HD.out).mono ?_
    rintro e w2 ⟨b, rfl, hb, hb2⟩
    have HB := Lib.hid hb
    clear hb
    cases b
    all_goals
      go_wp2
      go_ret
      exact ⟨ret_int (by rw [HE.out, ← HB.out]; rfl), below_trans hb1 hb2⟩

/-- the turn at a vertex -/
def bendZ (ps : List Z2) (i : Nat) : Int := crZ (pt ps ((i + ps.length - 1) % ps.length)) (pt ps i) (pt ps ((i + 1) % ps.length))

theorem modN {k n : Nat} (h : 1 ≤ n) : ((k : Int) + (n : Int) - 1) % (n : Int) = (((k + n - 1) % n : Nat) : Int) := by
  rw [Int.natCast_emod]; congr 1; omega

set_option maxHeartbeats 400000 in
/-- polygon.bend -/
theorem bend73 (A : Option Addr) (c : Nat) (ps : List Z2) (i : Nat) (w : World) (hsp : Sp w A ps) (hn : ps.length ≤ 1000000000) (hi : i < ps.length) (hbd : ∀ p ∈ ps, Bd p) :
    Calls Try.prog 73 #[.slice A ps.length c, iv i] w fun e w' => e = .returned (iv (bendZ ps i)) ∧ Below w.heap.size w w' := by
  have hne : ps ≠ [] := by intro h; simp [h] at hi
  have hp : 0 < ps.length := by omega
  obtain ⟨b, off, rfl, hc⟩ := hsp hne
  have l1 : (i + 1) % ps.length < ps.length := Nat.mod_lt _ hp
  have l2 : (i + ps.length - 1) % ps.length < ps.length := Nat.mod_lt _ hp
  obtain ⟨g1, g2⟩ := hc i hi
  obtain ⟨g3, g4⟩ := hc _ l1
  obtain ⟨g5, g6⟩ := hc _ l2
  have m1 := mod_one i ps.length
  have m2 := modN (k := i) (n := ps.length) hp
  have HE := Lib.hid (show bendZ ps i = crZ (pt ps ((i + ps.length - 1) % ps.length)) (pt ps i) (pt ps ((i + 1) % ps.length)) from rfl)
  generalize e1 : (i + 1) % ps.length = k1 at *
  generalize e2 : (i + ps.length - 1) % ps.length = k2 at *
  have HD := Lib.hid hbd
  clear e1 e2 hc hbd hsp
  have q1 : (0 : Int) ≤ (k2 : Int) := by omega
  have q2 : (k2 : Int) < (ps.length : Int) := by omega
  have q5 : (0 : Int) ≤ (k1 : Int) := by omega
  have q6 : (k1 : Int) < (ps.length : Int) := by omega
  have q7 : (0 : Int) ≤ (i : Int) := by omega
  have q8 : (i : Int) < (ps.length : Int) := by omega
  have q3 : ((ps.length : Int) == 0) = false := beq_eq_false_iff_ne.2 (by omega)
  have q4 : ¬ ((ps.length : Int) = 0) := by omega
  have t1 : ((i : Int) + 1).tmod (ps.length : Int) = (k1 : Int) := by rw [Int.tmod_eq_emod_of_nonneg (by omega)]; exact m1
  have t2 : ((i : Int) + (ps.length : Int) - 1).tmod (ps.length : Int) = (k2 : Int) := by rw [Int.tmod_eq_emod_of_nonneg (by omega)]; exact m2
  clear m1 m2
  have s1 : IntKind.i64.wrap ((i : Int) + 1) = (i : Int) + 1 := IntWalk.i64_in _ (by omega)
  have s2 : IntKind.i64.wrap ((i : Int) + (ps.length : Int)) = (i : Int) + (ps.length : Int) := IntWalk.i64_in _ (by omega)
  have s3 : IntKind.i64.wrap ((i : Int) + (ps.length : Int) - 1) = (i : Int) + (ps.length : Int) - 1 := IntWalk.i64_in _ (by omega)
  go_enter Try.func73, Try.ntmps73
  go_wp2
  go_region_held3 (fun w' => w'.cell? ⟨b, off + i * 2, none⟩ = some (iv (pt ps i).x) ∧ w'.cell? ⟨b, off + i * 2 + 1, none⟩ = some (iv (pt ps i).y) ∧ w'.cell? ⟨b, off + k1 * 2, none⟩ = some (iv (pt ps k1).x) ∧ w'.cell? ⟨b, off + k1 * 2 + 1, none⟩ = some (iv (pt ps k1).y)
      ∧ w'.cell? ⟨b, off + k2 * 2, none⟩ = some (iv (pt ps k2).x) ∧ w'.cell? ⟨b, off + k2 * 2 + 1, none⟩ = some (iv (pt ps k2).y))
    (first | exact ⟨g1, g2, g3, g4, g5, g6⟩ | assumption | (go_split_ands; refine ⟨?_, ?_, ?_, ?_, ?_, ?_⟩ <;> exact cell_later hbq (by assumption)))
    (first | (go_at_call 81; refine (cross81 (pt ps k2) (pt ps i) (pt ps k1) _ (bd_pt HD.out _) (bd_pt HD.out _) (bd_pt HD.out _)).mono ?_; rintro e w' ⟨rfl, hbq⟩))
  go_split_ands
  clear s1 s2 s3 t1 t2
  go_wp2
  go_ret
  exact ⟨ret_int HE.out.symm, below_trans (below_drew w) hbq⟩
end Go.Proofs.Ytfgeengdmbabhaa

namespace Go.Proofs.Ytfgeengdmbabhaa
open Go.RowKit
attribute [local go_sem ↓] Go.wp_at_zero Go.wp_at_succ

/-- the vertex behind vertex k -/
def nx (ps : List Z2) (k : Nat) : Z2 := pt ps ((k + 1) % ps.length)
/-- one side's part of twice the area -/
def sideZ (a b : Z2) : Int := a.x * b.y - a.y * b.x
def areaTo (ps : List Z2) : Nat → Int
  | 0 => 0
  | k + 1 => areaTo ps k + sideZ (pt ps k) (nx ps k)
/-- twice the area -/
def areaZ (ps : List Z2) : Int := areaTo ps ps.length

theorem prod22 {a b : Int} (h1 : -4194304 ≤ a ∧ a ≤ 4194304) (h2 : -4194304 ≤ b ∧ b ≤ 4194304) : -17592186044416 ≤ a * b ∧ a * b ≤ 17592186044416 := by
  have := mul_bd (M := 4194304) (N := 4194304) h1.1 h1.2 h2.1 h2.2
  omega
theorem sideZ_bd {a b : Z2} (ha : Bd a) (hb : Bd b) : -35184372088832 ≤ sideZ a b ∧ sideZ a b ≤ 35184372088832 := by
  unfold Bd at *
  have e1 := prod22 (a := a.x) (b := b.y) (by omega) (by omega)
  have e2 := prod22 (a := a.y) (b := b.x) (by omega) (by omega)
  unfold sideZ; omega
theorem sideZ_wrap {a b : Z2} (ha : Bd a) (hb : Bd b) : wrap64 (wrap64 (a.x * b.y) - wrap64 (a.y * b.x)) = sideZ a b := by
  have h0 := sideZ_bd ha hb
  unfold Bd at *
  have e1 := prod22 (a := a.x) (b := b.y) (by omega) (by omega)
  have e2 := prod22 (a := a.y) (b := b.x) (by omega) (by omega)
  rw [wrap64_in (n := a.x * b.y) (by omega) (by omega), wrap64_in (n := a.y * b.x) (by omega) (by omega)]
  unfold sideZ at *
  rw [wrap64_in (by omega) (by omega)]
theorem areaTo_bd {ps : List Z2} (h : ∀ p ∈ ps, Bd p) (k : Nat) : -(35184372088832 * (k : Int)) ≤ areaTo ps k ∧ areaTo ps k ≤ 35184372088832 * (k : Int) := by
  induction k with
  | zero => simp [areaTo]
  | succ k ih =>
    have := sideZ_bd (bd_pt h k) (bd_pt h ((k + 1) % ps.length))
    simp only [areaTo, nx]
    omega

set_option maxHeartbeats 400000 in
/-- polygon.area -/
theorem area74 (A : Option Addr) (c : Nat) (ps : List Z2) (w : World) (hsp : Sp w A ps) (hn : ps.length ≤ 100000) (hbd : ∀ p ∈ ps, Bd p) :
    Calls Try.prog 74 #[.slice A ps.length c] w fun e w' => e = .returned (iv (areaZ ps)) ∧ Below w.heap.size w w' := by
  have HS := Lib.hid hsp; clear hsp
  have HD := Lib.hid hbd; clear hbd
  go_enter Try.func74, Try.ntmps74
  go_wp2
  go_loopw [3, 9] (fun s i wr => ∃ k : Nat, k ≤ ps.length ∧ i = .int .i64 k ∧ s = iv (areaTo ps k) ∧ Below w.heap.size w wr) (fun _ i _ => ps.length - (intOf i).toNat)
  case atStart => exact ⟨0, Nat.zero_le _, rfl, rfl, Below.refl _ _⟩
  case round =>
    obtain ⟨k, hk, rfl, rfl, hB⟩ := hrel
    by_cases hlt : k < ps.length
    · have hne : ps ≠ [] := by intro h; simp [h] at hlt
      have hp : 0 < ps.length := by omega
      obtain ⟨b, off, rfl, hc⟩ := HS.out.later hB hne
      have l1 : (k + 1) % ps.length < ps.length := Nat.mod_lt _ hp
      obtain ⟨g1, g2⟩ := hc k hlt
      obtain ⟨g3, g4⟩ := hc _ l1
      have m1 := mod_one k ps.length
      have hb0 := areaTo_bd HD.out k
      have hb1 := sideZ_bd (bd_pt HD.out k) (bd_pt HD.out ((k + 1) % ps.length))
      have HW := Lib.hid (sideZ_wrap (bd_pt HD.out k) (bd_pt HD.out ((k + 1) % ps.length)))
      have HE := Lib.hid (show areaTo ps (k + 1) = areaTo ps k + sideZ (pt ps k) (pt ps ((k + 1) % ps.length)) from rfl)
      generalize e1 : (k + 1) % ps.length = k1 at *
      clear hc e1
      have nb : b < wr.heap.size := World.block_lt_of_cell? _ _ g1
      have nb2 : b ≠ wr.heap.size := by omega
      have nb3 : b ≠ wr.heap.size + 1 := by omega
      have hB' := hB.trans ((boxes2 wr (pt ps k) (pt ps k1)).1.mono hB.size)
      have HX := Lib.hid (show wrap64 (areaTo ps k + wrap64 (wrap64 ((pt ps k).x * (pt ps k1).y) - wrap64 ((pt ps k).y * (pt ps k1).x))) = areaTo ps (k + 1) by
        rw [HW.out, HE.out]; exact wrap64_in (by omega) (by omega))
      go_wp2
      go_roundw
      case rel => exact ⟨k + 1, by omega, by go_num, congrArg iv HX.out, hB'⟩
      case measure => simp [intOf]; omega
    · obtain rfl : k = ps.length := by omega
      go_wp2
      go_ret
      exact ⟨rfl, hB⟩

theorem chkZ_zero {ps : List Z2} (h0 : chkZ ps = 0) : ps.length ≤ 40 ∧ 3 ≤ ps.length ∧ (∀ p ∈ ps, Bd p) ∧ ps.any outZ = false ∧ simpleZ ps = true := by
  unfold chkZ at h0
  split at h0
  · simp at h0
  split at h0
  · simp at h0
  cases h3 : ps.any outZ with
  | true => rw [h3] at h0; simp at h0
  | false =>
    rw [h3] at h0
    cases h4 : simpleZ ps with
    | false => rw [h4] at h0; simp at h0
    | true => exact ⟨by omega, by omega, bd_of_in h3, rfl, rfl⟩

def aZ (ps : List Z2) : Int := if chkZ ps = 0 then areaZ ps else 0
theorem aZ_pos {ps : List Z2} (h : chkZ ps = 0) : aZ ps = areaZ ps := if_pos h
theorem aZ_neg {ps : List Z2} (h : ¬ chkZ ps = 0) : aZ ps = 0 := if_neg h

set_option maxHeartbeats 400000 in
/-- polygon.Area2 -/
theorem area2_39 (A : Option Addr) (c : Nat) (ps : List Z2) (w : World) (hsp : Sp w A ps) (hcap : ps.length ≤ c) :
    Calls Try.prog 39 #[.slice A ps.length c] w fun e w' => e = .returned (iv (aZ ps)) ∧ Below w.heap.size w w' := by
  have HS := Lib.hid hsp; clear hsp
  by_cases h0 : chkZ ps = 0
  · have H0 := Lib.hid h0
    obtain ⟨hl, _, hD, _, _⟩ := chkZ_zero h0
    have HD := Lib.hid hD
    clear hD
    clear h0
    go_enter Try.func39, Try.ntmps39
    go_wp2_with fail
    refine (check38 A c ps _ HS.out hcap).mono ?_
    rintro e w1 ⟨rfl, hb1⟩
    rw [H0.out]
    go_wp2_with fail
    refine (area74 A c ps _ (HS.out.later hb1) (by omega) HD.out).mono ?_
    rintro e w2 ⟨rfl, hb2⟩
    go_wp2
    go_ret
    exact ⟨ret_int (aZ_pos H0.out).symm, below_trans hb1 hb2⟩
  · have H0 := Lib.hid h0
    have hd : (chkZ ps != 0) = true := by simpa using h0
    clear h0
    go_enter Try.func39, Try.ntmps39
    go_wp2_with fail
    refine (check38 A c ps _ HS.out hcap).mono ?_
    rintro e w1 ⟨rfl, hb1⟩
    go_wp2
    go_ret
    exact ⟨ret_int (aZ_neg H0.out).symm, hb1⟩

/-- the answer of Convex -/
def convexZ (ps : List Z2) : Bool := (List.range ps.length).all (fun i => decide (0 ≤ bendZ ps i)) && decide (0 < areaZ ps)
def cvZ (ps : List Z2) : Bool := if chkZ ps = 0 then convexZ ps else false
theorem cvZ_pos {ps : List Z2} (h : chkZ ps = 0) : cvZ ps = convexZ ps := if_pos h
theorem cvZ_neg {ps : List Z2} (h : ¬ chkZ ps = 0) : cvZ ps = false := if_neg h

theorem bendZ_bd {ps : List Z2} (h : ∀ p ∈ ps, Bd p) (k : Nat) : -140737488355328 ≤ bendZ ps k ∧ bendZ ps k ≤ 140737488355328 := crZ_bd (bd_pt h _) (bd_pt h _) (bd_pt h _)

set_option maxHeartbeats 400000 in
/-- polygon.Convex -/
theorem convex44 (A : Option Addr) (c : Nat) (ps : List Z2) (w : World) (hsp : Sp w A ps) (hcap : ps.length ≤ c) :
    Calls Try.prog 44 #[.slice A ps.length c] w fun e w' => e = .returned (.tuple #[.bool (cvZ ps), iv (chkZ ps)]) ∧ Below w.heap.size w w' := by
  have HS := Lib.hid hsp; clear hsp
  by_cases h0 : chkZ ps = 0
  · have H0 := Lib.hid h0
    obtain ⟨hl, _, hD, _, _⟩ := chkZ_zero h0
    have HD := Lib.hid hD
    clear h0 hD
    go_enter Try.func44, Try.ntmps44
    go_wp2_with fail
    refine (check38 A c ps _ HS.out hcap).mono ?_
    rintro e w1 ⟨rfl, hb1⟩
    rw [H0.out]
    go_wp2_with fail
    go_loopw [13] (fun i wr => ∃ k : Nat, k ≤ ps.length ∧ i = .int .i64 k ∧ (∀ j, j < k → decide (0 ≤ bendZ ps j) = true) ∧ Below w.heap.size w wr) (fun i _ => ps.length - (intOf i).toNat)
    case atStart => exact ⟨0, Nat.zero_le _, rfl, fun j hj => absurd hj (by omega), hb1⟩
    case round =>
      obtain ⟨k, hk, rfl, hno, hB⟩ := hrel
      have HN := Lib.hid hno
      clear hno
      by_cases hlt : k < ps.length
      · go_wp2_with fail
        refine (bend73 A c ps k _ (HS.out.later hB) (by omega) hlt HD.out).mono ?_
        rintro e w2 ⟨rfl, hb2⟩
        go_wp2
        · have h : bendZ ps k < 0 := by assumption
          go_ret2
          refine ⟨?_, hB.trans (hb2.mono hB.size)⟩
          have : convexZ ps = false := by
            unfold convexZ
            have : (List.range ps.length).all (fun i => decide (0 ≤ bendZ ps i)) = false := by
              rw [List.all_eq_false]
              exact ⟨k, by simpa using hlt, by simp; omega⟩
            rw [this]; rfl
          rw [cvZ_pos H0.out, this, H0.out]
          rfl
        · have h : 0 ≤ bendZ ps k := by assumption
          go_roundw
          case rel =>
            refine ⟨k + 1, by omega, by go_num, fun j hj => ?_, hB.trans (hb2.mono hB.size)⟩
            by_cases e : j = k
            · subst e; simpa using h
            · exact HN.out j (by omega)
          case measure => simp [intOf]; omega
      · obtain rfl : k = ps.length := by omega
        go_wp2_with fail
        refine (area74 A c ps _ (HS.out.later hB) (by omega) HD.out).mono ?_
        rintro e w2 ⟨rfl, hb2⟩
        go_wp2
        go_ret2
        refine ⟨?_, hB.trans (hb2.mono hB.size)⟩
        have : (List.range ps.length).all (fun i => decide (0 ≤ bendZ ps i)) = true := List.all_eq_true.2 fun j hj => HN.out j (by simpa using hj)
        rw [cvZ_pos H0.out, H0.out]
        unfold convexZ
        rw [this]
        rfl
  · have H0 := Lib.hid h0
    have hd : (chkZ ps != 0) = true := by simpa using h0
    clear h0
    go_enter Try.func44, Try.ntmps44
    go_wp2_with fail
    refine (check38 A c ps _ HS.out hcap).mono ?_
    rintro e w1 ⟨rfl, hb1⟩
    go_wp2
    go_ret2
    refine ⟨?_, hb1⟩
    rw [cvZ_neg H0.out]
    rfl
end Go.Proofs.Ytfgeengdmbabhaa

namespace Go.Proofs.Ytfgeengdmbabhaa
open Go.RowKit
attribute [local go_sem ↓] Go.wp_at_zero Go.wp_at_succ

/-- does the ray from q to the right cross the side a b? -/
def crossesZ (a b q : Z2) : Bool := (decide (a.y ≤ q.y) && decide (q.y < b.y) && decide (0 < crZ a b q)) || (decide (b.y ≤ q.y) && decide (q.y < a.y) && decide (crZ a b q < 0))
def parTo (ps : List Z2) (q : Z2) : Nat → Int
  | 0 => -1
  | k + 1 => if crossesZ (pt ps k) (nx ps k) q then - parTo ps q k else parTo ps q k
def onAny (ps : List Z2) (q : Z2) : Bool := (List.range ps.length).any fun i => onZ (pt ps i) (nx ps i) q
/-- the position of a spot relative to a valid polygon -/
def placeZ (ps : List Z2) (q : Z2) : Int := if outZ q then -1 else if onAny ps q then 0 else parTo ps q ps.length
def whereZ (ps : List Z2) (q : Z2) : Int := if chkZ ps = 0 then placeZ ps q else 0
theorem whereZ_pos {ps : List Z2} (h : chkZ ps = 0) (q : Z2) : whereZ ps q = placeZ ps q := if_pos h
theorem whereZ_neg {ps : List Z2} (h : ¬ chkZ ps = 0) (q : Z2) : whereZ ps q = 0 := if_neg h
theorem parTo_bd (ps : List Z2) (q : Z2) (k : Nat) : -1 ≤ parTo ps q k ∧ parTo ps q k ≤ 1 := by
  induction k with
  | zero => simp [parTo]
  | succ k ih => simp only [parTo]; split <;> omega
theorem parTo_succ (ps : List Z2) (q : Z2) (k : Nat) : parTo ps q (k + 1) = if crossesZ (pt ps k) (pt ps ((k + 1) % ps.length)) q then - parTo ps q k else parTo ps q k := rfl
theorem bd_of_out {q : Z2} (h : outZ q = false) : Bd q := by
  simp [outZ] at h; unfold Bd; omega

theorem bdN {B : Nat} {a w : World} (h : Below B a w) (n : Nat) : Below B a (w.drewN n) := ⟨h.os, h.tape, h.output, h.size, h.block⟩
theorem cross_iff (a b q : Z2) : crossesZ a b q = true ↔ (a.y ≤ q.y ∧ q.y < b.y ∧ 0 < crZ a b q ∨ b.y ≤ q.y ∧ q.y < a.y ∧ crZ a b q < 0) := by
  simp [crossesZ]; omega

set_option maxHeartbeats 4000000 in
/-- polygon.Where -/
theorem where35 (A : Option Addr) (c : Nat) (ps : List Z2) (q : Z2) (w : World) (hsp : Sp w A ps) (hcap : ps.length ≤ c) :
    Calls Try.prog 35 #[.slice A ps.length c, sv q] w fun e w' => e = .returned (.tuple #[iv (whereZ ps q), iv (chkZ ps)]) ∧ Below w.heap.size w w' := by
  have HS := Lib.hid hsp; clear hsp
  by_cases h0 : chkZ ps = 0
  case neg =>
    have H0 := Lib.hid h0
    have hd : (chkZ ps != 0) = true := by simpa using h0
    clear h0
    go_enter Try.func35, Try.ntmps35
    go_wp2_with fail
    refine (check38 A c ps _ (HS.out.later (below_alloc _ _)) hcap).mono ?_
    rintro e w1 ⟨rfl, hb1⟩
    go_wp2
    go_ret2
    refine ⟨?_, below_trans (below_alloc _ _) hb1⟩
    rw [whereZ_neg H0.out]
    rfl
  case pos =>
    have H0 := Lib.hid h0
    obtain ⟨hl, _, hD, _, _⟩ := chkZ_zero h0
    have HD := Lib.hid hD
    clear h0 hD
    go_enter Try.func35, Try.ntmps35
    go_wp2_with fail
    refine (check38 A c ps _ (HS.out.later (below_alloc _ _)) hcap).mono ?_
    rintro e w1 ⟨rfl, hb1⟩
    have F := boxes1 w q
    revert hb1 F
    generalize w.alloc (.cells #[iv q.x, iv q.y] 30) = W
    rintro hb1 ⟨hW, f1, f2⟩
    replace f1 := cell_later hb1 f1
    replace f2 := cell_later hb1 f2
    have hB1 := below_trans hW hb1
    clear hb1 hW W
    rw [H0.out]
    go_wp2_with fail
    refine (outside79 q _).mono ?_
    rintro e w2 ⟨rfl, hb2⟩
    replace f1 := cell_later hb2 f1
    replace f2 := cell_later hb2 f2
    have hB2 := below_trans hB1 hb2
    clear hb2 hB1
    cases ho : outZ q
    case true =>
      have HO := Lib.hid ho
      clear ho
      go_wp2
      go_ret2
      refine ⟨?_, hB2⟩
      rw [whereZ_pos H0.out, H0.out]
      unfold placeZ
      rw [HO.out]
      rfl
    case false =>
      have HO := Lib.hid ho
      have HQ := Lib.hid (bd_of_out ho)
      clear ho
      go_wp2
      go_loopw [7, 22] (fun v i wr => ∃ k : Nat, k ≤ ps.length ∧ i = .int .i64 k ∧ v = iv (parTo ps q k) ∧ (∀ j, j < k → onZ (pt ps j) (nx ps j) q = false) ∧ Below w.heap.size w wr ∧ wr.cell? ⟨w.heap.size, 0, none⟩ = some (iv q.x) ∧ wr.cell? ⟨w.heap.size, 1, none⟩ = some (iv q.y)) (fun _ i _ => ps.length - (intOf i).toNat)
      case atStart => exact ⟨0, Nat.zero_le _, rfl, rfl, fun j hj => absurd hj (by omega), hB2, f1, f2⟩
      case round =>
        clear f1 f2 hB2
        obtain ⟨k, hk, rfl, rfl, hno, hB, f1, f2⟩ := hrel
        have HN := Lib.hid hno
        clear hno
        by_cases hlt : k < ps.length
        · have hne : ps ≠ [] := by intro h; simp [h] at hlt
          have hp : 0 < ps.length := by omega
          obtain ⟨b, off, rfl, hc⟩ := HS.out.later hB hne
          have l1 : (k + 1) % ps.length < ps.length := Nat.mod_lt _ hp
          obtain ⟨g1, g2⟩ := hc k hlt
          obtain ⟨g3, g4⟩ := hc _ l1
          have m1 := mod_one k ps.length
          have HP := Lib.hid (parTo_succ ps q k)
          have HX := Lib.hid (show nx ps k = pt ps ((k + 1) % ps.length) from rfl)
          have hb0 := parTo_bd ps q k
          generalize e1 : (k + 1) % ps.length = k1 at *
          clear hc e1
          have nb : b < wr.heap.size := World.block_lt_of_cell? _ _ g1
          have nb2 : b ≠ wr.heap.size := by omega
          have nb3 : b ≠ wr.heap.size + 1 := by omega
          have nc : w.heap.size < wr.heap.size := World.block_lt_of_cell? _ _ f1
          have nc2 : w.heap.size ≠ wr.heap.size := by omega
          have nc3 : w.heap.size ≠ wr.heap.size + 1 := by omega
          go_wp2_with fail
          refine (on80 (pt ps k) (pt ps k1) q _ (bd_pt HD.out _) (bd_pt HD.out _) HQ.out).mono ?_
          rintro e w3 ⟨rfl, hb3⟩
          have F := boxes2 wr (pt ps k) (pt ps k1)
          revert F hb3
          generalize ((wr.alloc (.cells #[iv (pt ps k).x, iv (pt ps k).y] 30)).alloc (.cells #[iv (pt ps k1).x, iv (pt ps k1).y] 30)) = W
          rintro hb3 ⟨hW, f3, f4, f5, f6⟩
          have hB3 := hB.trans ((below_trans hW hb3).mono hB.size)
          replace f1 := cell_later (below_trans hW hb3) f1
          replace f2 := cell_later (below_trans hW hb3) f2
          replace f3 := cell_later hb3 f3
          replace f4 := cell_later hb3 f4
          replace f5 := cell_later hb3 f5
          replace f6 := cell_later hb3 f6
          clear hb3 hW g1 g2 g3 g4 m1 nb nb2 nb3 nc nc2 nc3
          cases hon : onZ (pt ps k) (pt ps k1) q
          case true =>
            have HON := Lib.hid hon
            clear hon
            go_wp2
            go_ret2
            refine ⟨?_, hB3⟩
            have : onAny ps q = true := List.any_eq_true.2 ⟨k, by simpa using hlt, by simp only [HX.out]; exact HON.out⟩
            rw [whereZ_pos H0.out, H0.out]
            unfold placeZ
            rw [HO.out, this]
            rfl
          case false =>
            have HON := Lib.hid hon
            clear hon
            go_wp2
            by_cases c1 : (pt ps k).y ≤ q.y <;> by_cases c2 : q.y < (pt ps k1).y
            all_goals
              first | have d1 := decide_eq_true c1 | have d1 := decide_eq_false c1
              first | have d2 := decide_eq_true c2 | have d2 := decide_eq_false c2
              first | have d3 := decide_eq_true (show (pt ps k1).y ≤ q.y by omega) | have d3 := decide_eq_false (show ¬ (pt ps k1).y ≤ q.y by omega)
              first | have d4 := decide_eq_true (show q.y < (pt ps k).y by omega) | have d4 := decide_eq_false (show ¬ q.y < (pt ps k).y by omega)
              go_quiet (fail)
              go_wp2_with (first | (go_at_call 81; refine (cross81 (pt ps k) (pt ps k1) q _ (bd_pt HD.out _) (bd_pt HD.out _) HQ.out).mono ?_; rintro e w' ⟨rfl, hbq⟩))
            all_goals
              go_roundw
              case rel =>
                refine ⟨k + 1, by omega, by go_num, congrArg iv ?_, fun j hj => ?_, ?_, ?_, ?_⟩
                · rw [HP.out]
                  first
                    | rw [if_pos ((cross_iff _ _ _).2 (by omega))]
                    | rw [if_neg (fun h => by have := (cross_iff _ _ _).1 h; omega)]
                · by_cases e : j = k
                  · subst e; rw [HX.out]; exact HON.out
                  · exact HN.out j (by omega)
                · first
                    | exact (bdN hB3 _).trans (hbq.mono (bdN hB3 _).size)
                    | exact bdN hB3 _
                · first
                    | exact cell_later hbq f1
                    | exact f1
                · first
                    | exact cell_later hbq f2
                    | exact f2
              case measure => simp [intOf]; omega
        · obtain rfl : k = ps.length := by omega
          go_wp2
          go_ret2
          refine ⟨?_, hB⟩
          have : onAny ps q = false := List.any_eq_false.2 fun j hj => by
            have := HN.out j (by simpa using hj)
            simp [this]
          rw [whereZ_pos H0.out, H0.out]
          unfold placeZ
          rw [HO.out, this]
          rfl
end Go.Proofs.Ytfgeengdmbabhaa

namespace Go.Proofs.Ytfgeengdmbabhaa
open Go.RowKit
attribute [local go_sem ↓] Go.wp_at_zero Go.wp_at_succ

theorem run_min2 {P : Program} {w : World} (ts : Array TypeId) (t : TypeId) (x y : Int) : (Builtin.min_ ts t #[.int .i64 x, .int .i64 y]).run P w = .ok (.int .i64 (min x y)) w := by
  have e : (if y < x then y else x) = min x y := by split <;> omega
  rw [run_min_int2, e]
theorem run_max2 {P : Program} {w : World} (ts : Array TypeId) (t : TypeId) (x y : Int) : (Builtin.max_ ts t #[.int .i64 x, .int .i64 y]).run P w = .ok (.int .i64 (max x y)) w := by
  have e : (if x < y then y else x) = max x y := by split <;> omega
  rw [run_max_int2, e]

/-- a rectangle -/
structure R4 where
  x : Int
  y : Int
  w : Int
  h : Int
deriving DecidableEq
abbrev rv (r : R4) : Value := .agg #[.int .i64 r.x, .int .i64 r.y, .int .i64 r.w, .int .i64 r.h]

def loTo (ps : List Z2) : Nat → Z2
  | 0 => pt ps 0
  | k + 1 => ⟨min (loTo ps k).x (pt ps k).x, min (loTo ps k).y (pt ps k).y⟩
def hiTo (ps : List Z2) : Nat → Z2
  | 0 => pt ps 0
  | k + 1 => ⟨max (hiTo ps k).x (pt ps k).x, max (hiTo ps k).y (pt ps k).y⟩
def boxR (ps : List Z2) : R4 := ⟨(loTo ps ps.length).x, (loTo ps ps.length).y, (hiTo ps ps.length).x - (loTo ps ps.length).x, (hiTo ps ps.length).y - (loTo ps ps.length).y⟩
def boxZ (ps : List Z2) : R4 := if chkZ ps = 0 then boxR ps else ⟨0, 0, 0, 0⟩
theorem boxZ_pos {ps : List Z2} (h : chkZ ps = 0) : boxZ ps = boxR ps := if_pos h
theorem boxZ_neg {ps : List Z2} (h : ¬ chkZ ps = 0) : boxZ ps = ⟨0, 0, 0, 0⟩ := if_neg h
theorem loTo_bd {ps : List Z2} (h : ∀ p ∈ ps, Bd p) (k : Nat) : Bd (loTo ps k) := by
  induction k with
  | zero => exact bd_pt h 0
  | succ k ih => have := bd_pt h k; unfold Bd at *; simp only [loTo]; omega
theorem hiTo_bd {ps : List Z2} (h : ∀ p ∈ ps, Bd p) (k : Nat) : Bd (hiTo ps k) := by
  induction k with
  | zero => exact bd_pt h 0
  | succ k ih => have := bd_pt h k; unfold Bd at *; simp only [hiTo]; omega

/-- a block that is known whole -/
def Blk (w : World) (g : Nat) (t : TypeId) (cs : Array Value) : Prop := w.heap[g]? = some (.cells cs t (0, 0))
theorem Blk.lt {w : World} {g : Nat} {t : TypeId} {cs : Array Value} (h : Blk w g t cs) : g < w.heap.size := by
  rcases Nat.lt_or_ge g w.heap.size with hlt | hge
  · exact hlt
  · unfold Blk at h; rw [Array.getElem?_eq_none hge] at h; cases h
theorem Blk.cell {w : World} {g : Nat} {t : TypeId} {cs : Array Value} (h : Blk w g t cs) (i : Nat) : w.cell? ⟨g, i, none⟩ = cs[i]? := cell_of_row w g i cs t (0, 0) h
theorem Blk.frozen {w : World} {g : Nat} {t : TypeId} {cs : Array Value} (h : Blk w g t cs) (i : Nat) : w.frozen? ⟨g, i, none⟩ = false := by
  unfold Blk at h
  simp [World.frozen?, h]
theorem Blk.new (w : World) (t : TypeId) (cs : Array Value) : Blk (w.alloc (.cells cs t)) w.heap.size t cs := heap_alloc_new w _
theorem Blk.later {w w' : World} {g : Nat} {t : TypeId} {cs : Array Value} (h : Blk w g t cs) (hb : Below w.heap.size w w') : Blk w' g t cs := (hb.block g h.lt).trans h
theorem Blk.drewN {w : World} {g : Nat} {t : TypeId} {cs : Array Value} (h : Blk w g t cs) (n : Nat) : Blk (w.drewN n) g t cs := h
theorem Blk.set_ {w : World} {g : Nat} {t : TypeId} {cs : Array Value} (h : Blk w g t cs) (i : Nat) (u : Value) : Blk (w.setCell ⟨g, i, none⟩ u) g t (cs.setIfInBounds i u) := by
  unfold Blk at h ⊢
  simp [World.setCell, Array.getElem?_modify, h]
theorem Blk.far {w : World} {g : Nat} {t : TypeId} {cs : Array Value} (h : Blk w g t cs) {p : Addr} (hp : g ≠ p.block) (u : Value) : Blk (w.setCell p u) g t cs := (Below.heap_setCell w p u g hp).trans h
/-- a spot in a block of its own, set anew -/
theorem Blk.set2 {w : World} {g : Nat} {t : TypeId} {x y : Value} (h : Blk w g t #[x, y]) (u v : Value) : Blk ((w.setCell ⟨g, 0, none⟩ u).setCell ⟨g, 1, none⟩ v) g t #[u, v] := (h.set_ 0 u).set_ 1 v
theorem Blk.far2 {w : World} {g k : Nat} {t : TypeId} {cs : Array Value} (h : Blk w g t cs) (hp : g ≠ k) (u v : Value) : Blk ((w.setCell ⟨k, 0, none⟩ u).setCell ⟨k, 1, none⟩ v) g t cs := (h.far (p := ⟨k, 0, none⟩) hp u).far (p := ⟨k, 1, none⟩) hp v

theorem Blk.set4 {w : World} {g : Nat} {t : TypeId} {x y z u : Value} (h : Blk w g t #[x, y, z, u]) (a b c d : Value) :
    Blk ((((w.setCell ⟨g, 0, none⟩ a).setCell ⟨g, 1, none⟩ b).setCell ⟨g, 2, none⟩ c).setCell ⟨g, 3, none⟩ d) g t #[a, b, c, d] := (((h.set_ 0 a).set_ 1 b).set_ 2 c).set_ 3 d
theorem below_set4 {w w1 : World} {g : Nat} (h : Below w.heap.size w w1) (hg : w.heap.size ≤ g) (a b c d : Value) :
    Below w.heap.size w ((((w1.setCell ⟨g, 0, none⟩ a).setCell ⟨g, 1, none⟩ b).setCell ⟨g, 2, none⟩ c).setCell ⟨g, 3, none⟩ d) :=
  (((h.setCell (p := ⟨g, 0, none⟩) hg a).setCell (p := ⟨g, 1, none⟩) hg b).setCell (p := ⟨g, 2, none⟩) hg c).setCell (p := ⟨g, 3, none⟩) hg d
theorem below_set2 {w w1 : World} {g : Nat} (h : Below w.heap.size w w1) (hg : w.heap.size ≤ g) (a b : Value) :
    Below w.heap.size w ((w1.setCell ⟨g, 0, none⟩ a).setCell ⟨g, 1, none⟩ b) :=
  (h.setCell (p := ⟨g, 0, none⟩) hg a).setCell (p := ⟨g, 1, none⟩) hg b

theorem two_new (w : World) (t : TypeId) (cs ds : Array Value) : Blk ((w.alloc (.cells cs t)).alloc (.cells ds t)) w.heap.size t cs ∧ Blk ((w.alloc (.cells cs t)).alloc (.cells ds t)) (w.heap.size + 1) t ds ∧ Below w.heap.size w ((w.alloc (.cells cs t)).alloc (.cells ds t)) := by
  have h1 := Blk.new w t cs
  have h2 := Blk.new (w.alloc (.cells cs t)) t ds
  have h3 := below_alloc (w.alloc (.cells cs t)) (.cells ds t)
  refine ⟨h1.later h3, ?_, below_trans (below_alloc _ _) h3⟩
  have e : (w.alloc (.cells cs t)).heap.size = w.heap.size + 1 := by simp
  rw [e] at h2; exact h2

theorem box_step {w wr : World} {gl gh : Nat} {t : TypeId} {a b c d : Value} {cs : Array Value} (Bl : Blk wr gl 30 #[a, b]) (Bh : Blk wr gh 30 #[c, d]) (Br : Blk wr w.heap.size t cs) (hB : Below w.heap.size w wr) (n1 : w.heap.size < gl) (n2 : w.heap.size < gh) (n3 : gl ≠ gh) (x1 y1 x2 y2 : Value) (o : Obj) :
    Blk (((((wr.setCell ⟨gl, 0, none⟩ x1).setCell ⟨gl, 1, none⟩ y1).setCell ⟨gh, 0, none⟩ x2).setCell ⟨gh, 1, none⟩ y2).alloc o) gl 30 #[x1, y1]
    ∧ Blk (((((wr.setCell ⟨gl, 0, none⟩ x1).setCell ⟨gl, 1, none⟩ y1).setCell ⟨gh, 0, none⟩ x2).setCell ⟨gh, 1, none⟩ y2).alloc o) gh 30 #[x2, y2]
    ∧ Blk (((((wr.setCell ⟨gl, 0, none⟩ x1).setCell ⟨gl, 1, none⟩ y1).setCell ⟨gh, 0, none⟩ x2).setCell ⟨gh, 1, none⟩ y2).alloc o) w.heap.size t cs
    ∧ Below w.heap.size w (((((wr.setCell ⟨gl, 0, none⟩ x1).setCell ⟨gl, 1, none⟩ y1).setCell ⟨gh, 0, none⟩ x2).setCell ⟨gh, 1, none⟩ y2).alloc o) := by
  have h1 := (Bl.set2 x1 y1).far2 n3 x2 y2
  have h2 := (Bh.far2 (k := gl) (by omega) x1 y1).set2 x2 y2
  have h3 := (Br.far2 (k := gl) (by omega) x1 y1).far2 (k := gh) (by omega) x2 y2
  have h4 := below_set2 (g := gh) (below_set2 (g := gl) hB (by omega) x1 y1) (by omega) x2 y2
  generalize ((((wr.setCell ⟨gl, 0, none⟩ x1).setCell ⟨gl, 1, none⟩ y1).setCell ⟨gh, 0, none⟩ x2).setCell ⟨gh, 1, none⟩ y2) = W at *
  have k := below_alloc W o
  exact ⟨h1.later k, h2.later k, h3.later k, h4.trans (k.mono h4.size)⟩

attribute [local go_sem ↓] run_min2 run_max2

set_option maxHeartbeats 4000000 in
/-- polygon.Box -/
theorem box42 (A : Option Addr) (c : Nat) (ps : List Z2) (w : World) (hsp : Sp w A ps) (hcap : ps.length ≤ c) :
    Calls Try.prog 42 #[.slice A ps.length c] w fun e w' => e = .returned (.tuple #[rv (boxZ ps), iv (chkZ ps)]) ∧ Below w.heap.size w w' := by
  have HS := Lib.hid hsp; clear hsp
  by_cases h0 : chkZ ps = 0
  case neg =>
    have H0 := Lib.hid h0
    have hd : (chkZ ps != 0) = true := by simpa using h0
    clear h0
    go_enter Try.func42, Try.ntmps42
    go_wp2_with fail
    refine (check38 A c ps _ (HS.out.later (below_alloc _ _)) hcap).mono ?_
    rintro e w1 ⟨rfl, hb1⟩
    have B2 := (Blk.new w 41 #[iv 0, iv 0, iv 0, iv 0]).later hb1
    have hB1 := below_trans (below_alloc _ _) hb1
    clear hb1
    have f0 := B2.cell 0; have f1 := B2.cell 1; have f2 := B2.cell 2; have f3 := B2.cell 3
    have z0 := B2.frozen 0; have z1 := B2.frozen 1; have z2 := B2.frozen 2; have z3 := B2.frozen 3
    simp at f0 f1 f2 f3
    have HB2 := Lib.hid B2
    clear B2
    go_wp2
    have B3 := HB2.out.set4 (iv 0) (iv 0) (iv 0) (iv 0)
    have hB3 := below_set4 hB1 (Nat.le_refl _) (iv 0) (iv 0) (iv 0) (iv 0)
    revert B3 hB3
    generalize ((((w1.setCell ⟨w.heap.size, 0, none⟩ (iv 0)).setCell ⟨w.heap.size, 1, none⟩ (iv 0)).setCell ⟨w.heap.size, 2, none⟩ (iv 0)).setCell ⟨w.heap.size, 3, none⟩ (iv 0)) = W
    intro B3 hB3
    have r0 := B3.cell 0; have r1 := B3.cell 1; have r2 := B3.cell 2; have r3 := B3.cell 3
    simp at r0 r1 r2 r3
    refine bodyPost_ret (v := .tuple #[rv ⟨0, 0, 0, 0⟩, iv (chkZ ps)]) ?_ rfl ?_
    · simp [results, Try.results42, go_sem, r0, r1, r2, r3]
    · rw [boxZ_neg H0.out]
      exact ⟨rfl, hB3⟩
  case pos =>
    have H0 := Lib.hid h0
    obtain ⟨hl, hl3, hD, _, _⟩ := chkZ_zero h0
    have HD := Lib.hid hD
    clear h0 hD
    go_enter Try.func42, Try.ntmps42
    go_wp2_with fail
    refine (check38 A c ps _ (HS.out.later (below_alloc _ _)) hcap).mono ?_
    rintro e w1 ⟨rfl, hb1⟩
    have B2 := (Blk.new w 41 #[iv 0, iv 0, iv 0, iv 0]).later hb1
    have hB1 := below_trans (below_alloc _ _) hb1
    clear hb1
    have HB2 := Lib.hid B2
    have nw : w.heap.size < w1.heap.size := B2.lt
    clear B2
    rw [H0.out]
    have hne : ps ≠ [] := by intro h; simp [h] at hl3
    obtain ⟨b, off, rfl, hc⟩ := HS.out.later hB1 hne
    obtain ⟨g1, g2⟩ := hc 0 (by omega)
    simp only [Nat.zero_mul, Nat.add_zero] at g1 g2
    clear hc
    have p1 : (0 : Int) < (ps.length : Int) := by omega
    have nb : b < w1.heap.size := World.block_lt_of_cell? _ _ g1
    have nb2 : b ≠ w1.heap.size := by omega
    have nb3 : b ≠ w1.heap.size + 1 := by omega
    go_upto_region 4 with fail
    go_cut [5, 6] (fun u v wx => ∃ gl gh : Nat, u = .pointer (some ⟨gl, 0, none⟩) ∧ v = .pointer (some ⟨gh, 0, none⟩) ∧ w1.heap.size ≤ gl ∧ w1.heap.size ≤ gh ∧ gl ≠ gh ∧ Blk wx gl 30 #[iv (pt ps 0).x, iv (pt ps 0).y] ∧ Blk wx gh 30 #[iv (pt ps 0).x, iv (pt ps 0).y] ∧ Below w1.heap.size w1 wx)
    case first =>
      go_region
      · go_wp2_with fail
        go_meet
        have F := two_new w1 30 #[iv (pt ps 0).x, iv (pt ps 0).y] #[iv (pt ps 0).x, iv (pt ps 0).y]
        exact ⟨w1.heap.size, w1.heap.size + 1, rfl, rfl, by omega, by omega, by omega, F.1, F.2.1, F.2.2.drew⟩
      · go_wp2_with fail
        go_meet
        have F := two_new w1 30 #[iv (pt ps 0).x, iv (pt ps 0).y] #[iv (pt ps 0).x, iv (pt ps 0).y]
        exact ⟨w1.heap.size + 1, w1.heap.size, rfl, rfl, by omega, by omega, by omega, F.2.1, F.1, F.2.2.drew⟩
    case rest =>
      obtain ⟨gl, gh, rfl, rfl, nl, nh, nlh, Bl, Bh, hbx⟩ := hcut
      have HI := Lib.hid (And.intro Bl (And.intro Bh (And.intro (HB2.out.later hbx) (hB1.trans (hbx.mono hB1.size)))))
      clear Bl Bh hbx g1 g2 nb nb2 nb3 HB2
      go_wp2
      go_loopw [23] (fun i wr => ∃ k : Nat, k ≤ ps.length ∧ i = .int .i64 k ∧ Blk wr gl 30 #[iv (loTo ps k).x, iv (loTo ps k).y] ∧ Blk wr gh 30 #[iv (hiTo ps k).x, iv (hiTo ps k).y] ∧ Blk wr w.heap.size 41 #[iv 0, iv 0, iv 0, iv 0] ∧ Below w.heap.size w wr) (fun i _ => ps.length - (intOf i).toNat)
      case atStart => exact ⟨0, Nat.zero_le _, rfl, HI.out.1, HI.out.2.1, HI.out.2.2.1, HI.out.2.2.2⟩
      case round =>
        clear HI
        obtain ⟨k, hk, rfl, Bl, Bh, Br, hB⟩ := hrel
        have HL := Lib.hid Bl; have HH := Lib.hid Bh; have HR := Lib.hid Br
        have ll := Bl.lt
        have lh := Bh.lt
        have hlo := loTo_bd HD.out k
        have hhi := hiTo_bd HD.out k
        unfold Bd at hlo hhi
        have f1 := Bl.cell 0; have f2 := Bl.cell 1; have f3 := Bh.cell 0; have f4 := Bh.cell 1
        have z1 := Bl.frozen 0; have z2 := Bl.frozen 1; have z3 := Bh.frozen 0; have z4 := Bh.frozen 1
        have f5 := Br.cell 0; have f6 := Br.cell 1; have f7 := Br.cell 2; have f8 := Br.cell 3
        have z5 := Br.frozen 0; have z6 := Br.frozen 1; have z7 := Br.frozen 2; have z8 := Br.frozen 3
        simp at f1 f2 f3 f4 f5 f6 f7 f8
        clear Bl Bh Br
        by_cases hlt : k < ps.length
        · obtain ⟨b, off, hA, hc⟩ := HS.out.later hB hne
          injection hA with hA
          injection hA with hA1 hA2
          subst hA1 hA2
          obtain ⟨g1, g2⟩ := hc k hlt
          clear hc
          have nb : b < wr.heap.size := World.block_lt_of_cell? _ _ g1
          have y1 : gl ≠ wr.heap.size := by omega
          have y2 : gh ≠ wr.heap.size := by omega
          have y3 : gh ≠ gl := by omega
          go_wp2
          go_roundw
          case rel =>
            have F := box_step HL.out HH.out HR.out hB (by omega) (by omega) nlh (iv (min (loTo ps k).x (pt ps k).x)) (iv (min (loTo ps k).y (pt ps k).y)) (iv (max (hiTo ps k).x (pt ps k).x)) (iv (max (hiTo ps k).y (pt ps k).y)) (.cells #[iv (pt ps k).x, iv (pt ps k).y] 30)
            exact ⟨k + 1, by omega, by go_num, F.1, F.2.1, F.2.2.1, F.2.2.2⟩
          case measure => simp [intOf]; omega
        · obtain rfl : k = ps.length := by omega
          go_wp2
          have B3 := HR.out.set4 (iv (loTo ps ps.length).x) (iv (loTo ps ps.length).y) (iv ((hiTo ps ps.length).x - (loTo ps ps.length).x)) (iv ((hiTo ps ps.length).y - (loTo ps ps.length).y))
          have hB3 := below_set4 hB (Nat.le_refl _) (iv (loTo ps ps.length).x) (iv (loTo ps ps.length).y) (iv ((hiTo ps ps.length).x - (loTo ps ps.length).x)) (iv ((hiTo ps ps.length).y - (loTo ps ps.length).y))
          revert B3 hB3
          generalize ((((wr.setCell ⟨w.heap.size, 0, none⟩ (iv (loTo ps ps.length).x)).setCell ⟨w.heap.size, 1, none⟩ (iv (loTo ps ps.length).y)).setCell ⟨w.heap.size, 2, none⟩ (iv ((hiTo ps ps.length).x - (loTo ps ps.length).x))).setCell ⟨w.heap.size, 3, none⟩ (iv ((hiTo ps ps.length).y - (loTo ps ps.length).y))) = W
          intro B3 hB3
          have r0 := B3.cell 0; have r1 := B3.cell 1; have r2 := B3.cell 2; have r3 := B3.cell 3
          simp at r0 r1 r2 r3
          refine bodyPost_ret (v := .tuple #[rv (boxR ps), iv 0]) ?_ rfl ?_
          · simp [results, Try.results42, go_sem, r0, r1, r2, r3, boxR]
          · rw [boxZ_pos H0.out, H0.out]
            exact ⟨rfl, hB3⟩
end Go.Proofs.Ytfgeengdmbabhaa
