import Derived.Test.YtfgeengdmbabhaaChecked
import Derived.WalkKit
import Derived.WalkLawsBesides
import Derived.WalkSpells
import Derived.Below
import Derived.Lib.Hide
import Derived.Deep.RegionHeld3
import Derived.Deep.DeepCutAuto
import Derived.Deep.DrawnRows
import Derived.KernelRfl
namespace Go.Proofs.Ytfgeengdmbabhaa
open Go.RowKit

/-- a spot -/
structure Z2 where
  x : Int
  y : Int
deriving DecidableEq

/-- its value -/
abbrev sv (p : Z2) : Value := .agg #[.int .i64 p.x, .int .i64 p.y]
abbrev iv (n : Int) : Value := .int .i64 n

/-- moderate coordinates -/
def Bd (p : Z2) : Prop := -4194304 ≤ p.x ∧ p.x ≤ 4194304 ∧ -4194304 ≤ p.y ∧ p.y ≤ 4194304

def crZ (a b c : Z2) : Int := (b.x - a.x) * (c.y - a.y) - (b.y - a.y) * (c.x - a.x)

theorem mul_bd {a b M N : Int} (h1 : -M ≤ a) (h2 : a ≤ M) (h3 : -N ≤ b) (h4 : b ≤ N) : -(M * N) ≤ a * b ∧ a * b ≤ M * N := by
  have e1 : 0 ≤ (M - a) * (N + b) := Int.mul_nonneg (by omega) (by omega)
  have e2 : 0 ≤ (M + a) * (N - b) := Int.mul_nonneg (by omega) (by omega)
  have e3 : 0 ≤ (M - a) * (N - b) := Int.mul_nonneg (by omega) (by omega)
  have e4 : 0 ≤ (M + a) * (N + b) := Int.mul_nonneg (by omega) (by omega)
  grind

theorem sub_bd {a b : Int} (h1 : -4194304 ≤ a) (h2 : a ≤ 4194304) (h3 : -4194304 ≤ b) (h4 : b ≤ 4194304) : -8388608 ≤ a - b ∧ a - b ≤ 8388608 := by omega

theorem prod_bd {a b : Int} (h1 : -8388608 ≤ a ∧ a ≤ 8388608) (h2 : -8388608 ≤ b ∧ b ≤ 8388608) : -70368744177664 ≤ a * b ∧ a * b ≤ 70368744177664 := by
  have := mul_bd (M := 8388608) (N := 8388608) h1.1 h1.2 h2.1 h2.2
  omega

theorem crZ_bd {a b c : Z2} (ha : Bd a) (hb : Bd b) (hc : Bd c) : -140737488355328 ≤ crZ a b c ∧ crZ a b c ≤ 140737488355328 := by
  unfold Bd at *
  have e1 := prod_bd (a := b.x - a.x) (b := c.y - a.y) (by omega) (by omega)
  have e2 := prod_bd (a := b.y - a.y) (b := c.x - a.x) (by omega) (by omega)
  unfold crZ; omega

theorem wrap64_in {n : Int} (h1 : -9223372036854775808 ≤ n) (h2 : n ≤ 9223372036854775807) : wrap64 n = n := by
  unfold wrap64; omega

theorem crZ_wrap {a b c : Z2} (ha : Bd a) (hb : Bd b) (hc : Bd c) :
    wrap64 (wrap64 ((b.x - a.x) * (c.y - a.y)) - wrap64 ((b.y - a.y) * (c.x - a.x))) = crZ a b c := by
  have h0 := crZ_bd ha hb hc
  unfold Bd at *
  have e1 := prod_bd (a := b.x - a.x) (b := c.y - a.y) (by omega) (by omega)
  have e2 := prod_bd (a := b.y - a.y) (b := c.x - a.x) (by omega) (by omega)
  rw [wrap64_in (n := (b.x - a.x) * (c.y - a.y)) (by omega) (by omega), wrap64_in (n := (b.y - a.y) * (c.x - a.x)) (by omega) (by omega)]
  unfold crZ at *
  rw [wrap64_in (by omega) (by omega)]

theorem ret_int {k : IntKind} {a b : Int} (h : a = b) : Ending.returned (.int k a) = .returned (.int k b) := by rw [h]
theorem ret_bool {a b : Bool} (h : a = b) : Ending.returned (.bool a) = .returned (.bool b) := by rw [h]

theorem bcell {W w1 : World} (hb : Below W.heap.size W w1) : (∀ b o, b < W.heap.size → w1.cell? ⟨b, o, none⟩ = W.cell? ⟨b, o, none⟩) ∧ (∀ b o, b < W.heap.size → w1.frozen? ⟨b, o, none⟩ = W.frozen? ⟨b, o, none⟩) :=
  ⟨fun b o h => hb.cell (p := ⟨b, o, none⟩) h, fun b o h => hb.frozen (p := ⟨b, o, none⟩) h⟩

theorem below_trans {a b c : World} (h : Below a.heap.size a b) (k : Below b.heap.size b c) : Below a.heap.size a c := h.trans (k.mono h.size)
theorem below_alloc (w : World) (o : Obj) : Below w.heap.size w (w.alloc o) := (Below.refl _ _).alloc (Nat.le_refl _) _
theorem below_drew (w : World) : Below w.heap.size w w.drew := (Below.refl _ _).drew

/-- the world behind the boxes of two, three and four spots -/
theorem boxes2 (w : World) (a b : Z2) : Below w.heap.size w ((w.alloc (.cells #[iv a.x, iv a.y] 30)).alloc (.cells #[iv b.x, iv b.y] 30))
    ∧ ((w.alloc (.cells #[iv a.x, iv a.y] 30)).alloc (.cells #[iv b.x, iv b.y] 30)).cell? ⟨w.heap.size, 0, none⟩ = some (iv a.x) ∧ ((w.alloc (.cells #[iv a.x, iv a.y] 30)).alloc (.cells #[iv b.x, iv b.y] 30)).cell? ⟨w.heap.size, 1, none⟩ = some (iv a.y)
    ∧ ((w.alloc (.cells #[iv a.x, iv a.y] 30)).alloc (.cells #[iv b.x, iv b.y] 30)).cell? ⟨w.heap.size + 1, 0, none⟩ = some (iv b.x) ∧ ((w.alloc (.cells #[iv a.x, iv a.y] 30)).alloc (.cells #[iv b.x, iv b.y] 30)).cell? ⟨w.heap.size + 1, 1, none⟩ = some (iv b.y) := by
  have h1 := below_alloc w (.cells #[iv a.x, iv a.y] 30)
  have h2 := below_alloc (w.alloc (.cells #[iv a.x, iv a.y] 30)) (.cells #[iv b.x, iv b.y] 30)
  exact ⟨below_trans h1 h2, cell_later h2 (by simp), cell_later h2 (by simp), by simp, by simp⟩
theorem boxes3 (w : World) (a b c : Z2) : Below w.heap.size w (((w.alloc (.cells #[iv a.x, iv a.y] 30)).alloc (.cells #[iv b.x, iv b.y] 30)).alloc (.cells #[iv c.x, iv c.y] 30))
    ∧ (((w.alloc (.cells #[iv a.x, iv a.y] 30)).alloc (.cells #[iv b.x, iv b.y] 30)).alloc (.cells #[iv c.x, iv c.y] 30)).cell? ⟨w.heap.size, 0, none⟩ = some (iv a.x) ∧ (((w.alloc (.cells #[iv a.x, iv a.y] 30)).alloc (.cells #[iv b.x, iv b.y] 30)).alloc (.cells #[iv c.x, iv c.y] 30)).cell? ⟨w.heap.size, 1, none⟩ = some (iv a.y)
    ∧ (((w.alloc (.cells #[iv a.x, iv a.y] 30)).alloc (.cells #[iv b.x, iv b.y] 30)).alloc (.cells #[iv c.x, iv c.y] 30)).cell? ⟨w.heap.size + 1, 0, none⟩ = some (iv b.x) ∧ (((w.alloc (.cells #[iv a.x, iv a.y] 30)).alloc (.cells #[iv b.x, iv b.y] 30)).alloc (.cells #[iv c.x, iv c.y] 30)).cell? ⟨w.heap.size + 1, 1, none⟩ = some (iv b.y)
    ∧ (((w.alloc (.cells #[iv a.x, iv a.y] 30)).alloc (.cells #[iv b.x, iv b.y] 30)).alloc (.cells #[iv c.x, iv c.y] 30)).cell? ⟨w.heap.size + 1 + 1, 0, none⟩ = some (iv c.x) ∧ (((w.alloc (.cells #[iv a.x, iv a.y] 30)).alloc (.cells #[iv b.x, iv b.y] 30)).alloc (.cells #[iv c.x, iv c.y] 30)).cell? ⟨w.heap.size + 1 + 1, 1, none⟩ = some (iv c.y) := by
  obtain ⟨h0, h1, h2, h3, h4⟩ := boxes2 w a b
  have hs : ((w.alloc (.cells #[iv a.x, iv a.y] 30)).alloc (.cells #[iv b.x, iv b.y] 30)).heap.size = w.heap.size + 1 + 1 := by simp
  generalize ((w.alloc (.cells #[iv a.x, iv a.y] 30)).alloc (.cells #[iv b.x, iv b.y] 30)) = W at *
  have k := below_alloc W (.cells #[iv c.x, iv c.y] 30)
  exact ⟨below_trans h0 k, cell_later k h1, cell_later k h2, cell_later k h3, cell_later k h4, by rw [← hs]; simp, by rw [← hs]; simp⟩
theorem boxes4 (w : World) (a b c d : Z2) : Below w.heap.size w ((((w.alloc (.cells #[iv a.x, iv a.y] 30)).alloc (.cells #[iv b.x, iv b.y] 30)).alloc (.cells #[iv c.x, iv c.y] 30)).alloc (.cells #[iv d.x, iv d.y] 30))
    ∧ ((((w.alloc (.cells #[iv a.x, iv a.y] 30)).alloc (.cells #[iv b.x, iv b.y] 30)).alloc (.cells #[iv c.x, iv c.y] 30)).alloc (.cells #[iv d.x, iv d.y] 30)).cell? ⟨w.heap.size, 0, none⟩ = some (iv a.x) ∧ ((((w.alloc (.cells #[iv a.x, iv a.y] 30)).alloc (.cells #[iv b.x, iv b.y] 30)).alloc (.cells #[iv c.x, iv c.y] 30)).alloc (.cells #[iv d.x, iv d.y] 30)).cell? ⟨w.heap.size, 1, none⟩ = some (iv a.y)
    ∧ ((((w.alloc (.cells #[iv a.x, iv a.y] 30)).alloc (.cells #[iv b.x, iv b.y] 30)).alloc (.cells #[iv c.x, iv c.y] 30)).alloc (.cells #[iv d.x, iv d.y] 30)).cell? ⟨w.heap.size + 1, 0, none⟩ = some (iv b.x) ∧ ((((w.alloc (.cells #[iv a.x, iv a.y] 30)).alloc (.cells #[iv b.x, iv b.y] 30)).alloc (.cells #[iv c.x, iv c.y] 30)).alloc (.cells #[iv d.x, iv d.y] 30)).cell? ⟨w.heap.size + 1, 1, none⟩ = some (iv b.y)
    ∧ ((((w.alloc (.cells #[iv a.x, iv a.y] 30)).alloc (.cells #[iv b.x, iv b.y] 30)).alloc (.cells #[iv c.x, iv c.y] 30)).alloc (.cells #[iv d.x, iv d.y] 30)).cell? ⟨w.heap.size + 1 + 1, 0, none⟩ = some (iv c.x) ∧ ((((w.alloc (.cells #[iv a.x, iv a.y] 30)).alloc (.cells #[iv b.x, iv b.y] 30)).alloc (.cells #[iv c.x, iv c.y] 30)).alloc (.cells #[iv d.x, iv d.y] 30)).cell? ⟨w.heap.size + 1 + 1, 1, none⟩ = some (iv c.y)
    ∧ ((((w.alloc (.cells #[iv a.x, iv a.y] 30)).alloc (.cells #[iv b.x, iv b.y] 30)).alloc (.cells #[iv c.x, iv c.y] 30)).alloc (.cells #[iv d.x, iv d.y] 30)).cell? ⟨w.heap.size + 1 + 1 + 1, 0, none⟩ = some (iv d.x) ∧ ((((w.alloc (.cells #[iv a.x, iv a.y] 30)).alloc (.cells #[iv b.x, iv b.y] 30)).alloc (.cells #[iv c.x, iv c.y] 30)).alloc (.cells #[iv d.x, iv d.y] 30)).cell? ⟨w.heap.size + 1 + 1 + 1, 1, none⟩ = some (iv d.y) := by
  obtain ⟨h0, h1, h2, h3, h4, h5, h6⟩ := boxes3 w a b c
  have hs : (((w.alloc (.cells #[iv a.x, iv a.y] 30)).alloc (.cells #[iv b.x, iv b.y] 30)).alloc (.cells #[iv c.x, iv c.y] 30)).heap.size = w.heap.size + 1 + 1 + 1 := by simp
  generalize (((w.alloc (.cells #[iv a.x, iv a.y] 30)).alloc (.cells #[iv b.x, iv b.y] 30)).alloc (.cells #[iv c.x, iv c.y] 30)) = W at *
  have k := below_alloc W (.cells #[iv d.x, iv d.y] 30)
  exact ⟨below_trans h0 k, cell_later k h1, cell_later k h2, cell_later k h3, cell_later k h4, cell_later k h5, cell_later k h6, by rw [← hs]; simp, by rw [← hs]; simp⟩

set_option maxHeartbeats 400000 in
/-- polygon.cross -/
theorem cross81 (a b c : Z2) (w : World) (ha : Bd a) (hb : Bd b) (hc : Bd c) :
    Calls Try.prog 81 #[sv a, sv b, sv c] w fun e w' => e = .returned (iv (crZ a b c)) ∧ Below w.heap.size w w' := by
  have HE := Lib.hid (crZ_wrap ha hb hc)
  obtain ⟨a1, a2, a3, a4⟩ := ha
  obtain ⟨b1, b2, b3, b4⟩ := hb
  obtain ⟨c1, c2, c3, c4⟩ := hc
  go_enter Try.func81, Try.ntmps81
  go_wp2
  go_ret
  exact ⟨ret_int HE.out, (((Below.refl _ _).alloc (Nat.le_refl _) _).alloc (by simp) _).alloc (by simp; omega) _⟩

def onZ (a b p : Z2) : Bool := decide (crZ a b p = 0) && decide (min a.x b.x ≤ p.x) && decide (p.x ≤ max a.x b.x) && decide (min a.y b.y ≤ p.y) && decide (p.y ≤ max a.y b.y)

set_option maxHeartbeats 400000 in
/-- polygon.on -/
theorem on80 (a b c : Z2) (w : World) (ha : Bd a) (hb : Bd b) (hc : Bd c) :
    Calls Try.prog 80 #[sv a, sv b, sv c] w fun e w' => e = .returned (.bool (onZ a b c)) ∧ Below w.heap.size w w' := by
  go_enter Try.func80, Try.ntmps80
  go_wp2_with fail
  refine (cross81 a b c _ ha hb hc).mono ?_
  rintro e w1 ⟨rfl, hb1⟩
  obtain ⟨hcl, hfr⟩ := bcell hb1
  go_wp2_with fail
  all_goals
    go_ret
    refine ⟨ret_bool ?_, (((((Below.refl _ _).alloc (Nat.le_refl _) _).alloc (by simp) _).alloc (by simp; omega) _).trans (hb1.mono (by simp; omega)))⟩
    rw [Bool.eq_iff_iff]
    simp [onZ]
    omega
/-- equality of spots -/
def eqZ (a b : Z2) : Bool := decide (a = b)
theorem eql30 (a b : Z2) (w : World) : (binOp .eql 30 (sv a) (sv b)).run Try.prog w = .ok (.bool (eqZ a b)) w := by
  obtain ⟨ax, ay⟩ := a
  obtain ⟨bx, bY⟩ := b
  by_cases h1 : ax = bx
  · subst h1
    by_cases h2 : ay = bY
    · subst h2; go_simp; simp [eqZ]
    · go_simp; simp [eqZ, h2]
  · go_simp; simp [eqZ, h1]
theorem neq30 (a b : Z2) (w : World) : (binOp .neq 30 (sv a) (sv b)).run Try.prog w = .ok (.bool (!eqZ a b)) w := by
  obtain ⟨ax, ay⟩ := a
  obtain ⟨bx, bY⟩ := b
  by_cases h1 : ax = bx
  · subst h1
    by_cases h2 : ay = bY
    · subst h2; go_simp; simp [eqZ]
    · go_simp; simp [eqZ, h2]
  · go_simp; simp [eqZ, h1]
end Go.Proofs.Ytfgeengdmbabhaa
