import Derived.Test.YtfgeengdmbabhaaWl
namespace Go.Proofs.Ytfgeengdmbabhaa
open Go.RowKit
attribute [local go_sem ↓] Go.wp_at_zero Go.wp_at_succ

set_option maxHeartbeats 400000 in
/-- garmentref11.Same -/
theorem same34 (A B : Option Addr) (n m c d : Nat) (ps qs : List Z2) (w : World) (e1 : ps.length = n) (e2 : qs.length = m) (h1 : Sp w A ps) (h2 : Sp w B qs) (hn : n ≤ 1000000000) :
    Calls Try.prog 34 #[.slice A n c, .slice B m d] w fun e w' => e = .returned (.bool (decide (ps = qs))) ∧ Below w.heap.size w w' := by
  subst e1 e2
  have H1 := Lib.hid h1; have H2 := Lib.hid h2
  clear h1 h2
  by_cases hl : ps.length = qs.length
  · have q0 : ((ps.length : Int) != (qs.length : Int)) = false := by simp [hl]
    have HL := Lib.hid hl
    clear hl
    go_enter Try.func34, Try.ntmps34
    go_wp2
    go_loopw [5] (fun i wr => ∃ k : Nat, k ≤ ps.length ∧ i = .int .i64 k ∧ (∀ j, j < k → pt ps j = pt qs j) ∧ Below w.heap.size w wr) (fun i _ => ps.length - (intOf i).toNat)
    case atStart => exact ⟨0, Nat.zero_le _, rfl, fun j hj => absurd hj (by omega), Below.refl _ _⟩
    case round =>
      obtain ⟨k, hk, rfl, hno, hB⟩ := hrel
      have HN := Lib.hid hno
      clear hno
      by_cases hlt : k < ps.length
      · have hlt2 : k < qs.length := by have := HL.out; omega
        have hne1 : ps ≠ [] := by intro h; simp [h] at hlt
        have hne2 : qs ≠ [] := by intro h; simp [h] at hlt2
        obtain ⟨b, off, rfl, hc⟩ := H1.out.later hB hne1
        obtain ⟨b', off', rfl, hc'⟩ := H2.out.later hB hne2
        obtain ⟨g1, g2⟩ := hc k hlt
        obtain ⟨g3, g4⟩ := hc' k hlt2
        have he := fun w => neq30 (pt ps k) (pt qs k) w
        have i1 : (0 : Int) ≤ (k : Int) := by omega
        have i2 : (k : Int) < (ps.length : Int) := by omega
        have i3 : (k : Int) < (qs.length : Int) := by omega
        clear hc hc' hne1 hne2
        go_wp2
        go_region_held3 (fun w' => Below w.heap.size w w' ∧ w'.cell? ⟨b, off + k * 2, none⟩ = some (iv (pt ps k).x) ∧ w'.cell? ⟨b, off + k * 2 + 1, none⟩ = some (iv (pt ps k).y) ∧ w'.cell? ⟨b', off' + k * 2, none⟩ = some (iv (pt qs k).x) ∧ w'.cell? ⟨b', off' + k * 2 + 1, none⟩ = some (iv (pt qs k).y)) (first | exact ⟨hB.drew, g1, g2, g3, g4⟩ | assumption) (fail)
        go_split_ands
        clear he
        cases hz : eqZ (pt ps k) (pt qs k)
        case true =>
          have HZ := Lib.hid hz
          clear hz
          go_wp2
          go_roundw
          case rel =>
            refine ⟨k + 1, by omega, by go_num, fun j hj => ?_, by assumption⟩
            by_cases e : j = k
            · subst e; simpa [eqZ] using HZ.out
            · exact HN.out j (by omega)
          case measure => simp [intOf]; omega
        case false =>
          have HZ := Lib.hid hz
          clear hz
          go_wp2
          go_ret
          refine ⟨ret_bool ?_, by assumption⟩
          symm
          rw [decide_eq_false_iff_not]
          rintro rfl
          have := HZ.out
          simp [eqZ] at this
      · go_wp2
        go_ret
        refine ⟨ret_bool ?_, hB⟩
        symm
        rw [decide_eq_true_iff]
        exact pt_ext HL.out (fun t ht => HN.out t (by omega))
  · have q0 : ((ps.length : Int) != (qs.length : Int)) = true := by simp; omega
    have HL := Lib.hid hl
    clear hl
    go_enter Try.func34, Try.ntmps34
    go_wp2
    go_ret
    refine ⟨ret_bool ?_, Below.refl _ _⟩
    symm
    rw [decide_eq_false_iff_not]
    rintro rfl
    exact HL.out rfl

/-- garmentlaw11.few -/
theorem few30 (A : Option Addr) (n c : Nat) (w : World) : Calls Try.prog 30 #[.slice A n c] w fun e w' => e = .returned (.bool (decide (n ≤ 50))) ∧ w = w' := by
  go_enter Try.func30, Try.ntmps30
  go_wp2
  go_ret
  exact ⟨ret_bool (by rw [Bool.eq_iff_iff]; simp; omega), rfl⟩

/-- the chapter's polygons -/
def sqZ : List Z2 := [⟨0, 0⟩, ⟨4, 0⟩, ⟨4, 4⟩, ⟨0, 4⟩]
def longZ : List Z2 := [⟨4, 4⟩, ⟨4, 0⟩, ⟨2, 0⟩, ⟨0, 0⟩, ⟨0, 4⟩]
def elZ : List Z2 := [⟨0, 0⟩, ⟨4, 0⟩, ⟨4, 2⟩, ⟨2, 2⟩, ⟨2, 4⟩, ⟨0, 4⟩]
def crossedZ : List Z2 := [⟨0, 0⟩, ⟨4, 4⟩, ⟨4, 0⟩, ⟨0, 4⟩]

theorem ex_norm : normZ longZ = sqZ ∧ chkZ longZ = 0 := by decide +kernel
theorem ex_w1 : whereZ sqZ ⟨1, 1⟩ = 1 ∧ whereZ sqZ ⟨4, 2⟩ = 0 ∧ chkZ sqZ = 0 ∧ whereZ elZ ⟨3, 3⟩ = -1 ∧ chkZ elZ = 0 := by decide +kernel
theorem ex_box : boxZ elZ = ⟨0, 0, 4, 4⟩ ∧ cvZ sqZ = true ∧ cvZ elZ = false := by decide +kernel
theorem ex_area : aZ sqZ = 32 ∧ aZ longZ = -32 ∧ aZ crossedZ = 0 ∧ chkZ crossedZ = 11 ∧ chkZ (sqZ.take 2) = 11 := by decide +kernel
end Go.Proofs.Ytfgeengdmbabhaa
