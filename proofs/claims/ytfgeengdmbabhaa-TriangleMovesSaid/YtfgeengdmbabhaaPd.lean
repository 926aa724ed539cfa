/- Plain laws of polygons: areas, positions and corners in the geometry's words. -/
import Derived.Test.YtfgeengdmbabhaaPc
import Derived.Test.YtfgeengdmbabhaaGj
namespace Go.Proofs.Ytfgeengdmbabhaa
open Geo (Pt cr On Simple edges mem_edges esum)

theorem ar_poly (ps : List Z2) : Geo.ar (poly ps) = ((areaZ ps : Int) : Rat) := by
  unfold Geo.ar
  rw [areaZ_esum, Geo.edges_map]
  induction edges ps with
  | nil => rfl
  | cons e l ih =>
    simp only [List.map_cons, Geo.rsum]
    rw [ih, Geo.esum_cons]
    simp only [toPt, sideZ, Prod.map_fst, Prod.map_snd, Rat.intCast_add, Rat.intCast_sub, Rat.intCast_mul]
theorem chi_poly (a b q : Z2) : Geo.chi (toPt a) (toPt b) (toPt q) = if a.y ≤ q.y ∧ q.y < b.y ∧ 0 < crZ a b q then 1 else if b.y ≤ q.y ∧ q.y < a.y ∧ crZ a b q < 0 then -1 else 0 := by
  unfold Geo.chi
  rw [cr_toPt]
  simp only [toPt, Rat.intCast_le_intCast, Rat.intCast_lt_intCast, Rat.intCast_pos, Rat.intCast_neg_iff]
theorem cnt_w (ps : List Z2) (q : Z2) : (cntE q (edges ps) - Geo.w (poly ps) (toPt q)) % 2 = 0 := by
  unfold cntE Geo.w
  rw [Geo.edges_map, Geo.esum_map]
  induction edges ps with
  | nil => rfl
  | cons e l ih =>
    rw [Geo.esum_cons, Geo.esum_cons]
    simp only [Prod.map_fst, Prod.map_snd]
    rw [chi_poly]
    have hc := cross_iff e.1 e.2 q
    by_cases h1 : e.1.y ≤ q.y ∧ q.y < e.2.y ∧ 0 < crZ e.1 e.2 q
    · rw [if_pos h1, if_pos (hc.2 (.inl h1))]
      simp only [Prod.map_fst, Prod.map_snd] at ih
      omega
    · by_cases h2 : e.2.y ≤ q.y ∧ q.y < e.1.y ∧ crZ e.1 e.2 q < 0
      · rw [if_neg h1, if_pos h2, if_pos (hc.2 (.inr h2))]
        simp only [Prod.map_fst, Prod.map_snd] at ih
        omega
      · rw [if_neg h1, if_neg h2, if_neg (fun h => by rcases hc.1 h with h | h; exact h1 h; exact h2 h)]
        simp only [Prod.map_fst, Prod.map_snd] at ih
        omega
theorem on_poly (ps : List Z2) (q : Z2) : onAny ps q = true ↔ ∃ e ∈ edges (poly ps), On e.1 e.2 (toPt q) := by
  rw [onAny_iff, Geo.edges_map]
  constructor
  · rintro ⟨e, he, h⟩; exact ⟨_, List.mem_map_of_mem he, (onZ_iff _ _ _).1 h⟩
  · rintro ⟨e, he, h⟩
    obtain ⟨f, hf, rfl⟩ := List.mem_map.1 he
    exact ⟨f, hf, (onZ_iff _ _ _).2 h⟩
/-- the position, by the winding number -/
theorem place_w (ps : List Z2) (q : Z2) (hq : outZ q = false) : placeZ ps q = if onAny ps q then 0 else if Geo.w (poly ps) (toPt q) % 2 = 0 then -1 else 1 := by
  unfold placeZ
  rw [hq, parZ_cnt]
  have := cnt_w ps q
  have e : cntE q (edges ps) % 2 = 0 ↔ Geo.w (poly ps) (toPt q) % 2 = 0 := by omega
  simp only [e]
  rfl

theorem chk_simple {ps : List Z2} (h : chkZ ps = 0) : Simple (poly ps) := (simpleZ_iff (chkZ_zero h).2.1).1 (chkZ_zero h).2.2.2.2
theorem area_ne {ps : List Z2} (h : Simple (poly ps)) : areaZ ps ≠ 0 := fun e => Geo.ar_ne h (by rw [ar_poly, e]; rfl)
theorem LT_area {ps : List Z2} (h : Simple (poly ps)) : Geo.LT (poly ps) ↔ 0 < areaZ ps := by rw [Geo.LT_iff h, ar_poly, Rat.intCast_pos]
theorem good_area {ps : List Z2} (h : Simple (poly ps)) (ha : 0 < areaZ ps) : Geo.Good (poly ps) := ((LT_area h).2 ha).good h

theorem place_good {ps : List Z2} (h : Simple (poly ps)) (ha : 0 < areaZ ps) {q : Z2} (hq : outZ q = false) :
    (placeZ ps q = 0 ∧ onAny ps q = true) ∨ (placeZ ps q = 1 ∧ onAny ps q = false ∧ Geo.w (poly ps) (toPt q) = 1) ∨ (placeZ ps q = -1 ∧ onAny ps q = false ∧ Geo.w (poly ps) (toPt q) = 0) := by
  rw [place_w ps q hq]
  cases ho : onAny ps q with
  | true => exact .inl ⟨rfl, rfl⟩
  | false =>
    right
    have hoff : ∀ e ∈ edges (poly ps), ¬ On e.1 e.2 (toPt q) := fun e he h' => by
      have := (on_poly ps q).2 ⟨e, he, h'⟩
      rw [ho] at this; cases this
    rcases (good_area h ha).win _ hoff with hw | hw
    · right; rw [hw]; exact ⟨rfl, rfl, rfl⟩
    · left; rw [hw]; exact ⟨rfl, rfl, rfl⟩

/-! straight vertices -/
theorem edge_in {ps : List Z2} {i : Nat} (hi : i < ps.length) : (toPt (pt ps ((i + ps.length - 1) % ps.length)), toPt (pt ps i)) ∈ edges (poly ps) := by
  refine mem_edges_poly.2 ⟨(i + ps.length - 1) % ps.length, Nat.mod_lt _ (by omega), ?_⟩
  have e : ((i + ps.length - 1) % ps.length + 1) % ps.length = i := by
    rw [Nat.mod_add_mod]
    have : i + ps.length - 1 + 1 = i + ps.length := by omega
    rw [this, Nat.add_mod_right, Nat.mod_eq_of_lt hi]
  unfold nx
  rw [e]
theorem edge_out {ps : List Z2} {i : Nat} (hi : i < ps.length) : (toPt (pt ps i), toPt (pt ps ((i + 1) % ps.length))) ∈ edges (poly ps) := mem_edges_poly.2 ⟨i, hi, rfl⟩
theorem bend_flat {ps : List Z2} (h : Simple (poly ps)) {i : Nat} (hi : i < ps.length) : bendZ ps i = 0 ↔ Geo.Flat (poly ps) (toPt (pt ps i)) := by
  unfold bendZ
  constructor
  · intro e; exact ⟨_, _, edge_in hi, edge_out hi, by rw [cr_toPt, e]; rfl⟩
  · rintro ⟨p, s, h1, h2, h3⟩
    rw [h.to_eq h1 (edge_in hi), h.from_eq h2 (edge_out hi), cr_toPt] at h3
    simpa using h3
theorem corners_take {ps : List Z2} (h : Simple (poly ps)) (k : Nat) (hk : k ≤ ps.length) : poly (cornersTo ps k) = ((poly ps).take k).filter fun v => !Geo.flatB (poly ps) v := by
  induction k with
  | zero => rfl
  | succ k ih =>
    have hk' : k < (poly ps).length := by simp; omega
    have e1 : (poly ps)[k] = toPt (pt ps k) := by simp [pt_eq (show k < ps.length by omega)]
    rw [List.take_succ_eq_append_getElem hk', List.filter_append, ← ih (by omega), e1]
    simp only [cornersTo]
    have hb := bend_flat h (i := k) (by omega)
    rw [← Geo.flatB_iff] at hb
    by_cases hz : bendZ ps k = 0
    · rw [if_pos hz]
      simp [hb.1 hz]
    · rw [if_neg hz]
      have : Geo.flatB (poly ps) (toPt (pt ps k)) = false := by
        cases hf : Geo.flatB (poly ps) (toPt (pt ps k)) with
        | false => rfl
        | true => exact absurd (hb.2 hf) hz
      simp [this, poly]
theorem corners_keep {ps : List Z2} (h : Simple (poly ps)) : poly (cornersTo ps ps.length) = Geo.keepF (poly ps) := by
  rw [corners_take h _ (Nat.le_refl _)]
  unfold Geo.keepF
  rw [List.take_of_length_le (by simp)]
theorem corners_area {ps : List Z2} (h : Simple (poly ps)) : areaZ (cornersTo ps ps.length) = areaZ ps := by
  have h1 := Geo.keepF_ar h
  rw [← corners_keep h, ar_poly, ar_poly, Rat.intCast_inj] at h1
  exact h1
theorem corners_mem {ps : List Z2} (k : Nat) (hk : k ≤ ps.length) : ∀ p ∈ cornersTo ps k, p ∈ ps := by
  induction k with
  | zero => intro p hp; simp [cornersTo] at hp
  | succ k ih =>
    intro p hp
    simp only [cornersTo] at hp
    split at hp
    · exact ih (by omega) p hp
    · rcases List.mem_append.1 hp with hp | hp
      · exact ih (by omega) p hp
      · simp at hp; subst hp; exact pt_mem (by omega)
end Go.Proofs.Ytfgeengdmbabhaa
