import Derived.Test.YtfgeengdmbabhaaA5
import Derived.Test.YtfgeengdmbabhaaSc
/- Plain laws of convex polygons. -/
namespace Go.Proofs.Ytfgeengdmbabhaa
open Geo (Pt cr On Simple edges mem_edges esum)

/-- no turn to the right -/
theorem left_poly {ps : List Z2} (h : Simple (poly ps)) : Geo.Left (poly ps) ↔ ∀ i, i < ps.length → 0 ≤ bendZ ps i := by
  constructor
  · intro hl i hi
    have := hl _ _ _ (edge_in hi) (edge_out hi)
    rw [cr_toPt] at this
    exact Rat.intCast_nonneg.1 this
  · intro hb a b c h1 h2
    obtain ⟨j, hj, e⟩ := mem_edges_poly.1 h2
    injection e with e1 e2
    subst e1 e2
    rw [h.to_eq h1 (edge_in hj), cr_toPt]
    exact Rat.intCast_nonneg.2 (hb j hj)
theorem convexZ_iff (ps : List Z2) : convexZ ps = true ↔ (∀ i, i < ps.length → 0 ≤ bendZ ps i) ∧ 0 < areaZ ps := by
  unfold convexZ
  rw [Bool.and_eq_true, decide_eq_true_eq, List.all_eq_true]
  simp
/-- without turns to the right the area is above 0 -/
theorem convex_area {ps : List Z2} (h : chkZ ps = 0) (hb : ∀ i, i < ps.length → 0 ≤ bendZ ps i) : 0 < areaZ ps :=
  (LT_area (chk_simple h)).1 (((left_poly (chk_simple h)).2 hb).LT (chk_simple h))
theorem convex_norm {ps : List Z2} (h : chkZ ps = 0) (hc : convexZ ps = true) : Geo.SC (poly (normZ ps)) := by
  obtain ⟨hb, ha⟩ := (convexZ_iff ps).1 hc
  have hs := chk_simple h
  have hsc := (Geo.left_sc hs ((left_poly hs).2 hb)).2
  rw [← corners_keep hs] at hsc
  rw [normZ_pos h]
  unfold normR
  refine Geo.SC.rot ?_ (rotZ_rot (corn ps)).symm
  unfold corn
  rw [if_neg (by omega)]
  exact hsc

/-- a point in a convex polygon -/
theorem convexity_law {ps : List Z2} (h : chkZ ps = 0) (hc : convexZ ps = true) {q : Z2} (hq : outZ q = false) :
    (placeZ ps q = 1 ↔ ∀ i, i < ps.length → 0 < crZ (pt ps i) (nx ps i) q) ∧ (placeZ ps q = -1 ↔ ∃ i, i < ps.length ∧ crZ (pt ps i) (nx ps i) q < 0) := by
  obtain ⟨hb, ha⟩ := (convexZ_iff ps).1 hc
  have hs := chk_simple h
  obtain ⟨hL, hsc⟩ := Geo.left_sc hs ((left_poly hs).2 hb)
  obtain ⟨_, k1, k2⟩ := Geo.keepF_conv _ _ rfl hs
  have hk := Geo.keepF_simple hs
  have i1 : (∀ e ∈ edges (poly ps), 0 < cr e.1 e.2 (toPt q)) ↔ ∀ i, i < ps.length → 0 < crZ (pt ps i) (nx ps i) q := by
    constructor
    · intro g i hi
      have := g _ (mem_edges_poly.2 ⟨i, hi, rfl⟩)
      rw [cr_toPt] at this
      exact Rat.intCast_pos.1 this
    · intro g e he
      obtain ⟨i, hi, rfl⟩ := mem_edges_poly.1 he
      rw [cr_toPt]; exact Rat.intCast_pos.2 (g i hi)
  have i2 : (∃ e ∈ edges (poly ps), cr e.1 e.2 (toPt q) < 0) ↔ ∃ i, i < ps.length ∧ crZ (pt ps i) (nx ps i) q < 0 := by
    constructor
    · rintro ⟨e, he, g⟩
      obtain ⟨i, hi, rfl⟩ := mem_edges_poly.1 he
      rw [cr_toPt] at g
      exact ⟨i, hi, Rat.intCast_neg_iff.1 g⟩
    · rintro ⟨i, hi, g⟩
      exact ⟨_, mem_edges_poly.2 ⟨i, hi, rfl⟩, by rw [cr_toPt]; exact Rat.intCast_neg_iff.2 g⟩
  rw [← i1, ← i2, k1, k2]
  have hon : onAny ps q = true ↔ ∃ e ∈ edges (Geo.keepF (poly ps)), On e.1 e.2 (toPt q) := by rw [on_poly, Geo.keepF_on hs]
  have hw := Geo.keepF_w hs (toPt q)
  have pg := place_good hs ha hq
  by_cases g1 : ∀ e ∈ edges (Geo.keepF (poly ps)), 0 < cr e.1 e.2 (toPt q)
  · obtain ⟨w1, f1⟩ := Geo.sc_in hk hL hsc g1
    have no : onAny ps q = false := by
      rw [Bool.eq_false_iff]; intro o; obtain ⟨e, he, o⟩ := hon.1 o; exact f1 e he o
    have hp : placeZ ps q = 1 := by
      rcases pg with ⟨_, o⟩ | ⟨p, _⟩ | ⟨_, _, w0⟩
      · rw [no] at o; cases o
      · exact p
      · rw [← hw, w1] at w0; cases w0
    refine ⟨⟨fun _ => g1, fun _ => hp⟩, ⟨fun e => by omega, fun ⟨e, he, g⟩ => ?_⟩⟩
    have := g1 e he
    grind
  by_cases g2 : ∃ e ∈ edges (Geo.keepF (poly ps)), cr e.1 e.2 (toPt q) < 0
  · obtain ⟨e, he, g⟩ := g2
    obtain ⟨w1, f1⟩ := Geo.sc_out hsc he g
    have no : onAny ps q = false := by
      rw [Bool.eq_false_iff]; intro o; obtain ⟨e, he, o⟩ := hon.1 o; exact f1 e he o
    have hp : placeZ ps q = -1 := by
      rcases pg with ⟨_, o⟩ | ⟨_, _, w0⟩ | ⟨p, _⟩
      · rw [no] at o; cases o
      · rw [← hw, w1] at w0; cases w0
      · exact p
    exact ⟨⟨fun e => by omega, fun h => absurd h g1⟩, ⟨fun _ => ⟨e, he, g⟩, fun _ => hp⟩⟩
  · have ge : ∀ e ∈ edges (Geo.keepF (poly ps)), 0 ≤ cr e.1 e.2 (toPt q) := fun e he => by
      by_cases g : cr e.1 e.2 (toPt q) < 0
      · exact absurd ⟨e, he, g⟩ g2
      · grind
    obtain ⟨e, he, h0⟩ : ∃ e ∈ edges (Geo.keepF (poly ps)), cr e.1 e.2 (toPt q) = 0 := by
      refine Classical.byContradiction fun hn => g1 fun e he => ?_
      have := ge e he
      by_cases z : cr e.1 e.2 (toPt q) = 0
      · exact absurd ⟨e, he, z⟩ hn
      · grind
    have o := hon.2 ⟨e, he, Geo.sc_on hk hsc ge he h0⟩
    have hp : placeZ ps q = 0 := by
      rcases pg with ⟨p, _⟩ | ⟨_, o', _⟩ | ⟨_, o', _⟩
      · exact p
      · rw [o] at o'; cases o'
      · rw [o] at o'; cases o'
    exact ⟨⟨fun e => by omega, fun h => absurd h g1⟩, ⟨fun e => by omega, fun h => absurd h g2⟩⟩

/-- the number of triangles of a strictly convex polygon -/
theorem splitG_count (n : Nat) : ∀ (l : List Z2) (r : List (List Z2)), l.length = n → Simple (poly l) → Geo.LT (poly l) → Geo.SC (poly l) → (∀ p ∈ l, outZ p = false) →
    ∃ res, splitG n l r = some res ∧ res.length + 2 = r.length + n := by
  induction n with
  | zero => intro l r hl hs; have := hs.three; simp at this; omega
  | succ m ih =>
    intro l r hl hs hL hsc ho
    by_cases h3 : l.length ≤ 3
    · have hs3 := hs.three
      simp only [List.length_map] at hs3
      refine ⟨r ++ [l], by simp only [splitG]; rw [if_pos h3], by simp; omega⟩
    · have hlaw := splitG_law (m + 1) l r hl hs hL ho
      simp only [splitG] at hlaw ⊢
      rw [if_neg h3] at hlaw ⊢
      rcases firstZ_cases l.length (flatZ l) with ⟨i, hi, he, ht, hno⟩ | ⟨he, hno⟩
      · exfalso
        exact hsc.no_flat hs _ ((bend_flat hs hi).1 (by simpa [flatZ] using ht))
      · rw [he, if_neg (by omega)] at hlaw ⊢
        rcases firstZ_cases l.length (freeZ l) with ⟨i, hi, he2, ht, hno2⟩ | ⟨he2, hno2⟩
        · rw [he2, if_pos (by omega)]
          simp only [Int.toNat_natCast]
          unfold freeZ at ht
          rw [Bool.and_eq_true, decide_eq_true_eq, bendZ_corner] at ht
          obtain ⟨hb, hfree⟩ := ht
          have mA : cA l i ∈ l := pt_mem (Nat.mod_lt _ (by omega))
          have mC : cC l i ∈ l := pt_mem (Nat.mod_lt _ (by omega))
          have mB : pt l i ∈ l := pt_mem hi
          have hpa := poly_at l hi
          have hnoT : ∀ x ∈ poly l, x ≠ toPt (cA l i) → x ≠ toPt (pt l i) → x ≠ toPt (cC l i) → ¬ Geo.InT (toPt (cA l i)) (toPt (pt l i)) (toPt (cC l i)) x := by
            intro x hx xa xb xc hT
            obtain ⟨q, hq, rfl⟩ := List.mem_map.1 hx
            have hbl : blockZ l i q = false := by
              have := hfree
              simp only [Bool.not_eq_true'] at this
              have := List.any_eq_false.1 this q hq
              simpa using this
            have n1 : eqZ q (cA l i) = false := by unfold eqZ; rw [decide_eq_false_iff_not]; exact fun e => xa (by rw [e])
            have n2 : eqZ q (pt l i) = false := by unfold eqZ; rw [decide_eq_false_iff_not]; exact fun e => xb (by rw [e])
            have n3 : eqZ q (cC l i) = false := by unfold eqZ; rw [decide_eq_false_iff_not]; exact fun e => xc (by rw [e])
            unfold blockZ at hbl
            rw [n1, n2, n3] at hbl
            simp only [Bool.not_false, Bool.true_and, decide_eq_false_iff_not] at hbl
            rcases holds_geo hb (ho _ mA) (ho _ mB) (ho _ mC) (ho _ hq) with ⟨e, _⟩ | ⟨e, _⟩ | ⟨_, hn⟩
            · omega
            · omega
            · exact hn hT
          have hcr : 0 < cr (toPt (cA l i)) (toPt (pt l i)) (toPt (cC l i)) := by rw [cr_toPt]; exact Rat.intCast_pos.2 hb
          have h4 : 4 ≤ (poly l).length := by simp; omega
          have e1' : (toPt (cA l i), toPt (pt l i)) ∈ edges (poly l) := edge_in hi
          have e2' : (toPt (pt l i), toPt (cC l i)) ∈ edges (poly l) := edge_out hi
          rw [hpa] at hs hL hsc hnoT h4 e1' e2'
          obtain ⟨s1, s2, s3⟩ := Geo.cut_at h4 hs hL e1' e2' hcr hnoT
          have s4 := Geo.sc_cut_at h4 hs e1' e2' hnoT hsc
          rw [← poly_erase] at s1 s2 s4
          obtain ⟨res, t1, t2⟩ := ih (l.eraseIdx i) (r ++ [[cA l i, pt l i, cC l i]]) (by rw [List.length_eraseIdx_of_lt hi]; omega) s1 s2 s4 (fun p hp => ho p (List.mem_of_mem_eraseIdx hp))
          exact ⟨res, t1, by simp at t2; omega⟩
        · obtain ⟨ts, h, _⟩ := hlaw
          rw [he2, if_neg (by omega)] at h; cases h
theorem count_law {ps : List Z2} (h : chkZ ps = 0) (hc : convexZ ps = true) : (splitZ ps).length + 2 = (normZ ps).length := by
  have n := norm_norm h
  obtain ⟨res, h1, h2⟩ := splitG_count _ (normZ ps) [] rfl n.simple n.LT (convex_norm h hc) (n.in_range h)
  unfold splitZ
  rw [if_pos h, h1]
  simpa using h2
end Go.Proofs.Ytfgeengdmbabhaa
