import Derived.Test.YtfgeengdmbabhaaQa
import Derived.Test.YtfgeengdmbabhaaPj
import Derived.Test.YtfgeengdmbabhaaVb
/- Plain laws of overlapping polygons, part 2: boxes, points, sides, rectangles, lines. -/
namespace Go.Proofs.Ytfgeengdmbabhaa
open Geo (Pt cr On Simple edges mem_edges esum Ri Rg IntT InT Cov)

theorem in_box' {ps : List Z2} {p : Z2} (hp : p ∈ ps) : (boxR ps).x ≤ p.x ∧ p.x ≤ (boxR ps).x + (boxR ps).w ∧ (boxR ps).y ≤ p.y ∧ p.y ≤ (boxR ps).y + (boxR ps).h := by
  obtain ⟨k, hk, rfl⟩ := List.getElem_of_mem hp
  have h1 := loTo_le (ps := ps) hk
  have h2 := hiTo_ge (ps := ps) hk
  rw [pt_eq hk] at h1 h2
  simp only [boxR]; omega
theorem conv_x_ge (m : Rat) : Geo.Conv fun p => m ≤ p.x := fun _ _ _ h1 h2 h => Geo.on_x_ge h h1 h2
theorem conv_x_le (m : Rat) : Geo.Conv fun p => p.x ≤ m := fun _ _ _ h1 h2 h => Geo.on_x_le h h1 h2
theorem conv_y_ge (m : Rat) : Geo.Conv fun p => m ≤ p.y := fun _ _ _ h1 h2 h => Geo.on_y_ge h h1 h2
theorem conv_y_le (m : Rat) : Geo.Conv fun p => p.y ≤ m := fun _ _ _ h1 h2 h => Geo.on_y_le h h1 h2
/-- a convex set with the vertices holds the polygon -/
theorem all_conv {ps : List Z2} (h : chkZ ps = 0) {C : Pt → Prop} (hC : Geo.Conv C) (hv : ∀ p ∈ ps, C (toPt p)) {q : Pt} (hq : All ps q) : C q := by
  obtain ⟨s, hs, hi⟩ := (all_iff h q).1 hq
  obtain ⟨t, rfl, t1, m1, m2, m3⟩ := split_tri h hs
  have nn := norm_norm h
  have hT := tri_all'.1 hi
  exact Geo.conv_inT hC (by show 0 < cr (toPt t.1) (toPt t.2.1) (toPt t.2.2); rw [cr_toPt]; exact Rat.intCast_pos.2 t1) hT (hv _ (nn.mem _ m1)) (hv _ (nn.mem _ m2)) (hv _ (nn.mem _ m3))
theorem ri {a b : Int} (h : a ≤ b) : (a : Rat) ≤ (b : Rat) := Rat.intCast_le_intCast.2 h
theorem rl {a b : Int} (h : a < b) : (a : Rat) < (b : Rat) := Rat.intCast_lt_intCast.2 h
/-- the closed polygon lies in its box -/
theorem all_box {ps : List Z2} (h : chkZ ps = 0) {q : Pt} (hq : All ps q) :
    (((boxR ps).x : Int) : Rat) ≤ q.x ∧ q.x ≤ (((boxR ps).x + (boxR ps).w : Int) : Rat) ∧ (((boxR ps).y : Int) : Rat) ≤ q.y ∧ q.y ≤ (((boxR ps).y + (boxR ps).h : Int) : Rat) :=
  ⟨all_conv h (conv_x_ge _) (fun _ hp => ri (in_box' hp).1) hq, all_conv h (conv_x_le _) (fun _ hp => ri (in_box' hp).2.1) hq, all_conv h (conv_y_ge _) (fun _ hp => ri (in_box' hp).2.2.1) hq, all_conv h (conv_y_le _) (fun _ hp => ri (in_box' hp).2.2.2) hq⟩
/-- the inner part lies inside its box -/
theorem inn_box {ps : List Z2} (h : chkZ ps = 0) {q : Pt} (hq : Inn ps q) :
    (((boxR ps).x : Int) : Rat) < q.x ∧ q.x < (((boxR ps).x + (boxR ps).w : Int) : Rat) ∧ (((boxR ps).y : Int) : Rat) < q.y ∧ q.y < (((boxR ps).y + (boxR ps).h : Int) : Rat) := by
  have step : ∀ dx dy : Rat, ∃ k : Rat, 0 < k ∧ All ps ⟨q.x + k * dx, q.y + k * dy⟩ := fun dx dy => by
    obtain ⟨k, k0, k1, hk⟩ := inn_open ps q ⟨q.x + dx, q.y + dy⟩ hq
    have := (hk k (by grind) (by grind)).all
    refine ⟨k, k0, ?_⟩
    have e : Geo.lerp q ⟨q.x + dx, q.y + dy⟩ k = ⟨q.x + k * dx, q.y + k * dy⟩ := by apply Geo.Pt.ext' <;> simp only [Geo.lerp] <;> grind
    rw [e] at this; exact this
  refine ⟨?_, ?_, ?_, ?_⟩
  · obtain ⟨k, k0, hk⟩ := step (-1) 0
    have := (all_box h hk).1
    simp only at this; grind
  · obtain ⟨k, k0, hk⟩ := step 1 0
    have := (all_box h hk).2.1
    simp only at this; grind
  · obtain ⟨k, k0, hk⟩ := step 0 (-1)
    have := (all_box h hk).2.2.1
    simp only at this; grind
  · obtain ⟨k, k0, hk⟩ := step 0 1
    have := (all_box h hk).2.2.2
    simp only at this; grind
theorem lt_of_rat {a b : Int} {q : Rat} (h1 : (a : Rat) < q) (h2 : q < (b : Rat)) : a < b := Rat.intCast_lt_intCast.1 (by grind)
theorem le_of_rat {a b : Int} {q : Rat} (h1 : (a : Rat) ≤ q) (h2 : q ≤ (b : Rat)) : a ≤ b := Rat.intCast_le_intCast.1 (by grind)
def openR (a b : R4) : Bool := decide (a.x < b.x + b.w) && decide (b.x < a.x + a.w) && decide (a.y < b.y + b.h) && decide (b.y < a.y + a.h)
def closedR (a b : R4) : Bool := decide (a.x ≤ b.x + b.w) && decide (b.x ≤ a.x + a.w) && decide (a.y ≤ b.y + b.h) && decide (b.y ≤ a.y + a.h)
theorem openR_iff (a b : R4) : openR a b = true ↔ a.x < b.x + b.w ∧ b.x < a.x + a.w ∧ a.y < b.y + b.h ∧ b.y < a.y + a.h := by simp [openR, and_assoc]
theorem closedR_iff (a b : R4) : closedR a b = true ↔ a.x ≤ b.x + b.w ∧ b.x ≤ a.x + a.w ∧ a.y ≤ b.y + b.h ∧ b.y ≤ a.y + a.h := by simp [closedR, and_assoc]
/-- law of the boxes -/
theorem boxes_law {a b : List Z2} (ha : chkZ a = 0) (hb : chkZ b = 0) : (relZ a b = 1 → openR (boxZ a) (boxZ b) = true) ∧ (relZ a b = 0 → closedR (boxZ a) (boxZ b) = true) := by
  rw [boxZ_pos ha, boxZ_pos hb]
  constructor
  · intro h
    obtain ⟨q, q1, q2⟩ := (rel_one ha hb).1 h
    have b1 := inn_box ha q1
    have b2 := inn_box hb q2
    rw [openR_iff]
    exact ⟨lt_of_rat b1.1 b2.2.1, lt_of_rat b2.1 b1.2.1, lt_of_rat b1.2.2.1 b2.2.2.2, lt_of_rat b2.2.2.1 b1.2.2.2⟩
  · intro h
    obtain ⟨q, q1, q2⟩ := (rel_ge ha hb).1 (by omega)
    have b1 := all_box ha q1
    have b2 := all_box hb q2
    rw [closedR_iff]
    exact ⟨le_of_rat b1.1 b2.2.1, le_of_rat b2.1 b1.2.1, le_of_rat b1.2.2.1 b2.2.2.2, le_of_rat b2.2.2.1 b1.2.2.2⟩

theorem out_place {ps : List Z2} {q : Z2} (h : outZ q = true) : placeZ ps q = -1 := by unfold placeZ; rw [if_pos h]
theorem place_inn {ps : List Z2} (h : chkZ ps = 0) {q : Z2} (hq : placeZ ps q = 1) : Inn ps (toPt q) := by
  have n := norm_norm h
  have ho : outZ q = false := by
    cases e : outZ q with
    | false => rfl
    | true => rw [out_place e] at hq; omega
  rw [← n.place] at hq
  rcases place_good n.simple n.pos ho with ⟨e, _⟩ | ⟨_, e1, e2⟩ | ⟨e, _⟩
  · omega
  · exact ⟨fun e he o => (by have := (on_poly _ q).2 ⟨e, he, o⟩; rw [e1] at this; exact absurd this (by simp)), e2⟩
  · omega
theorem place_all {ps : List Z2} (h : chkZ ps = 0) {q : Z2} (ho : outZ q = false) (hq : placeZ ps q = 0) : All ps (toPt q) := by
  have n := norm_norm h
  rw [← n.place] at hq
  rcases place_good n.simple n.pos ho with ⟨_, e⟩ | ⟨e, _⟩ | ⟨e, _⟩
  · exact .inl ((on_poly _ q).1 e)
  · omega
  · omega
theorem vertex_all {ps : List Z2} (h : chkZ ps = 0) {p : Z2} (hp : p ∈ ps) : All ps (toPt p) := by
  obtain ⟨k, hk, rfl⟩ := List.getElem_of_mem hp
  rw [← pt_eq hk] at hp ⊢
  refine place_all h ((out_iff _).2 (in_of_chk h _ hp)) ?_
  have := place_vertex h hk
  rw [whereZ_pos h] at this
  exact this
theorem points_law {a b : List Z2} (ha : chkZ a = 0) (hb : chkZ b = 0) : (∀ q, placeZ a q = 1 → placeZ b q = 1 → relZ a b = 1) ∧ (∀ s ∈ a, placeZ b s = 1 → relZ a b = 1) := by
  refine ⟨fun q h1 h2 => (rel_one ha hb).2 ⟨_, place_inn ha h1, place_inn hb h2⟩, fun s hs h2 => ?_⟩
  obtain ⟨p, p1, p2⟩ := all_near ha (inn_open b) (vertex_all ha hs) (place_inn hb h2)
  exact (rel_one ha hb).2 ⟨p, p1, p2⟩

/-- the boundary of a polygon, and of its normal form -/
theorem edges_rev_on (l : List Pt) (q : Pt) : (∃ e ∈ edges l.reverse, On e.1 e.2 q) ↔ ∃ e ∈ edges l, On e.1 e.2 q := by
  constructor
  · rintro ⟨⟨x, y⟩, he, o⟩
    exact ⟨(y, x), Geo.mem_edges_rev.1 he, Geo.on_comm o⟩
  · rintro ⟨⟨x, y⟩, he, o⟩
    exact ⟨(y, x), Geo.mem_edges_rev.2 he, Geo.on_comm o⟩
theorem norm_on {ps : List Z2} (h : chkZ ps = 0) (q : Pt) : (∃ e ∈ edges (poly (normZ ps)), On e.1 e.2 q) ↔ ∃ e ∈ edges (poly ps), On e.1 e.2 q := by
  have hs := chk_simple h
  rw [normZ_pos h]
  unfold normR
  have r := rotZ_rot (corn ps)
  have e1 : (∃ e ∈ edges (poly (rotZ (corn ps))), On e.1 e.2 q) ↔ ∃ e ∈ edges (poly (corn ps)), On e.1 e.2 q := ⟨fun ⟨e, he, o⟩ => ⟨e, r.2.mem_iff.1 he, o⟩, fun ⟨e, he, o⟩ => ⟨e, r.2.mem_iff.2 he, o⟩⟩
  rw [e1]
  have e2 : (∃ e ∈ edges (poly (cornersTo ps ps.length)), On e.1 e.2 q) ↔ ∃ e ∈ edges (poly ps), On e.1 e.2 q := by rw [corners_keep hs, Geo.keepF_on hs]
  unfold corn
  split
  · rw [poly_reverse, edges_rev_on]; exact e2
  · exact e2
/-- law of touching polygons -/
theorem touch_law {a b : List Z2} (ha : chkZ a = 0) (hb : chkZ b = 0) : relZ a b = 0 ↔ relZ a b ≠ 1 ∧ ∃ i, i < a.length ∧ ∃ k, k < b.length ∧ meetZ (pt a i) (nx a i) (pt b k) (nx b k) = true := by
  have hbd := rel_bd a b
  have hm : (∃ i, i < a.length ∧ ∃ k, k < b.length ∧ meetZ (pt a i) (nx a i) (pt b k) (nx b k) = true) ↔ ∃ q, (∃ e ∈ edges (poly a), On e.1 e.2 q) ∧ ∃ e ∈ edges (poly b), On e.1 e.2 q := by
    constructor
    · rintro ⟨i, hi, k, hk, h⟩
      obtain ⟨q, q1, q2⟩ := (meetZ_iff _ _ _ _).1 h
      exact ⟨q, ⟨_, mem_edges_poly.2 ⟨i, hi, rfl⟩, q1⟩, ⟨_, mem_edges_poly.2 ⟨k, hk, rfl⟩, q2⟩⟩
    · rintro ⟨q, ⟨e, he, q1⟩, ⟨f, hf, q2⟩⟩
      obtain ⟨i, hi, rfl⟩ := mem_edges_poly.1 he
      obtain ⟨k, hk, rfl⟩ := mem_edges_poly.1 hf
      exact ⟨i, hi, k, hk, (meetZ_iff _ _ _ _).2 ⟨q, q1, q2⟩⟩
  rw [hm]
  constructor
  · intro h0
    refine ⟨by omega, ?_⟩
    obtain ⟨q, q1, q2⟩ := (rel_ge ha hb).1 (by omega)
    have no : ¬ ∃ q, Inn a q ∧ Inn b q := fun h => by have := (rel_one ha hb).2 h; omega
    have key : ∀ {x y : List Z2}, chkZ x = 0 → chkZ y = 0 → (∀ p, Inn x p → Inn y p → False) → All x q → All y q → ∃ e ∈ edges (poly x), On e.1 e.2 q := fun {x y} hx hy hn g1 g2 => by
      rw [← norm_on hx]
      refine Classical.byContradiction fun hoff => ?_
      have hi : Inn x q := by
        rcases g1 with g | g
        · exact absurd g hoff
        · exact ⟨fun e he o => hoff ⟨e, he, o⟩, g⟩
      obtain ⟨p, p1, p2⟩ := all_near hy (inn_open x) g2 hi
      exact hn p p2 p1
    exact ⟨q, key ha hb (fun p h1 h2 => no ⟨p, h1, h2⟩) q1 q2, key hb ha (fun p h1 h2 => no ⟨p, h2, h1⟩) q2 q1⟩
  · rintro ⟨h1, q, q1, q2⟩
    have := (rel_ge ha hb).2 ⟨q, .inl ((norm_on ha q).2 q1), .inl ((norm_on hb q).2 q2)⟩
    omega

/-- convex polygons by their sides -/
theorem conv_inn {ps : List Z2} (h : chkZ ps = 0) (hc : convexZ ps = true) (q : Pt) : (Inn ps q ↔ ∀ e ∈ edges (poly ps), 0 < cr e.1 e.2 q) ∧ (All ps q ↔ ∀ e ∈ edges (poly ps), 0 ≤ cr e.1 e.2 q) := by
  obtain ⟨hb, ha⟩ := (convexZ_iff ps).1 hc
  have hs := chk_simple h
  obtain ⟨hL, hsc⟩ := Geo.left_sc hs ((left_poly hs).2 hb)
  obtain ⟨_, k1, k2⟩ := Geo.keepF_conv _ _ rfl hs
  have hk := Geo.keepF_simple hs
  have r : Geo.Rot (poly (normZ ps)) (Geo.keepF (poly ps)) := by
    rw [← corners_keep hs, normZ_pos h]
    unfold normR
    have e : corn ps = cornersTo ps ps.length := by unfold corn; rw [if_neg (by omega)]
    rw [← e]
    exact rotZ_rot (corn ps)
  have i1 : Inn ps q ↔ ∀ e ∈ edges (poly ps), 0 < cr e.1 e.2 q := by
    unfold Inn
    rw [Ri.rot r, k1]
    constructor
    · rintro ⟨off, hw⟩
      have ge : ∀ e ∈ edges (Geo.keepF (poly ps)), 0 ≤ cr e.1 e.2 q := fun e he => by
        by_cases g : cr e.1 e.2 q < 0
        · have := (Geo.sc_out hsc he g).1; omega
        · grind
      intro e he
      have g1 := ge e he
      by_cases z : cr e.1 e.2 q = 0
      · exact absurd (Geo.sc_on hk hsc ge he z) (off e he)
      · grind
    · intro g
      obtain ⟨w1, f1⟩ := Geo.sc_in hk hL hsc g
      exact ⟨f1, w1⟩
  refine ⟨i1, ?_⟩
  have nn : (∀ e ∈ edges (poly ps), 0 ≤ cr e.1 e.2 q) ↔ ∀ e ∈ edges (Geo.keepF (poly ps)), 0 ≤ cr e.1 e.2 q := by
    have key : ∀ l : List Pt, (∀ e ∈ edges l, 0 ≤ cr e.1 e.2 q) ↔ ¬ ∃ e ∈ edges l, cr e.1 e.2 q < 0 := fun l =>
      ⟨fun g ⟨e, he, h⟩ => by have := g e he; grind, fun g e he => by by_cases z : cr e.1 e.2 q < 0; exact absurd ⟨e, he, z⟩ g; grind⟩
    rw [key, key, k2]
  unfold All
  rw [Rg.rot r, nn]
  constructor
  · rintro (⟨f, hf, o⟩ | hw)
    · exact fun e he => Geo.on_cr_ge o (hsc.ge he (Geo.edges_fst_mem hf)) (hsc.ge he (Geo.edges_snd_mem hf))
    · intro e he
      by_cases g : cr e.1 e.2 q < 0
      · have := (Geo.sc_out hsc he g).1; omega
      · grind
  · intro ge
    by_cases g : ∀ e ∈ edges (Geo.keepF (poly ps)), 0 < cr e.1 e.2 q
    · exact .inr (Geo.sc_in hk hL hsc g).1
    · refine .inl (Classical.byContradiction fun hn => g fun e he => ?_)
      have := ge e he
      by_cases z : cr e.1 e.2 q = 0
      · exact absurd ⟨e, he, Geo.sc_on hk hsc ge he z⟩ hn
      · grind
end Go.Proofs.Ytfgeengdmbabhaa
