import Derived.Test.YtfgeengdmbabhaaQb
/- Plain laws of overlapping polygons, part 3: rectangles, lines, triangles. -/
namespace Go.Proofs.Ytfgeengdmbabhaa
open Geo (Pt cr On Simple edges mem_edges esum Ri Rg IntT InT Cov)

section
variable {x y z w : Int}
theorem rec_edges : edges (poly (recZ x y z w)) = [((⟨x, y⟩ : Pt), (⟨z, y⟩ : Pt)), (⟨z, y⟩, ⟨z, w⟩), (⟨z, w⟩, ⟨x, w⟩), (⟨x, w⟩, ⟨x, y⟩)] := rfl
theorem rec_poly : poly (recZ x y z w) = [(⟨x, y⟩ : Pt), ⟨z, y⟩, ⟨z, w⟩, ⟨x, w⟩] := rfl
theorem rec_pos (h1 : x < z) (h2 : y < w) (q : Pt) : (∀ e ∈ edges (poly (recZ x y z w)), 0 < cr e.1 e.2 q) ↔ (x : Rat) < q.x ∧ q.x < (z : Rat) ∧ (y : Rat) < q.y ∧ q.y < (w : Rat) := by
  have r1 := rl h1; have r2 := rl h2
  rw [rec_edges]
  generalize (x : Rat) = a at *; generalize (y : Rat) = b at *; generalize (z : Rat) = c at *; generalize (w : Rat) = d at *
  have e1 : cr ⟨a, b⟩ ⟨c, b⟩ q = (c - a) * (q.y - b) := by unfold cr; simp only; grind
  have e2 : cr ⟨c, b⟩ ⟨c, d⟩ q = (d - b) * (c - q.x) := by unfold cr; simp only; grind
  have e3 : cr ⟨c, d⟩ ⟨a, d⟩ q = (c - a) * (d - q.y) := by unfold cr; simp only; grind
  have e4 : cr ⟨a, d⟩ ⟨a, b⟩ q = (d - b) * (q.x - a) := by unfold cr; simp only; grind
  simp only [List.forall_mem_cons]
  rw [e1, e2, e3, e4, Geo.pos_mul_iff (by grind), Geo.pos_mul_iff (by grind), Geo.pos_mul_iff (by grind), Geo.pos_mul_iff (by grind)]
  constructor
  · rintro ⟨g1, g2, g3, g4, _⟩; exact ⟨by grind, by grind, by grind, by grind⟩
  · rintro ⟨g1, g2, g3, g4⟩; exact ⟨by grind, by grind, by grind, by grind, fun e he => by simp at he⟩
theorem ge_mul_iff {a b : Rat} (h : 0 < a) : 0 ≤ a * b ↔ 0 ≤ b := by
  constructor
  · intro g
    by_cases n : b < 0
    · have := (Geo.pos_mul_iff (b := -b) h).2 (by grind); grind
    · grind
  · intro g; exact Rat.mul_nonneg (by grind) g
theorem rec_ge (h1 : x < z) (h2 : y < w) (q : Pt) : (∀ e ∈ edges (poly (recZ x y z w)), 0 ≤ cr e.1 e.2 q) ↔ (x : Rat) ≤ q.x ∧ q.x ≤ (z : Rat) ∧ (y : Rat) ≤ q.y ∧ q.y ≤ (w : Rat) := by
  have r1 := rl h1; have r2 := rl h2
  rw [rec_edges]
  generalize (x : Rat) = a at *; generalize (y : Rat) = b at *; generalize (z : Rat) = c at *; generalize (w : Rat) = d at *
  have e1 : cr ⟨a, b⟩ ⟨c, b⟩ q = (c - a) * (q.y - b) := by unfold cr; simp only; grind
  have e2 : cr ⟨c, b⟩ ⟨c, d⟩ q = (d - b) * (c - q.x) := by unfold cr; simp only; grind
  have e3 : cr ⟨c, d⟩ ⟨a, d⟩ q = (c - a) * (d - q.y) := by unfold cr; simp only; grind
  have e4 : cr ⟨a, d⟩ ⟨a, b⟩ q = (d - b) * (q.x - a) := by unfold cr; simp only; grind
  simp only [List.forall_mem_cons]
  rw [e1, e2, e3, e4, ge_mul_iff (by grind), ge_mul_iff (by grind), ge_mul_iff (by grind), ge_mul_iff (by grind)]
  constructor
  · rintro ⟨g1, g2, g3, g4, _⟩; exact ⟨by grind, by grind, by grind, by grind⟩
  · rintro ⟨g1, g2, g3, g4⟩; exact ⟨by grind, by grind, by grind, by grind, fun e he => by simp at he⟩
/-- a convex set with the corners holds the rectangle -/
theorem rec_conv (h1 : x < z) (h2 : y < w) {C : Pt → Prop} (hC : Geo.Conv C) (hv : ∀ v ∈ poly (recZ x y z w), C v) {q : Pt} (hq : ∀ e ∈ edges (poly (recZ x y z w)), 0 ≤ cr e.1 e.2 q) : C q := by
  obtain ⟨g1, g2, g3, g4⟩ := (rec_ge h1 h2 q).1 hq
  rw [rec_poly] at hv
  have r1 := rl h1; have r2 := rl h2
  generalize (x : Rat) = a at *; generalize (y : Rat) = b at *; generalize (z : Rat) = c at *; generalize (w : Rat) = d at *
  have v1 := hv ⟨a, b⟩ (by simp)
  have v2 := hv ⟨c, b⟩ (by simp)
  have v3 := hv ⟨c, d⟩ (by simp)
  have v4 := hv ⟨a, d⟩ (by simp)
  have l1 : C ⟨a, q.y⟩ := hC _ _ _ v1 v4 (Geo.on_of_y (by unfold cr; simp only; grind) r2 g3 g4)
  have l2 : C ⟨c, q.y⟩ := hC _ _ _ v2 v3 (Geo.on_of_y (by unfold cr; simp only; grind) r2 g3 g4)
  exact hC _ _ _ l1 l2 (Geo.on_of_x (by unfold cr; simp only; grind) r1 g1 g2)
theorem CZ.box (h1 : x < z) (h2 : y < w) : CZ (recZ x y z w) := by
  have r1 := rl h1; have r2 := rl h2
  refine ⟨⟨fun e he v hv => ?_, ⟨⟨((x : Rat) + z) / 2, ((y : Rat) + w) / 2⟩, ?_⟩, by rw [rec_poly]; simp⟩, fun s t q hq hp => ?_, fun s t q hq hp => ?_⟩
  · refine (rec_ge h1 h2 v).2 ?_ e he
    rw [rec_poly] at hv
    simp only [List.mem_cons, List.not_mem_nil, or_false] at hv
    rcases hv with rfl | rfl | rfl | rfl <;> simp only <;> grind
  · rw [rec_pos h1 h2]
    simp only; grind
  · refine Classical.byContradiction fun hn => ?_
    have := rec_conv h1 h2 (Geo.conv_ge t s) (fun v hv => by
      show 0 ≤ cr t s v
      rw [Geo.cr_swap]
      by_cases g : 0 < cr s t v
      · exact absurd ⟨v, hv, g⟩ hn
      · grind) hq
    have this : 0 ≤ cr t s q := this
    rw [Geo.cr_swap] at this; grind
  · refine Classical.byContradiction fun hn => ?_
    have := rec_conv h1 h2 (Geo.conv_pos t s) (fun v hv => by
      show 0 < cr t s v
      rw [Geo.cr_swap]
      by_cases g : 0 ≤ cr s t v
      · exact absurd ⟨v, hv, g⟩ hn
      · grind) hq
    have this : 0 < cr t s q := this
    rw [Geo.cr_swap] at this; grind
theorem rec_simple (h1 : x < z) (h2 : y < w) : Simple (poly (recZ x y z w)) := by
  have r1 := rl h1; have r2 := rl h2
  rw [rec_poly]
  have he := rec_edges (x := x) (y := y) (z := z) (w := w)
  rw [rec_poly] at he
  generalize (x : Rat) = a at *; generalize (y : Rat) = b at *; generalize (z : Rat) = c at *; generalize (w : Rat) = d at *
  have ho : ∀ p q r : Pt, On p q r → (p.x ≤ r.x ∧ r.x ≤ q.x ∨ q.x ≤ r.x ∧ r.x ≤ p.x) ∧ (p.y ≤ r.y ∧ r.y ≤ q.y ∨ q.y ≤ r.y ∧ r.y ≤ p.y) := fun p q r h => ((Geo.on_iff p q r).1 h).2
  refine ⟨by simp, ?_, ?_⟩
  · simp only [List.nodup_cons, List.mem_cons, List.not_mem_nil, or_false, Geo.Pt.mk.injEq]
    refine ⟨?_, ?_, ?_, ?_⟩ <;> first | grind | simp
  · rw [he]
    intro e hE f hF hne p o1 o2
    have a1 := ho _ _ _ o1
    have a2 := ho _ _ _ o2
    have ep : ∀ u v : Rat, p.x = u → p.y = v → p = ⟨u, v⟩ := fun u v h1 h2 => Geo.Pt.ext' h1 h2
    simp only [List.mem_cons, List.not_mem_nil, or_false] at hE hF
    rcases hE with rfl | rfl | rfl | rfl <;> rcases hF with rfl | rfl | rfl | rfl <;> simp only at a1 a2 ⊢ <;> first | exact absurd rfl hne | (exfalso; grind) | (left; exact ⟨ep _ _ (by grind) (by grind), ep _ _ (by grind) (by grind)⟩) | (right; exact ⟨ep _ _ (by grind) (by grind), ep _ _ (by grind) (by grind)⟩)
end

/-- a rectangle within the bounds, with an interior -/
def validR (r : R4) : Bool := decide (-1048576 ≤ r.x) && decide (r.x ≤ 1048576) && decide (-1048576 ≤ r.y) && decide (r.y ≤ 1048576) && decide (1 ≤ r.w) && decide (r.w ≤ 1048576 - r.x) && decide (1 ≤ r.h) && decide (r.h ≤ 1048576 - r.y)
theorem validR_iff (r : R4) : validR r = true ↔ -1048576 ≤ r.x ∧ r.x ≤ 1048576 ∧ -1048576 ≤ r.y ∧ r.y ≤ 1048576 ∧ 1 ≤ r.w ∧ r.w ≤ 1048576 - r.x ∧ 1 ≤ r.h ∧ r.h ≤ 1048576 - r.y := by simp [validR, and_assoc]
def cornersR (r : R4) : List Z2 := recZ r.x r.y (r.x + r.w) (r.y + r.h)
theorem rec_chk {r : R4} (h : validR r = true) : chkZ (cornersR r) = 0 := by
  rw [validR_iff] at h
  have hs : simpleZ (cornersR r) = true := (simpleZ_iff (by unfold cornersR recZ; simp)).2 (rec_simple (by omega) (by omega))
  have hl : (cornersR r).length = 4 := rfl
  have ha : (cornersR r).any outZ = false := by
    unfold cornersR recZ
    simp [outZ]
    omega
  unfold chkZ
  rw [if_neg (by omega), if_neg (by omega), if_neg (by rw [ha]; simp), if_pos hs]
theorem mulpos {a b : Int} (h1 : 0 < a) (h2 : 0 < b) : 0 < a * b := Int.mul_pos h1 h2
theorem rec_convex {r : R4} (h : validR r = true) : convexZ (cornersR r) = true := by
  rw [validR_iff] at h
  have hp : 0 < r.w * r.h := mulpos (by omega) (by omega)
  rw [convexZ_iff]
  have hb : ∀ i, i < (cornersR r).length → 0 ≤ bendZ (cornersR r) i := by
    intro i hi
    have hl : (cornersR r).length = 4 := rfl
    rw [hl] at hi
    have e : bendZ (cornersR r) i = r.w * r.h := by
      have e0 : pt (cornersR r) 0 = ⟨r.x, r.y⟩ := rfl
      have e1 : pt (cornersR r) 1 = ⟨r.x + r.w, r.y⟩ := rfl
      have e2 : pt (cornersR r) 2 = ⟨r.x + r.w, r.y + r.h⟩ := rfl
      have e3 : pt (cornersR r) 3 = ⟨r.x, r.y + r.h⟩ := rfl
      unfold bendZ
      rw [hl]
      have : i = 0 ∨ i = 1 ∨ i = 2 ∨ i = 3 := by omega
      rcases this with rfl | rfl | rfl | rfl <;> simp only [Nat.reduceAdd, Nat.reduceSub, Nat.reduceMod, Nat.zero_add, Nat.mod_self, e0, e1, e2, e3] <;> unfold crZ <;> simp only <;> grind
    omega
  exact ⟨hb, convex_area (rec_chk (by rw [validR_iff]; omega)) hb⟩
theorem rec_inn {r : R4} (h : validR r = true) (q : Pt) : (Inn (cornersR r) q ↔ (r.x : Rat) < q.x ∧ q.x < ((r.x + r.w : Int) : Rat) ∧ (r.y : Rat) < q.y ∧ q.y < ((r.y + r.h : Int) : Rat)) ∧ (All (cornersR r) q ↔ (r.x : Rat) ≤ q.x ∧ q.x ≤ ((r.x + r.w : Int) : Rat) ∧ (r.y : Rat) ≤ q.y ∧ q.y ≤ ((r.y + r.h : Int) : Rat)) := by
  have hv := (validR_iff r).1 h
  obtain ⟨i1, i2⟩ := conv_inn (rec_chk h) (rec_convex h) q
  exact ⟨i1.trans (rec_pos (by omega) (by omega) q), i2.trans (rec_ge (by omega) (by omega) q)⟩
theorem mid_lt {a b c d : Rat} (h1 : a < b) (h2 : a < d) (h3 : c < b) (h4 : c < d) : ∃ t, a < t ∧ c < t ∧ t < b ∧ t < d := by
  by_cases e1 : a ≤ c <;> by_cases e2 : b ≤ d
  · exact ⟨(c + b) / 2, by grind, by grind, by grind, by grind⟩
  · exact ⟨(c + d) / 2, by grind, by grind, by grind, by grind⟩
  · exact ⟨(a + b) / 2, by grind, by grind, by grind, by grind⟩
  · exact ⟨(a + d) / 2, by grind, by grind, by grind, by grind⟩
theorem mid_le {a b c d : Rat} (h1 : a ≤ b) (h2 : a ≤ d) (h3 : c ≤ b) (h4 : c ≤ d) : ∃ t, a ≤ t ∧ c ≤ t ∧ t ≤ b ∧ t ≤ d := by
  by_cases e1 : a ≤ c
  · exact ⟨c, by grind, by grind, by grind, by grind⟩
  · exact ⟨a, by grind, by grind, by grind, by grind⟩
/-- rectangles by their coordinates -/
theorem rects_law {r s : R4} (hr : validR r = true) (hs : validR s = true) : (relZ (cornersR r) (cornersR s) = 1 ↔ openR r s = true) ∧ (relZ (cornersR r) (cornersR s) = 0 ↔ closedR r s = true ∧ openR r s = false) := by
  have i1 : relZ (cornersR r) (cornersR s) = 1 ↔ openR r s = true := by
    rw [rel_one (rec_chk hr) (rec_chk hs), openR_iff]
    constructor
    · rintro ⟨q, q1, q2⟩
      have a := (rec_inn hr q).1.1 q1
      have b := (rec_inn hs q).1.1 q2
      exact ⟨lt_of_rat a.1 b.2.1, lt_of_rat b.1 a.2.1, lt_of_rat a.2.2.1 b.2.2.2, lt_of_rat b.2.2.1 a.2.2.2⟩
    · rintro ⟨g1, g2, g3, g4⟩
      have v1 := (validR_iff r).1 hr
      have v2 := (validR_iff s).1 hs
      obtain ⟨tx, x1, x2, x3, x4⟩ := mid_lt (rl (show r.x < r.x + r.w by omega)) (rl g1) (rl g2) (rl (show s.x < s.x + s.w by omega))
      obtain ⟨ty, y1, y2, y3, y4⟩ := mid_lt (rl (show r.y < r.y + r.h by omega)) (rl g3) (rl g4) (rl (show s.y < s.y + s.h by omega))
      exact ⟨⟨tx, ty⟩, (rec_inn hr _).1.2 ⟨x1, x3, y1, y3⟩, (rec_inn hs _).1.2 ⟨x2, x4, y2, y4⟩⟩
  have i2 : 0 ≤ relZ (cornersR r) (cornersR s) ↔ closedR r s = true := by
    rw [rel_ge (rec_chk hr) (rec_chk hs), closedR_iff]
    constructor
    · rintro ⟨q, q1, q2⟩
      have a := (rec_inn hr q).2.1 q1
      have b := (rec_inn hs q).2.1 q2
      exact ⟨le_of_rat a.1 b.2.1, le_of_rat b.1 a.2.1, le_of_rat a.2.2.1 b.2.2.2, le_of_rat b.2.2.1 a.2.2.2⟩
    · rintro ⟨g1, g2, g3, g4⟩
      have v1 := (validR_iff r).1 hr
      have v2 := (validR_iff s).1 hs
      obtain ⟨tx, x1, x2, x3, x4⟩ := mid_le (ri (show r.x ≤ r.x + r.w by omega)) (ri g1) (ri g2) (ri (show s.x ≤ s.x + s.w by omega))
      obtain ⟨ty, y1, y2, y3, y4⟩ := mid_le (ri (show r.y ≤ r.y + r.h by omega)) (ri g3) (ri g4) (ri (show s.y ≤ s.y + s.h by omega))
      exact ⟨⟨tx, ty⟩, (rec_inn hr _).2.2 ⟨x1, x3, y1, y3⟩, (rec_inn hs _).2.2 ⟨x2, x4, y2, y4⟩⟩
  refine ⟨i1, ?_⟩
  have hbd := rel_bd (cornersR r) (cornersR s)
  rw [← i2, Bool.eq_false_iff, ne_eq, ← i1]
  omega

/-- polygons lie within the bounds -/
theorem box_in {ps : List Z2} (h : chkZ ps = 0) : -1048576 ≤ (boxR ps).x ∧ (boxR ps).x + (boxR ps).w ≤ 1048576 ∧ -1048576 ≤ (boxR ps).y ∧ (boxR ps).y + (boxR ps).h ≤ 1048576 := by
  have hn : 0 < ps.length := by have := (chkZ_zero h).2.1; omega
  obtain ⟨⟨j1, a1, _, c1⟩, ⟨j2, a2, _, c2⟩⟩ := loTo_at hn (Nat.le_refl _)
  obtain ⟨⟨j3, a3, _, c3⟩, ⟨j4, a4, _, c4⟩⟩ := hiTo_at hn (Nat.le_refl _)
  have i1 := in_of_chk h _ (pt_mem a1); have i2 := in_of_chk h _ (pt_mem a2); have i3 := in_of_chk h _ (pt_mem a3); have i4 := in_of_chk h _ (pt_mem a4)
  simp only [boxR]
  omega
/-- what Hits says -/
theorem hit_iff {ps : List Z2} (h : chkZ ps = 0) (r : R4) : hitZ ps r = true ↔ ∃ q, Inn ps q ∧ (r.x : Rat) < q.x ∧ q.x < ((r.x + r.w : Int) : Rat) ∧ (r.y : Rat) < q.y ∧ q.y < ((r.y + r.h : Int) : Rat) := by
  have hbx := box_in h
  have clip : ∀ q, Inn ps q → ((((max r.x (-1048576) : Int) : Rat) < q.x ↔ (r.x : Rat) < q.x) ∧ (q.x < ((min (r.x + r.w) 1048576 : Int) : Rat) ↔ q.x < ((r.x + r.w : Int) : Rat)) ∧ (((max r.y (-1048576) : Int) : Rat) < q.y ↔ (r.y : Rat) < q.y) ∧ (q.y < ((min (r.y + r.h) 1048576 : Int) : Rat) ↔ q.y < ((r.y + r.h : Int) : Rat))) := fun q hq => by
    obtain ⟨b1, b2, b3, b4⟩ := inn_box h hq
    have c1 := ri hbx.1; have c2 := ri hbx.2.1; have c3 := ri hbx.2.2.1; have c4 := ri hbx.2.2.2
    have d1 : ((max r.x (-1048576) : Int) : Rat) = (r.x : Rat) ∧ ((-1048576 : Int) : Rat) ≤ (r.x : Rat) ∨ ((max r.x (-1048576) : Int) : Rat) = ((-1048576 : Int) : Rat) ∧ (r.x : Rat) ≤ ((-1048576 : Int) : Rat) := by
      by_cases e : -1048576 ≤ r.x
      · left; exact ⟨by rw [show max r.x (-1048576) = r.x by omega], ri e⟩
      · right; exact ⟨by rw [show max r.x (-1048576) = -1048576 by omega], ri (by omega)⟩
    have d2 : ((min (r.x + r.w) 1048576 : Int) : Rat) = ((r.x + r.w : Int) : Rat) ∧ ((r.x + r.w : Int) : Rat) ≤ ((1048576 : Int) : Rat) ∨ ((min (r.x + r.w) 1048576 : Int) : Rat) = ((1048576 : Int) : Rat) ∧ ((1048576 : Int) : Rat) ≤ ((r.x + r.w : Int) : Rat) := by
      by_cases e : r.x + r.w ≤ 1048576
      · left; exact ⟨by rw [show min (r.x + r.w) 1048576 = r.x + r.w by omega], ri e⟩
      · right; exact ⟨by rw [show min (r.x + r.w) 1048576 = 1048576 by omega], ri (by omega)⟩
    have d3 : ((max r.y (-1048576) : Int) : Rat) = (r.y : Rat) ∧ ((-1048576 : Int) : Rat) ≤ (r.y : Rat) ∨ ((max r.y (-1048576) : Int) : Rat) = ((-1048576 : Int) : Rat) ∧ (r.y : Rat) ≤ ((-1048576 : Int) : Rat) := by
      by_cases e : -1048576 ≤ r.y
      · left; exact ⟨by rw [show max r.y (-1048576) = r.y by omega], ri e⟩
      · right; exact ⟨by rw [show max r.y (-1048576) = -1048576 by omega], ri (by omega)⟩
    have d4 : ((min (r.y + r.h) 1048576 : Int) : Rat) = ((r.y + r.h : Int) : Rat) ∧ ((r.y + r.h : Int) : Rat) ≤ ((1048576 : Int) : Rat) ∨ ((min (r.y + r.h) 1048576 : Int) : Rat) = ((1048576 : Int) : Rat) ∧ ((1048576 : Int) : Rat) ≤ ((r.y + r.h : Int) : Rat) := by
      by_cases e : r.y + r.h ≤ 1048576
      · left; exact ⟨by rw [show min (r.y + r.h) 1048576 = r.y + r.h by omega], ri e⟩
      · right; exact ⟨by rw [show min (r.y + r.h) 1048576 = 1048576 by omega], ri (by omega)⟩
    generalize ((max r.x (-1048576) : Int) : Rat) = m1 at *
    generalize ((min (r.x + r.w) 1048576 : Int) : Rat) = m2 at *
    generalize ((max r.y (-1048576) : Int) : Rat) = m3 at *
    generalize ((min (r.y + r.h) 1048576 : Int) : Rat) = m4 at *
    generalize ((-1048576 : Int) : Rat) = lo at *
    generalize ((1048576 : Int) : Rat) = hi at *
    refine ⟨?_, ?_, ?_, ?_⟩
    · rcases d1 with ⟨e1, e2⟩ | ⟨e1, e2⟩
      · rw [e1]
      · rw [e1]; constructor <;> intro _ <;> grind
    · rcases d2 with ⟨e1, e2⟩ | ⟨e1, e2⟩
      · rw [e1]
      · rw [e1]; constructor <;> intro _ <;> grind
    · rcases d3 with ⟨e1, e2⟩ | ⟨e1, e2⟩
      · rw [e1]
      · rw [e1]; constructor <;> intro _ <;> grind
    · rcases d4 with ⟨e1, e2⟩ | ⟨e1, e2⟩
      · rw [e1]
      · rw [e1]; constructor <;> intro _ <;> grind
  unfold hitZ
  rw [if_pos h]
  constructor
  · intro hh
    split at hh
    · cases hh
    split at hh
    · rename_i g
      obtain ⟨t, ht, hc⟩ := List.any_eq_true.1 hh
      obtain ⟨u, rfl, u1, _⟩ := split_tri h ht
      obtain ⟨q, q1, q2⟩ := (contact_in (CZ.tri u1) (CZ.box g.1 g.2)).1 (by simpa using hc)
      have hi := inn_of h ht q1
      obtain ⟨p1, p2, p3, p4⟩ := (rec_pos g.1 g.2 q).1 q2
      obtain ⟨c1, c2, c3, c4⟩ := clip q hi
      exact ⟨q, hi, c1.1 p1, c2.1 p2, c3.1 p3, c4.1 p4⟩
    · cases hh
  · rintro ⟨q, hi, p1, p2, p3, p4⟩
    obtain ⟨c1, c2, c3, c4⟩ := clip q hi
    have w1 := lt_of_rat p1 p2
    have w2 := lt_of_rat p3 p4
    have g1 := lt_of_rat (c1.2 p1) (c2.2 p2)
    have g2 := lt_of_rat (c3.2 p3) (c4.2 p4)
    rw [if_neg (by omega), if_pos ⟨g1, g2⟩, List.any_eq_true]
    obtain ⟨s, hs, p, p5, p6⟩ := inn_near h (all_open _) hi ((rec_pos g1 g2 q).2 ⟨c1.2 p1, c2.2 p2, c3.2 p3, c4.2 p4⟩)
    obtain ⟨u, rfl, u1, _⟩ := split_tri h hs
    exact ⟨_, hs, decide_eq_true ((contact_in (CZ.tri u1) (CZ.box g1 g2)).2 ⟨p, p5, p6⟩)⟩
/-- Hits agrees with Overlap -/
theorem hit_rel {ps : List Z2} (h : chkZ ps = 0) {r : R4} (hr : validR r = true) : hitZ ps r = true ↔ relZ ps (cornersR r) = 1 := by
  rw [hit_iff h, rel_one h (rec_chk hr)]
  constructor
  · rintro ⟨q, q1, q2⟩; exact ⟨q, q1, (rec_inn hr q).1.2 q2⟩
  · rintro ⟨q, q1, q2⟩; exact ⟨q, q1, (rec_inn hr q).1.1 q2⟩

theorem open_xlt (m : Rat) : Geo.Open fun q => q.x < m := fun q r h => by
  have ox : Geo.Open fun q : Pt => 0 < m - q.x := Geo.open_aff _ fun q r k => by simp only [Geo.lerp]; grind
  obtain ⟨k, k0, k1, hk⟩ := ox q r (by show 0 < m - q.x; have h : q.x < m := h; grind)
  exact ⟨k, k0, k1, fun j j0 j1 => by have g : 0 < m - (Geo.lerp q r j).x := hk j j0 j1; show (Geo.lerp q r j).x < m; grind⟩
theorem open_xgt (m : Rat) : Geo.Open fun q => m < q.x := fun q r h => by
  have ox : Geo.Open fun q : Pt => 0 < q.x - m := Geo.open_aff _ fun q r k => by simp only [Geo.lerp]; grind
  obtain ⟨k, k0, k1, hk⟩ := ox q r (by show 0 < q.x - m; have h : m < q.x := h; grind)
  exact ⟨k, k0, k1, fun j j0 j1 => by have g : 0 < (Geo.lerp q r j).x - m := hk j j0 j1; show m < (Geo.lerp q r j).x; grind⟩
/-- lines and half planes -/
theorem cuts_law {ps : List Z2} (h : chkZ ps = 0) {x : Int} (hx : -1048576 ≤ x ∧ x ≤ 1048576) :
    (hitZ ps ⟨-4194304, -4194304, 4194304 + x, 8388608⟩ = true ↔ (boxR ps).x < x) ∧ (hitZ ps ⟨x, -4194304, 4194304, 8388608⟩ = true ↔ x < (boxR ps).x + (boxR ps).w) ∧ (boxR ps).x < (boxR ps).x + (boxR ps).w := by
  have hbx := box_in h
  have hn : 0 < ps.length := by have := (chkZ_zero h).2.1; omega
  have bb : ∀ q, Inn ps q → ((-4194304 : Int) : Rat) < q.y ∧ q.y < ((-4194304 + 8388608 : Int) : Rat) ∧ ((-4194304 : Int) : Rat) < q.x ∧ q.x < ((x + 4194304 : Int) : Rat) := fun q hq => by
    obtain ⟨b1, b2, b3, b4⟩ := inn_box h hq
    have c1 := rl (show (-4194304 : Int) < (boxR ps).x by omega)
    have c2 := rl (show (boxR ps).x + (boxR ps).w < x + 4194304 by omega)
    have c3 := rl (show (-4194304 : Int) < (boxR ps).y by omega)
    have c4 := rl (show (boxR ps).y + (boxR ps).h < (-4194304 + 8388608 : Int) by omega)
    exact ⟨by grind, by grind, by grind, by grind⟩
  refine ⟨?_, ?_, ?_⟩
  · rw [hit_iff h]
    simp only
    have e : (-4194304 : Int) + (4194304 + x) = x := by omega
    rw [e]
    constructor
    · rintro ⟨q, q1, _, q3, _⟩
      exact lt_of_rat (inn_box h q1).1 q3
    · intro g
      obtain ⟨⟨j1, a1, _, c1⟩, _⟩ := loTo_at hn (Nat.le_refl _)
      have e2 : (pt ps j1).x = (boxR ps).x := c1.symm
      obtain ⟨q, q1, q2⟩ := all_near h (open_xlt (x : Rat)) (vertex_all h (pt_mem a1)) (by show ((pt ps j1).x : Rat) < (x : Rat); rw [e2]; exact rl g)
      obtain ⟨b1, b2, b3, b4⟩ := bb q q1
      exact ⟨q, q1, b3, q2, b1, b2⟩
  · rw [hit_iff h]
    simp only
    constructor
    · rintro ⟨q, q1, q2, _⟩
      exact lt_of_rat q2 (inn_box h q1).2.1
    · intro g
      obtain ⟨⟨j1, a1, _, c1⟩, _⟩ := hiTo_at hn (Nat.le_refl _)
      have e2 : (pt ps j1).x = (boxR ps).x + (boxR ps).w := by
        have : (hiTo ps ps.length).x = (pt ps j1).x := c1
        simp only [boxR]; omega
      obtain ⟨q, q1, q2⟩ := all_near h (open_xgt (x : Rat)) (vertex_all h (pt_mem a1)) (by show (x : Rat) < ((pt ps j1).x : Rat); rw [e2]; exact rl g)
      obtain ⟨b1, b2, b3, b4⟩ := bb q q1
      exact ⟨q, q1, q2, b4, b1, b2⟩
  · obtain ⟨q, hq⟩ := inn_some h
    obtain ⟨b1, b2, _⟩ := inn_box h hq
    exact lt_of_rat b1 b2

/-- triangles of a polygon are polygons -/
theorem tri_poly {ps : List Z2} (h : chkZ ps = 0) {t : List Z2} (ht : t ∈ splitZ ps) : chkZ t = 0 ∧ convexZ t = true := by
  obtain ⟨u, rfl, u1, m1, m2, m3⟩ := split_tri h ht
  have nn := norm_norm h
  have hk : chkZ (toL u) = 0 := by
    show chkZ [u.1, u.2.1, u.2.2] = 0
    rw [chk3, nn.in_range h _ m1, nn.in_range h _ m2, nn.in_range h _ m3]
    simp; omega
  refine ⟨hk, ?_⟩
  have hb : ∀ i, i < (toL u).length → 0 ≤ bendZ (toL u) i := by
    intro i hi
    have hl : (toL u).length = 3 := rfl
    rw [hl] at hi
    have e : bendZ (toL u) i = crZ u.1 u.2.1 u.2.2 := by
      have e0 : pt (toL u) 0 = u.1 := rfl
      have e1 : pt (toL u) 1 = u.2.1 := rfl
      have e2 : pt (toL u) 2 = u.2.2 := rfl
      unfold bendZ
      rw [hl]
      have : i = 0 ∨ i = 1 ∨ i = 2 := by omega
      rcases this with rfl | rfl | rfl <;> simp only [Nat.reduceAdd, Nat.reduceSub, Nat.reduceMod, Nat.zero_add, Nat.mod_self, e0, e1, e2] <;> unfold crZ <;> grind
    omega
  exact (convexZ_iff _).2 ⟨hb, convex_area hk hb⟩
theorem triangles_law {a b : List Z2} (ha : chkZ a = 0) (hb : chkZ b = 0) : relZ a b = 1 ↔ ∃ t ∈ splitZ a, ∃ u ∈ splitZ b, relZ t u = 1 := by
  have hbd := rel_bd a b
  have e : relZ a b = 1 ↔ 1 ≤ relZ a b := by omega
  rw [e, rel_le a b 1 (by omega)]
  have key : ∀ t ∈ splitZ a, ∀ u ∈ splitZ b, (1 ≤ contactZ t u ↔ relZ t u = 1) := fun t ht u hu => by
    obtain ⟨k1, k2⟩ := tri_poly ha ht
    obtain ⟨k3, k4⟩ := tri_poly hb hu
    rw [rel_one k1 k3]
    obtain ⟨x, rfl, x1, _⟩ := split_tri ha ht
    obtain ⟨y, rfl, y1, _⟩ := split_tri hb hu
    have := contact_bd (toL x) (toL y)
    have e : 1 ≤ contactZ (toL x) (toL y) ↔ contactZ (toL x) (toL y) = 1 := by omega
    rw [e, contact_in (CZ.tri x1) (CZ.tri y1)]
    constructor
    · rintro ⟨q, q1, q2⟩; exact ⟨q, (conv_inn k1 k2 q).1.2 q1, (conv_inn k3 k4 q).1.2 q2⟩
    · rintro ⟨q, q1, q2⟩; exact ⟨q, (conv_inn k1 k2 q).1.1 q1, (conv_inn k3 k4 q).1.1 q2⟩
  constructor
  · rintro ⟨t, ht, u, hu, h⟩; exact ⟨t, ht, u, hu, (key t ht u hu).1 h⟩
  · rintro ⟨t, ht, u, hu, h⟩; exact ⟨t, ht, u, hu, (key t ht u hu).2 h⟩
end Go.Proofs.Ytfgeengdmbabhaa
