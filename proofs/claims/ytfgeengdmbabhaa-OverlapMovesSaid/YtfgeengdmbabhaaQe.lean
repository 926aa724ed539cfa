import Derived.Test.YtfgeengdmbabhaaQb
import Derived.Test.YtfgeengdmbabhaaSm
import Derived.Test.YtfgeengdmbabhaaTv
/- Plain laws of overlapping polygons: moves and turns. -/
namespace Go.Proofs.Ytfgeengdmbabhaa
open Geo (Pt cr On Simple edges mem_edges esum Ri Rg IntT InT Cov)

/-- a polygon, counterclockwise -/
def oz (ps : List Z2) : List Z2 := if areaZ ps < 0 then ps.reverse else ps
theorem oz_simple {ps : List Z2} (h : chkZ ps = 0) : Simple (poly (oz ps)) ∧ Geo.LT (poly (oz ps)) := by
  have hs := chk_simple h
  have hne := area_ne hs
  unfold oz
  split
  · have hr : Simple (poly ps.reverse) := by rw [poly_reverse]; exact hs.reverse
    exact ⟨hr, (LT_area hr).2 (by rw [areaZ_reverse]; omega)⟩
  · exact ⟨hs, (LT_area hs).2 (by omega)⟩
theorem norm_w {ps : List Z2} (h : chkZ ps = 0) (q : Pt) : Geo.w (poly (normZ ps)) q = Geo.w (poly (oz ps)) q := by
  have hs := chk_simple h
  rw [normZ_pos h]
  unfold normR
  rw [Geo.w_perm (rotZ_rot (corn ps)).2]
  have e : Geo.w (poly (cornersTo ps ps.length)) q = Geo.w (poly ps) q := by rw [corners_keep hs, Geo.keepF_w hs]
  unfold corn oz
  split
  · rw [poly_reverse, poly_reverse, Geo.w_rev, Geo.w_rev, e]
  · exact e
theorem oz_on (ps : List Z2) (q : Pt) : (∃ e ∈ edges (poly (oz ps)), On e.1 e.2 q) ↔ ∃ e ∈ edges (poly ps), On e.1 e.2 q := by
  unfold oz
  split
  · rw [poly_reverse, edges_rev_on]
  · exact Iff.rfl
theorem all_oz {ps : List Z2} (h : chkZ ps = 0) (q : Pt) : (All ps q ↔ Rg (poly (oz ps)) q) ∧ (Inn ps q ↔ Ri (poly (oz ps)) q) := by
  have hw := norm_w h q
  have hon : (∃ e ∈ edges (poly (normZ ps)), On e.1 e.2 q) ↔ ∃ e ∈ edges (poly (oz ps)), On e.1 e.2 q := by rw [norm_on h, oz_on]
  unfold All Inn Rg Ri
  rw [hw]
  refine ⟨or_congr hon Iff.rfl, and_congr ⟨fun g e he o => ?_, fun g e he o => ?_⟩ Iff.rfl⟩
  · obtain ⟨f, hf, o'⟩ := hon.2 ⟨e, he, o⟩; exact g f hf o'
  · obtain ⟨f, hf, o'⟩ := hon.1 ⟨e, he, o⟩; exact g f hf o'

/-- the move of the plane -/
def eps (f : Bool) : Rat := if f then -1 else 1
def affZ (f : Bool) (m : Nat) (d : Z2) : Geo.Aff :=
  match m with
  | 0 => ⟨eps f, 0, 0, 1, d.x, d.y⟩
  | 1 => ⟨0, -1, eps f, 0, d.x, d.y⟩
  | 2 => ⟨- eps f, 0, 0, -1, d.x, d.y⟩
  | _ => ⟨0, 1, - eps f, 0, d.x, d.y⟩
theorem affZ_det (f : Bool) (m : Nat) (d : Z2) : (affZ f m d).det = if f then -1 else 1 := by
  have e : eps f = if f then -1 else 1 := rfl
  rw [← e]
  unfold affZ Geo.Aff.det
  split <;> simp only <;> grind
def mvZ (f : Bool) (m : Nat) (d : Z2) : Geo.Mv := ⟨affZ f m d, f, affZ_det f m d⟩
theorem affZ_ap (f : Bool) {m : Nat} (hm : m ≤ 3) (d p : Z2) : toPt (shZ d (turnZ f m p)) = (affZ f m d).ap (toPt p) := by
  have hc : m = 0 ∨ m = 1 ∨ m = 2 ∨ m = 3 := by omega
  rcases hc with rfl | rfl | rfl | rfl <;> cases f <;> (apply Geo.Pt.ext' <;> simp [toPt, shZ, turnZ, quart, mirZ, affZ, Geo.Aff.ap, eps, Rat.intCast_add, Rat.intCast_neg] <;> grind)
/-- the moved and turned polygon -/
def movedZ (f : Bool) (m : Nat) (d : Z2) (ps : List Z2) : List Z2 := (polyZ f m ps).map (shZ d)
theorem moved_poly (f : Bool) {m : Nat} (hm : m ≤ 3) (d : Z2) (ps : List Z2) : poly (movedZ f m d ps) = (mvZ f m d).im (poly ps) := by
  have e : ((ps.map (turnZ f m)).map (shZ d)).map toPt = (poly ps).map (mvZ f m d).T.ap := by
    rw [List.map_map, List.map_map, poly, List.map_map]
    refine List.map_congr_left fun p _ => ?_
    simp only [Function.comp]
    exact affZ_ap f hm d p
  unfold movedZ polyZ Geo.Mv.im
  have hr : (mvZ f m d).rev = f := rfl
  rw [hr]
  cases f with
  | true =>
    simp only [if_true]
    rw [← e]; simp [poly]
  | false =>
    simp only [Bool.false_eq_true, if_false]
    rw [← e]
theorem moved_rev (f : Bool) (m : Nat) (d : Z2) (ps : List Z2) : (movedZ f m d ps).reverse = movedZ f m d ps.reverse := by
  unfold movedZ polyZ
  cases f <;> simp
theorem moved_area (f : Bool) {m : Nat} (hm : m ≤ 3) (d : Z2) {ps : List Z2} (h3 : 3 ≤ ps.length) : areaZ (movedZ f m d ps) = areaZ ps := by
  have := (mvZ f m d).area (l := poly ps) (by simpa using h3)
  rw [← moved_poly f hm, ar_poly, ar_poly] at this
  exact Rat.intCast_inj.1 this
theorem moved_oz (f : Bool) {m : Nat} (hm : m ≤ 3) (d : Z2) {ps : List Z2} (h3 : 3 ≤ ps.length) : oz (movedZ f m d ps) = movedZ f m d (oz ps) := by
  unfold oz
  rw [moved_area f hm d h3]
  split
  · exact moved_rev f m d ps
  · rfl
theorem moved_iff (f : Bool) {m : Nat} (hm : m ≤ 3) (d : Z2) {ps : List Z2} (h : chkZ ps = 0) (h' : chkZ (movedZ f m d ps) = 0) (q : Pt) :
    (All (movedZ f m d ps) ((mvZ f m d).T.ap q) ↔ All ps q) ∧ (Inn (movedZ f m d ps) ((mvZ f m d).T.ap q) ↔ Inn ps q) := by
  have h3 := (chkZ_zero h).2.1
  obtain ⟨hs, hL⟩ := oz_simple h
  obtain ⟨r1, r2⟩ := (mvZ f m d).rg hs hL q
  obtain ⟨a1, a2⟩ := all_oz h q
  obtain ⟨b1, b2⟩ := all_oz h' ((mvZ f m d).T.ap q)
  rw [moved_oz f hm d h3, moved_poly f hm] at b1 b2
  exact ⟨by rw [b1, r1, a1], by rw [b2, r2, a2]⟩
/-- law of moves -/
theorem rel_moved (f : Bool) {m : Nat} (hm : m ≤ 3) (d : Z2) {a b : List Z2} (ha : chkZ a = 0) (hb : chkZ b = 0) (ha' : chkZ (movedZ f m d a) = 0) (hb' : chkZ (movedZ f m d b) = 0) :
    relZ (movedZ f m d a) (movedZ f m d b) = relZ a b := by
  have h1 := rel_bd a b
  have h2 := rel_bd (movedZ f m d a) (movedZ f m d b)
  have e1 : relZ (movedZ f m d a) (movedZ f m d b) = 1 ↔ relZ a b = 1 := by
    rw [rel_one ha hb, rel_one ha' hb']
    constructor
    · rintro ⟨q, q1, q2⟩
      obtain ⟨x, rfl⟩ := Geo.Aff.surj (mvZ f m d).one q
      exact ⟨x, (moved_iff f hm d ha ha' x).2.1 q1, (moved_iff f hm d hb hb' x).2.1 q2⟩
    · rintro ⟨x, x1, x2⟩
      exact ⟨_, (moved_iff f hm d ha ha' x).2.2 x1, (moved_iff f hm d hb hb' x).2.2 x2⟩
  have e2 : 0 ≤ relZ (movedZ f m d a) (movedZ f m d b) ↔ 0 ≤ relZ a b := by
    rw [rel_ge ha hb, rel_ge ha' hb']
    constructor
    · rintro ⟨q, q1, q2⟩
      obtain ⟨x, rfl⟩ := Geo.Aff.surj (mvZ f m d).one q
      exact ⟨x, (moved_iff f hm d ha ha' x).1.1 q1, (moved_iff f hm d hb hb' x).1.1 q2⟩
    · rintro ⟨x, x1, x2⟩
      exact ⟨_, (moved_iff f hm d ha ha' x).1.2 x1, (moved_iff f hm d hb hb' x).1.2 x2⟩
  omega
/-- within the bounds no sum wraps -/
theorem turn_bd {p : Z2} (h : -1048576 ≤ p.x ∧ p.x ≤ 1048576 ∧ -1048576 ≤ p.y ∧ p.y ≤ 1048576) (f : Bool) (m : Nat) : -1048576 ≤ (turnZ f m p).x ∧ (turnZ f m p).x ≤ 1048576 ∧ -1048576 ≤ (turnZ f m p).y ∧ (turnZ f m p).y ≤ 1048576 := by
  unfold turnZ
  induction m with
  | zero => unfold mirZ quart; split <;> (try simp only) <;> omega
  | succ m ih => simp only [quart]; omega
theorem moveZ_moved {a : List Z2} (ha : chkZ a = 0) (f : Bool) (m : Nat) {d : Z2} (hd : -1048576 ≤ d.x ∧ d.x ≤ 1048576 ∧ -1048576 ≤ d.y ∧ d.y ≤ 1048576) : moveZ (polyZ f m a) d = movedZ f m d a := by
  unfold moveZ movedZ
  refine List.map_congr_left fun p hp => ?_
  have hb : -1048576 ≤ p.x ∧ p.x ≤ 1048576 ∧ -1048576 ≤ p.y ∧ p.y ≤ 1048576 := by
    have : ∃ x ∈ a, p = turnZ f m x := by
      unfold polyZ at hp
      split at hp
      · rw [List.mem_reverse] at hp; obtain ⟨x, hx, rfl⟩ := List.mem_map.1 hp; exact ⟨x, hx, rfl⟩
      · obtain ⟨x, hx, rfl⟩ := List.mem_map.1 hp; exact ⟨x, hx, rfl⟩
    obtain ⟨x, hx, rfl⟩ := this
    have := in_of_chk ha x hx
    exact turn_bd (by omega) f m
  unfold addZ shZ
  rw [wrap64_in (by omega) (by omega), wrap64_in (by omega) (by omega)]
theorem polyZ_bd {a : List Z2} (ha : chkZ a = 0) : ∀ p ∈ a, Bd p := (chkZ_zero ha).2.2.1
end Go.Proofs.Ytfgeengdmbabhaa

namespace Go.Proofs.Ytfgeengdmbabhaa
open Go.ChangeShapes Go.WideShapes Go.ChangeAt Go.RowKit Go.Deep Go.Joins
section
variable {H : Type} {enc : TypeId × Value → H} {w : World} {base : Nat} {spare : Nat → Bool} {held : Bool}
theorem open_turn {r : Reach} {b0 : Nat} {v : Value} {d : DataW H} {p : List MemPlace} (hv : Value.okWide Try.prog w r b0 51 v) (h : DataW.Trod enc Try.prog w base spare held 51 v d p) :
    ∃ (f : Bool) (q : Int), v = .agg #[.bool f, .int .i64 q] := by
  obtain ⟨v0, v1, y0, y1, n, rfl, _, _, h0, h1⟩ := open_agg2 Try.underlying51 (by kernel_rfl) (by kernel_rfl) hv h
  obtain ⟨a, e0, _⟩ := DataW.trod_bool Try.underlying4 h0
  obtain ⟨b, e1, _, wb⟩ := DataW.trod_int Try.underlying3 h1
  simp at e0 e1
  subst e0 e1
  exact ⟨a, b, rfl⟩
end
end Go.Proofs.Ytfgeengdmbabhaa
