/- Plain laws of the normal form: simple, counterclockwise, without straight vertices, with the same positions. -/
import Derived.Test.YtfgeengdmbabhaaPd
namespace Go.Proofs.Ytfgeengdmbabhaa
open Geo (Pt cr On Simple edges mem_edges esum)

theorem poly_reverse (l : List Z2) : poly l.reverse = (poly l).reverse := by simp [poly]
theorem flat_reverse {l : List Pt} {v : Pt} : Geo.Flat l.reverse v ↔ Geo.Flat l v := by
  constructor
  · rintro ⟨p, s, h1, h2, h3⟩
    rw [Geo.mem_edges_rev] at h1 h2
    exact ⟨s, p, h2, h1, by unfold cr at *; grind⟩
  · rintro ⟨p, s, h1, h2, h3⟩
    exact ⟨s, p, Geo.mem_edges_rev.2 h2, Geo.mem_edges_rev.2 h1, by unfold cr at *; grind⟩
theorem rotZ_edges (l : List Z2) : (edges (rotZ l)).Perm (edges l) := by
  have := Geo.edges_rot (l.drop (firstTo l l.length)) (l.take (firstTo l l.length))
  rw [List.take_append_drop] at this
  exact this
theorem rotZ_perm (l : List Z2) : (rotZ l).Perm l := by
  have : (l.drop (firstTo l l.length) ++ l.take (firstTo l l.length)).Perm (l.take (firstTo l l.length) ++ l.drop (firstTo l l.length)) := List.perm_append_comm
  rw [List.take_append_drop] at this
  exact this
theorem rot_poly {l m : List Z2} (h1 : l.Perm m) (h2 : (edges l).Perm (edges m)) : Geo.Rot (poly l) (poly m) :=
  ⟨h1.map _, by rw [Geo.edges_map, Geo.edges_map]; exact h2.map _⟩
theorem rotZ_rot (l : List Z2) : Geo.Rot (poly (rotZ l)) (poly l) := rot_poly (rotZ_perm l) (rotZ_edges l)

theorem corners_place {ps : List Z2} (h : Simple (poly ps)) (q : Z2) : placeZ (cornersTo ps ps.length) q = placeZ ps q := by
  cases ho : outZ q with
  | true => unfold placeZ; rw [ho]; rfl
  | false =>
    have e1 : onAny (cornersTo ps ps.length) q = onAny ps q := by
      rw [Bool.eq_iff_iff, on_poly, on_poly, corners_keep h]
      exact Geo.keepF_on h _
    rw [place_w _ _ ho, place_w _ _ ho, e1, corners_keep h, Geo.keepF_w h]

structure Norm (ps l : List Z2) : Prop where
  simple : Simple (poly l)
  pos : 0 < areaZ l
  area : areaZ l = areaZ ps ∨ areaZ l = - areaZ ps
  place : ∀ q, placeZ l q = placeZ ps q
  strict : ∀ x ∈ poly l, ¬ Geo.Flat (poly l) x
  mem : ∀ p ∈ l, p ∈ ps
theorem corn_norm {ps : List Z2} (h : Simple (poly ps)) : Norm ps (corn ps) := by
  have hs : Simple (poly (cornersTo ps ps.length)) := by rw [corners_keep h]; exact Geo.keepF_simple h
  have hst : ∀ x ∈ poly (cornersTo ps ps.length), ¬ Geo.Flat (poly (cornersTo ps ps.length)) x := by rw [corners_keep h]; exact Geo.keepF_strict h
  have har := corners_area h
  have hne := area_ne h
  have hm := corners_mem (ps := ps) ps.length (Nat.le_refl _)
  unfold corn
  by_cases ha : areaZ ps < 0
  · rw [if_pos ha]
    refine ⟨by rw [poly_reverse]; exact hs.reverse, by rw [areaZ_reverse, har]; omega, .inr (by rw [areaZ_reverse, har]), fun q => by rw [placeZ_reverse]; exact corners_place h q, fun x hx => ?_, fun p hp => hm p (by simpa using hp)⟩
    rw [poly_reverse] at hx ⊢
    rw [flat_reverse]
    exact hst x (by simpa using hx)
  · rw [if_neg ha]
    exact ⟨hs, by rw [har]; omega, .inl har, fun q => corners_place h q, hst, hm⟩
theorem norm_norm {ps : List Z2} (h : chkZ ps = 0) : Norm ps (normZ ps) := by
  have n := corn_norm (chk_simple h)
  have r := rotZ_rot (corn ps)
  rw [normZ_pos h]
  unfold normR
  refine ⟨r.symm.simple n.simple, by rw [areaZ_same (rotZ_edges _)]; exact n.pos, by rw [areaZ_same (rotZ_edges _)]; exact n.area, fun q => by rw [placeZ_same q (rotZ_edges _)]; exact n.place q, fun x hx => ?_, fun p hp => n.mem p ((rotZ_perm _).mem_iff.1 hp)⟩
  rw [Geo.Flat.rot r]
  exact n.strict x (r.1.mem_iff.1 hx)
theorem Norm.in_range {ps l : List Z2} (n : Norm ps l) (h : chkZ ps = 0) : ∀ p ∈ l, outZ p = false := fun p hp => (out_iff p).2 (in_of_chk h p (n.mem p hp))
theorem Norm.LT {ps l : List Z2} (n : Norm ps l) : Geo.LT (poly l) := (LT_area n.simple).2 n.pos
end Go.Proofs.Ytfgeengdmbabhaa
