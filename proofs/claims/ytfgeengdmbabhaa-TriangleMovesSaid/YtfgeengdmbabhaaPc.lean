/- Plain laws of polygons: moved polygons; boxes. -/
import Derived.Test.YtfgeengdmbabhaaPb
namespace Go.Proofs.Ytfgeengdmbabhaa
open Geo (Pt cr On Simple edges mem_edges esum)

/-- a spot, moved -/
def shZ (d p : Z2) : Z2 := ⟨p.x + d.x, p.y + d.y⟩
theorem shZ_inj {d a b : Z2} (h : shZ d a = shZ d b) : a = b := by
  cases a; cases b
  simp only [shZ, Z2.mk.injEq] at h
  simp only [Z2.mk.injEq]; omega
theorem crZ_sh (d a b c : Z2) : crZ (shZ d a) (shZ d b) (shZ d c) = crZ a b c := by unfold crZ shZ; simp only; grind
theorem onZ_sh (d a b c : Z2) : onZ (shZ d a) (shZ d b) (shZ d c) = onZ a b c := by
  rw [Bool.eq_iff_iff]
  simp only [onZ, crZ_sh, Bool.and_eq_true, decide_eq_true_eq]
  simp only [shZ]; omega
theorem partedZ_sh (d a b c e : Z2) : partedZ (shZ d a) (shZ d b) (shZ d c) (shZ d e) = partedZ a b c e := by simp only [partedZ, crZ_sh]
theorem meetZ_sh (d a b c e : Z2) : meetZ (shZ d a) (shZ d b) (shZ d c) (shZ d e) = meetZ a b c e := by simp only [meetZ, onZ_sh, partedZ_sh]
theorem foldedZ_sh (d a b c : Z2) : foldedZ (shZ d a) (shZ d b) (shZ d c) = foldedZ a b c := by
  have e1 : ∀ x y : Int, x + d.x - (y + d.x) = x - y := fun x y => by omega
  have e2 : ∀ x y : Int, x + d.y - (y + d.y) = x - y := fun x y => by omega
  simp only [foldedZ, crZ_sh]
  simp only [shZ, e1, e2]
theorem crossesZ_sh (d a b q : Z2) : crossesZ (shZ d a) (shZ d b) (shZ d q) = crossesZ a b q := by
  rw [Bool.eq_iff_iff, cross_iff, cross_iff, crZ_sh]
  simp only [shZ]; omega
theorem pt_map (f : Z2 → Z2) {ps : List Z2} {k : Nat} (h : k < ps.length) : pt (ps.map f) k = f (pt ps k) := by
  rw [pt_eq h, pt_eq (by simpa using h), List.getElem_map]
theorem all_congr' {n : Nat} {f g : Nat → Bool} (h : ∀ i, i < n → f i = g i) : (List.range n).all f = (List.range n).all g := by
  rw [Bool.eq_iff_iff, List.all_eq_true, List.all_eq_true]
  constructor
  · intro hf i hi; rw [← h i (by simpa using hi)]; exact hf i hi
  · intro hf i hi; rw [h i (by simpa using hi)]; exact hf i hi
theorem simpleZ_sh (d : Z2) (ps : List Z2) : simpleZ (ps.map (shZ d)) = simpleZ ps := by
  unfold simpleZ
  rw [List.length_map]
  congr 1
  · refine all_congr' fun i hi => ?_
    rw [pt_map _ hi, ← List.map_take]
    congr 1
    rw [Bool.eq_iff_iff]
    simp only [List.contains_eq_mem, decide_eq_true_eq, List.mem_map]
    constructor
    · rintro ⟨a, ha, e⟩; rw [← shZ_inj e]; exact ha
    · intro h; exact ⟨_, h, rfl⟩
  · refine all_congr' fun i hi => ?_
    have hm : ∀ j, j % ps.length < ps.length := fun j => Nat.mod_lt _ (by omega)
    unfold rowZ
    rw [List.length_map, pt_map _ hi, pt_map _ (hm _), pt_map _ (hm _), foldedZ_sh]
    congr 1
    refine all_congr' fun k hk => ?_
    unfold stepZ
    rw [List.length_map, pt_map _ hi, pt_map _ (hm _), pt_map _ hk, pt_map _ (hm _), meetZ_sh]
theorem edges_sh (d : Z2) (ps : List Z2) : edges (ps.map (shZ d)) = (edges ps).map (Prod.map (shZ d) (shZ d)) := Geo.edges_map _ _
theorem areaZ_sh (d : Z2) (ps : List Z2) : areaZ (ps.map (shZ d)) = areaZ ps := by
  rw [areaZ_esum, areaZ_esum, edges_sh, Geo.esum_map]
  have h := Geo.esum_closed (fun p : Z2 => d.x * p.y - d.y * p.x) ps
  have e : esum (fun e : Z2 × Z2 => sideZ (Prod.map (shZ d) (shZ d) e).1 (Prod.map (shZ d) (shZ d) e).2) (edges ps) = esum (fun e => sideZ e.1 e.2 + ((d.x * e.2.y - d.y * e.2.x) - (d.x * e.1.y - d.y * e.1.x))) (edges ps) :=
    Geo.esum_congr fun e _ => by simp only [sideZ, shZ, Prod.map_fst, Prod.map_snd]; grind
  rw [e, Geo.esum_add, h]; omega
theorem onAny_sh (d : Z2) (ps : List Z2) (q : Z2) : onAny (ps.map (shZ d)) (shZ d q) = onAny ps q := by
  rw [Bool.eq_iff_iff, onAny_iff, onAny_iff, edges_sh]
  constructor
  · rintro ⟨e, he, h⟩
    obtain ⟨f, hf, rfl⟩ := List.mem_map.1 he
    exact ⟨f, hf, by rw [← onZ_sh d]; exact h⟩
  · rintro ⟨f, hf, h⟩
    exact ⟨_, List.mem_map_of_mem hf, by simp only [Prod.map_fst, Prod.map_snd]; rw [onZ_sh]; exact h⟩
theorem par_sh (d : Z2) (ps : List Z2) (q : Z2) : parTo (ps.map (shZ d)) (shZ d q) (ps.map (shZ d)).length = parTo ps q ps.length := by
  rw [parZ_cnt, parZ_cnt]
  have : cntE (shZ d q) (edges (ps.map (shZ d))) = cntE q (edges ps) := by
    unfold cntE
    rw [edges_sh, Geo.esum_map]
    exact Geo.esum_congr fun e _ => by simp only [Prod.map_fst, Prod.map_snd, crossesZ_sh]
  rw [this]
theorem out_iff (p : Z2) : outZ p = false ↔ (-1048576 ≤ p.x ∧ p.x ≤ 1048576 ∧ -1048576 ≤ p.y ∧ p.y ≤ 1048576) := by
  simp [outZ]; omega
theorem place_sh {ps : List Z2} {d q : Z2} (hq : outZ q = false) (hm : (ps.map (shZ d)).any outZ = false) : placeZ (ps.map (shZ d)) (shZ d q) = placeZ ps q := by
  cases ho : outZ (shZ d q) with
  | false =>
    unfold placeZ
    rw [ho, hq, onAny_sh, par_sh]
  | true =>
    have e1 : placeZ (ps.map (shZ d)) (shZ d q) = -1 := by unfold placeZ; rw [ho]; rfl
    rw [e1]
    have hin : ∀ p ∈ ps, outZ (shZ d p) = false := fun p hp => by
      have := List.any_eq_false.1 hm (shZ d p) (List.mem_map_of_mem hp)
      simpa using this
    have hin' : ∀ p ∈ ps, -1048576 ≤ p.x + d.x ∧ p.x + d.x ≤ 1048576 ∧ -1048576 ≤ p.y + d.y ∧ p.y + d.y ≤ 1048576 := fun p hp => (out_iff _).1 (hin p hp)
    have hn : ¬ (-1048576 ≤ q.x + d.x ∧ q.x + d.x ≤ 1048576 ∧ -1048576 ≤ q.y + d.y ∧ q.y + d.y ≤ 1048576) := fun h => by
      have := (out_iff (shZ d q)).2 h
      rw [ho] at this; cases this
    refine (place_out ?_).symm
    by_cases c1 : q.x + d.x < -1048576
    · exact .inr (.inl fun p hp => by have := hin' p hp; omega)
    by_cases c2 : 1048576 < q.x + d.x
    · exact .inl fun p hp => by have := hin' p hp; omega
    by_cases c3 : q.y + d.y < -1048576
    · exact .inr (.inr (.inr fun p hp => by have := hin' p hp; omega))
    · exact .inr (.inr (.inl fun p hp => by have := hin' p hp; omega))
theorem lo_sh (d : Z2) (ps : List Z2) (hne : 0 < ps.length) (k : Nat) (hk : k ≤ ps.length) : loTo (ps.map (shZ d)) k = shZ d (loTo ps k) := by
  induction k with
  | zero => exact pt_map _ hne
  | succ k ih =>
    simp only [loTo]
    rw [ih (by omega), pt_map _ (by omega)]
    simp only [shZ, Z2.mk.injEq]; omega
theorem hi_sh (d : Z2) (ps : List Z2) (hne : 0 < ps.length) (k : Nat) (hk : k ≤ ps.length) : hiTo (ps.map (shZ d)) k = shZ d (hiTo ps k) := by
  induction k with
  | zero => exact pt_map _ hne
  | succ k ih =>
    simp only [hiTo]
    rw [ih (by omega), pt_map _ (by omega)]
    simp only [shZ, Z2.mk.injEq]; omega
theorem boxR_sh (d : Z2) (ps : List Z2) (hne : 0 < ps.length) : boxR (ps.map (shZ d)) = ⟨(boxR ps).x + d.x, (boxR ps).y + d.y, (boxR ps).w, (boxR ps).h⟩ := by
  unfold boxR
  rw [List.length_map, lo_sh d ps hne _ (Nat.le_refl _), hi_sh d ps hne _ (Nat.le_refl _)]
  simp only [shZ, R4.mk.injEq, true_and]
  constructor <;> grind

theorem in_of_chk {ps : List Z2} (h : chkZ ps = 0) : ∀ p ∈ ps, -1048576 ≤ p.x ∧ p.x ≤ 1048576 ∧ -1048576 ≤ p.y ∧ p.y ≤ 1048576 := fun p hp => by
  have := List.any_eq_false.1 (chkZ_zero h).2.2.2.1 p hp
  exact (out_iff p).1 (by simpa using this)
theorem moveZ_sh {ps : List Z2} {d : Z2} (h : chkZ ps = 0) (hd : outZ d = false) : moveZ ps d = ps.map (shZ d) := by
  unfold moveZ
  refine List.map_congr_left fun p hp => ?_
  have h1 := in_of_chk h p hp
  have h2 := (out_iff d).1 hd
  unfold addZ shZ
  rw [wrap64_in (by omega) (by omega), wrap64_in (by omega) (by omega)]
theorem chk_sh {ps : List Z2} {d : Z2} (h : chkZ ps = 0) : chkZ (ps.map (shZ d)) = if (ps.map (shZ d)).any outZ then 3 else 0 := by
  obtain ⟨h1, h2, _, _, h5⟩ := chkZ_zero h
  unfold chkZ
  rw [List.length_map, if_neg (by omega), if_neg (by omega), simpleZ_sh, h5]
  rfl

/-- what PolygonMoves asks -/
theorem moves_law {ps : List Z2} {d q : Z2} (h : chkZ ps = 0) (hd : outZ d = false) (hq : outZ q = false) :
    chkZ (moveZ ps d) = 3 ∨ (chkZ (moveZ ps d) = 0 ∧ boxZ (moveZ ps d) = ⟨(boxZ ps).x + d.x, (boxZ ps).y + d.y, (boxZ ps).w, (boxZ ps).h⟩ ∧ whereZ (moveZ ps d) ⟨q.x + d.x, q.y + d.y⟩ = whereZ ps q ∧ aZ (moveZ ps d) = aZ ps) := by
  rw [moveZ_sh h hd]
  have hc := chk_sh (d := d) h
  cases ho : (ps.map (shZ d)).any outZ with
  | true => rw [ho] at hc; exact .inl hc
  | false =>
    rw [ho] at hc
    have hc' : chkZ (ps.map (shZ d)) = 0 := hc
    refine .inr ⟨hc', ?_, ?_, ?_⟩
    · rw [boxZ_pos hc', boxZ_pos h, boxR_sh d ps (by have := (chkZ_zero h).2.1; omega)]
    · rw [whereZ_pos hc', whereZ_pos h]
      exact place_sh hq ho
    · rw [aZ_pos hc', aZ_pos h, areaZ_sh]

/-! the box -/
theorem loTo_le {ps : List Z2} {k j : Nat} (hj : j < k) : (loTo ps k).x ≤ (pt ps j).x ∧ (loTo ps k).y ≤ (pt ps j).y := by
  induction k with
  | zero => omega
  | succ k ih =>
    simp only [loTo]
    by_cases e : j = k
    · subst e; omega
    · have := ih (by omega); omega
theorem hiTo_ge {ps : List Z2} {k j : Nat} (hj : j < k) : (pt ps j).x ≤ (hiTo ps k).x ∧ (pt ps j).y ≤ (hiTo ps k).y := by
  induction k with
  | zero => omega
  | succ k ih =>
    simp only [hiTo]
    by_cases e : j = k
    · subst e; omega
    · have := ih (by omega); omega
theorem loTo_at {ps : List Z2} (hn : 0 < ps.length) {k : Nat} (hk : k ≤ ps.length) : (∃ j, j < ps.length ∧ (j < k ∨ k = 0) ∧ (loTo ps k).x = (pt ps j).x) ∧ (∃ j, j < ps.length ∧ (j < k ∨ k = 0) ∧ (loTo ps k).y = (pt ps j).y) := by
  induction k with
  | zero => exact ⟨⟨0, hn, .inr rfl, rfl⟩, ⟨0, hn, .inr rfl, rfl⟩⟩
  | succ k ih =>
    obtain ⟨⟨j1, a1, b1, c1⟩, ⟨j2, a2, b2, c2⟩⟩ := ih (by omega)
    simp only [loTo]
    constructor
    · by_cases c : (pt ps k).x < (loTo ps k).x
      · exact ⟨k, by omega, .inl (by omega), by omega⟩
      · by_cases hz : k = 0
        · subst hz; exact ⟨0, hn, .inl (by omega), by simp [loTo]⟩
        · exact ⟨j1, a1, .inl (by omega), by omega⟩
    · by_cases c : (pt ps k).y < (loTo ps k).y
      · exact ⟨k, by omega, .inl (by omega), by omega⟩
      · by_cases hz : k = 0
        · subst hz; exact ⟨0, hn, .inl (by omega), by simp [loTo]⟩
        · exact ⟨j2, a2, .inl (by omega), by omega⟩
theorem hiTo_at {ps : List Z2} (hn : 0 < ps.length) {k : Nat} (hk : k ≤ ps.length) : (∃ j, j < ps.length ∧ (j < k ∨ k = 0) ∧ (hiTo ps k).x = (pt ps j).x) ∧ (∃ j, j < ps.length ∧ (j < k ∨ k = 0) ∧ (hiTo ps k).y = (pt ps j).y) := by
  induction k with
  | zero => exact ⟨⟨0, hn, .inr rfl, rfl⟩, ⟨0, hn, .inr rfl, rfl⟩⟩
  | succ k ih =>
    obtain ⟨⟨j1, a1, b1, c1⟩, ⟨j2, a2, b2, c2⟩⟩ := ih (by omega)
    simp only [hiTo]
    constructor
    · by_cases c : (hiTo ps k).x < (pt ps k).x
      · exact ⟨k, by omega, .inl (by omega), by omega⟩
      · by_cases hz : k = 0
        · subst hz; exact ⟨0, hn, .inl (by omega), by simp [hiTo]⟩
        · exact ⟨j1, a1, .inl (by omega), by omega⟩
    · by_cases c : (hiTo ps k).y < (pt ps k).y
      · exact ⟨k, by omega, .inl (by omega), by omega⟩
      · by_cases hz : k = 0
        · subst hz; exact ⟨0, hn, .inl (by omega), by simp [hiTo]⟩
        · exact ⟨j2, a2, .inl (by omega), by omega⟩

/-- vertices lie on the boundary -/
theorem place_vertex {ps : List Z2} (h : chkZ ps = 0) {k : Nat} (hk : k < ps.length) : whereZ ps (pt ps k) = 0 := by
  rw [whereZ_pos h]
  have ho : outZ (pt ps k) = false := (out_iff _).2 (in_of_chk h _ (pt_mem hk))
  have hon : onAny ps (pt ps k) = true := (onAny_iff _ _).2 ⟨(pt ps k, nx ps k), mem_edgesZ.2 ⟨k, hk, rfl⟩, (onZ_iff _ _ _).2 (Geo.on_left _ _)⟩
  unfold placeZ
  rw [ho, hon]; rfl
end Go.Proofs.Ytfgeengdmbabhaa
