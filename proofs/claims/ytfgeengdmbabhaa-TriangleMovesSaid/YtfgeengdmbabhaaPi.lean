/- Normal forms and triangles of moved polygons. -/
import Derived.Test.YtfgeengdmbabhaaPh
namespace Go.Proofs.Ytfgeengdmbabhaa
open Geo (Pt cr On Simple edges mem_edges esum)

theorem pt_sh (d : Z2) {l : List Z2} {k : Nat} (h : k < l.length) : pt (l.map (shZ d)) k = shZ d (pt l k) := pt_map _ h
theorem bend_sh (d : Z2) {l : List Z2} {i : Nat} (hi : i < l.length) : bendZ (l.map (shZ d)) i = bendZ l i := by
  have hm : ∀ j, j % l.length < l.length := fun j => Nat.mod_lt _ (by omega)
  unfold bendZ
  rw [List.length_map, pt_sh d (hm _), pt_sh d hi, pt_sh d (hm _), crZ_sh]
theorem corners_sh (d : Z2) (l : List Z2) (k : Nat) (hk : k ≤ l.length) : cornersTo (l.map (shZ d)) k = (cornersTo l k).map (shZ d) := by
  induction k with
  | zero => rfl
  | succ k ih =>
    simp only [cornersTo]
    rw [bend_sh d (by omega), ih (by omega), pt_sh d (by omega)]
    split
    · rfl
    · rw [List.map_append]; rfl
theorem less_sh (d a b : Z2) : lessZ (shZ d a) (shZ d b) = lessZ a b := by
  rw [Bool.eq_iff_iff, lessZ_iff, lessZ_iff]
  simp only [shZ]; omega
theorem first_sh (d : Z2) (l : List Z2) (k : Nat) (hk : k ≤ l.length) : firstTo (l.map (shZ d)) k = firstTo l k := by
  induction k with
  | zero => rfl
  | succ k ih =>
    simp only [firstTo]
    have hf : firstTo l k < l.length := by
      cases k with
      | zero => simp [firstTo]; omega
      | succ k => have := firstTo_lt l (k + 1) (by omega); omega
    rw [ih (by omega), pt_sh d (by omega), pt_sh d hf, less_sh]
theorem rot_sh (d : Z2) (l : List Z2) : rotZ (l.map (shZ d)) = (rotZ l).map (shZ d) := by
  unfold rotZ
  rw [List.length_map, first_sh d l _ (Nat.le_refl _), List.map_append, List.map_drop, List.map_take]
theorem corn_sh (d : Z2) (ps : List Z2) : corn (ps.map (shZ d)) = (corn ps).map (shZ d) := by
  unfold corn
  rw [areaZ_sh, List.length_map, corners_sh d ps _ (Nat.le_refl _)]
  split
  · rw [List.map_reverse]
  · rfl
theorem norm_sh {d : Z2} {ps : List Z2} (h1 : chkZ ps = 0) (h2 : chkZ (ps.map (shZ d)) = 0) : normZ (ps.map (shZ d)) = (normZ ps).map (shZ d) := by
  rw [normZ_pos h1, normZ_pos h2]
  unfold normR
  rw [corn_sh, rot_sh]

theorem tri3Z_sh (d a b c q : Z2) : tri3Z (shZ d a) (shZ d b) (shZ d c) (shZ d q) = tri3Z a b c q := by
  unfold tri3Z; simp only [crZ_sh]
theorem firstZ_congr {n : Nat} {f g : Nat → Bool} (h : ∀ i, i < n → f i = g i) : firstZ n f = firstZ n g := by
  rcases firstZ_cases n f with ⟨i, hi, e, ht, hno⟩ | ⟨e, hno⟩
  · rw [e, firstZ_at hi (by rw [← h i hi]; exact ht) (fun j hj => by rw [← h j (by omega)]; exact hno j hj)]
  · rw [e, firstZ_none (fun j hj => by rw [← h j hj]; exact hno j hj)]
theorem eqZ_sh (d a b : Z2) : eqZ (shZ d a) (shZ d b) = eqZ a b := by
  unfold eqZ
  rw [Bool.eq_iff_iff, decide_eq_true_eq, decide_eq_true_eq]
  exact ⟨shZ_inj, fun h => by rw [h]⟩
section
variable {d : Z2} {l : List Z2}
theorem cA_sh {i : Nat} (hi : i < l.length) : cA (l.map (shZ d)) i = shZ d (cA l i) := by
  unfold cA; rw [List.length_map]; exact pt_sh d (Nat.mod_lt _ (by omega))
theorem cC_sh {i : Nat} (hi : i < l.length) : cC (l.map (shZ d)) i = shZ d (cC l i) := by
  unfold cC; rw [List.length_map]; exact pt_sh d (Nat.mod_lt _ (by omega))
theorem flat_sh {i : Nat} (hi : i < l.length) : flatZ (l.map (shZ d)) i = flatZ l i := by
  unfold flatZ; rw [bend_sh d hi]
theorem free_sh (h1 : ∀ p ∈ l, outZ p = false) (h2 : ∀ p ∈ l, outZ (shZ d p) = false) {i : Nat} (hi : i < l.length) : freeZ (l.map (shZ d)) i = freeZ l i := by
  unfold freeZ
  rw [bend_sh d hi]
  congr 2
  rw [Bool.eq_iff_iff, List.any_eq_true, List.any_eq_true]
  have mA : cA l i ∈ l := pt_mem (Nat.mod_lt _ (by omega))
  have mC : cC l i ∈ l := pt_mem (Nat.mod_lt _ (by omega))
  have mB : pt l i ∈ l := pt_mem hi
  have key : ∀ q ∈ l, blockZ (l.map (shZ d)) i (shZ d q) = blockZ l i q := fun q hq => by
    unfold blockZ
    rw [cA_sh hi, cC_sh hi, pt_sh d hi, eqZ_sh, eqZ_sh, eqZ_sh, holds3, holds3, tri3Z_sh, h1 _ mA, h1 _ mB, h1 _ mC, h1 _ hq, h2 _ mA, h2 _ mB, h2 _ mC, h2 _ hq]
  constructor
  · rintro ⟨x, hx, hb⟩
    obtain ⟨q, hq, rfl⟩ := List.mem_map.1 hx
    exact ⟨q, hq, by rw [← key q hq]; exact hb⟩
  · rintro ⟨q, hq, hb⟩
    exact ⟨_, List.mem_map_of_mem hq, by rw [key q hq]; exact hb⟩
end
theorem splitG_sh (d : Z2) (n : Nat) : ∀ (l : List Z2) (r : List (List Z2)), (∀ p ∈ l, outZ p = false) → (∀ p ∈ l, outZ (shZ d p) = false) →
    splitG n (l.map (shZ d)) (r.map (List.map (shZ d))) = (splitG n l r).map (List.map (List.map (shZ d))) := by
  induction n with
  | zero => intro l r _ _; simp [splitG]
  | succ n ih =>
    intro l r h1 h2
    have ef : firstZ l.length (flatZ (l.map (shZ d))) = firstZ l.length (flatZ l) := firstZ_congr fun i hi => flat_sh hi
    have eg : firstZ l.length (freeZ (l.map (shZ d))) = firstZ l.length (freeZ l) := firstZ_congr fun i hi => free_sh h1 h2 hi
    simp only [splitG, List.length_map, ef, eg]
    by_cases h3 : l.length ≤ 3
    · rw [if_pos h3, if_pos h3]; simp
    rw [if_neg h3, if_neg h3]
    have em : ∀ i, (l.map (shZ d)).eraseIdx i = (l.eraseIdx i).map (shZ d) := fun i => by
      rw [List.eraseIdx_eq_take_drop_succ, List.eraseIdx_eq_take_drop_succ, List.map_append, List.map_take, List.map_drop]
    by_cases hf : 0 ≤ firstZ l.length (flatZ l)
    · rw [if_pos hf, if_pos hf, em]
      exact ih _ _ (fun p hp => h1 p (List.mem_of_mem_eraseIdx hp)) (fun p hp => h2 p (List.mem_of_mem_eraseIdx hp))
    rw [if_neg hf, if_neg hf]
    by_cases hg : 0 ≤ firstZ l.length (freeZ l)
    · rw [if_pos hg, if_pos hg, em]
      have hi : (firstZ l.length (freeZ l)).toNat < l.length := by
        rcases firstZ_cases l.length (freeZ l) with ⟨i, hi, e, _⟩ | ⟨e, _⟩
        · rw [e]; simpa using hi
        · omega
      rw [cA_sh hi, cC_sh hi, pt_sh d hi]
      have := ih (l.eraseIdx (firstZ l.length (freeZ l)).toNat) (r ++ [[cA l (firstZ l.length (freeZ l)).toNat, pt l (firstZ l.length (freeZ l)).toNat, cC l (firstZ l.length (freeZ l)).toNat]]) (fun p hp => h1 p (List.mem_of_mem_eraseIdx hp)) (fun p hp => h2 p (List.mem_of_mem_eraseIdx hp))
      rw [List.map_append] at this
      exact this
    · rw [if_neg hg, if_neg hg]; rfl
theorem split_sh {d : Z2} {ps : List Z2} (h1 : chkZ ps = 0) (h2 : chkZ (ps.map (shZ d)) = 0) : splitZ (ps.map (shZ d)) = (splitZ ps).map (List.map (shZ d)) := by
  have n := norm_norm h1
  have hin := in_of_chk h2
  unfold splitZ
  rw [if_pos h1, if_pos h2, norm_sh h1 h2, List.length_map]
  have := splitG_sh d (normZ ps).length (normZ ps) [] (n.in_range h1) (fun p hp => (out_iff _).2 (hin _ (List.mem_map_of_mem (n.mem p hp))))
  rw [List.map_nil] at this
  rw [this]
  cases splitG (normZ ps).length (normZ ps) [] <;> rfl
end Go.Proofs.Ytfgeengdmbabhaa
