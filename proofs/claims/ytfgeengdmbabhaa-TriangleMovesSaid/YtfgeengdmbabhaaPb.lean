/- Plain laws of polygons: points outside of the box; moved polygons. -/
import Derived.Test.YtfgeengdmbabhaaPa
namespace Go.Proofs.Ytfgeengdmbabhaa
open Geo (Pt cr On Simple edges mem_edges esum)

theorem esum_zero {α : Type} {f : α × α → Int} {l : List (α × α)} (h : ∀ e ∈ l, f e = 0) : esum f l = 0 := by
  rw [Geo.esum_congr (g := fun _ => 0) h]
  induction l with
  | nil => rfl
  | cons e l ih => rw [Geo.esum_cons, ih (fun e he => h e (List.mem_cons_of_mem _ he))]; rfl

/-- a spot strictly beside all vertices, in one of the four directions, is outside -/
theorem par_out {ps : List Z2} {q : Z2} (h : (∀ p ∈ ps, p.x < q.x) ∨ (∀ p ∈ ps, q.x < p.x) ∨ (∀ p ∈ ps, p.y < q.y) ∨ (∀ p ∈ ps, q.y < p.y)) : onAny ps q = false ∧ parTo ps q ps.length = -1 := by
  have hon : onAny ps q = false := by
    cases ho : onAny ps q with
    | false => rfl
    | true =>
      exfalso
      obtain ⟨e, he, h1⟩ := (onAny_iff ps q).1 ho
      have m1 := Geo.edges_fst_mem he
      have m2 := Geo.edges_snd_mem he
      simp only [onZ, Bool.and_eq_true, decide_eq_true_eq] at h1
      rcases h with h | h | h | h
      all_goals
        have a1 := h _ m1
        have a2 := h _ m2
        omega
  refine ⟨hon, ?_⟩
  rw [parZ_cnt]
  have key : cntE q (edges ps) % 2 = 0 := by
    rcases h with h | h | h | h
    · have : cntE q (edges ps) = 0 := esum_zero fun e he => by
        have a1 := h _ (Geo.edges_fst_mem he)
        have a2 := h _ (Geo.edges_snd_mem he)
        rw [if_neg]
        intro hc
        rw [cross_iff] at hc
        rcases hc with ⟨u, v, z⟩ | ⟨u, v, z⟩
        · have g1 : 0 ≤ (q.x - e.1.x) * (e.2.y - q.y) := Int.mul_nonneg (by omega) (by omega)
          have g2 : 0 ≤ (q.x - e.2.x) * (q.y - e.1.y) := Int.mul_nonneg (by omega) (by omega)
          unfold crZ at z; grind
        · have g1 : 0 ≤ (q.x - e.2.x) * (e.1.y - q.y) := Int.mul_nonneg (by omega) (by omega)
          have g2 : 0 ≤ (q.x - e.1.x) * (q.y - e.2.y) := Int.mul_nonneg (by omega) (by omega)
          unfold crZ at z; grind
      rw [this]; rfl
    · -- every side that passes the height is crossed: as many up as down
      have e1 : cntE q (edges ps) = esum (fun e => (if q.y < e.2.y then 1 else 0) - (if q.y < e.1.y then 1 else 0)) (edges ps) + 2 * esum (fun e => if e.2.y ≤ q.y ∧ q.y < e.1.y then 1 else 0) (edges ps) := by
        have e2 : 2 * esum (fun e : Z2 × Z2 => if e.2.y ≤ q.y ∧ q.y < e.1.y then (1 : Int) else 0) (edges ps) = esum (fun e => (if e.2.y ≤ q.y ∧ q.y < e.1.y then (1 : Int) else 0) + (if e.2.y ≤ q.y ∧ q.y < e.1.y then 1 else 0)) (edges ps) := by
          rw [Geo.esum_add]; omega
        rw [e2, ← Geo.esum_add]
        refine Geo.esum_congr fun e he => ?_
        have a1 := h _ (Geo.edges_fst_mem he)
        have a2 := h _ (Geo.edges_snd_mem he)
        by_cases hu : e.1.y ≤ q.y ∧ q.y < e.2.y
        · have g1 : 0 < (e.1.x - q.x) * (e.2.y - q.y) := Int.mul_pos (by omega) (by omega)
          have g2 : 0 ≤ (e.2.x - q.x) * (q.y - e.1.y) := Int.mul_nonneg (by omega) (by omega)
          have hz : 0 < crZ e.1 e.2 q := by unfold crZ; grind
          rw [if_pos ((cross_iff _ _ _).2 (.inl ⟨hu.1, hu.2, hz⟩)), if_pos hu.2, if_neg (by omega), if_neg (by omega)]; rfl
        by_cases hd : e.2.y ≤ q.y ∧ q.y < e.1.y
        · have g1 : 0 < (e.2.x - q.x) * (e.1.y - q.y) := Int.mul_pos (by omega) (by omega)
          have g2 : 0 ≤ (e.1.x - q.x) * (q.y - e.2.y) := Int.mul_nonneg (by omega) (by omega)
          have hz : crZ e.1 e.2 q < 0 := by unfold crZ; grind
          rw [if_pos ((cross_iff _ _ _).2 (.inr ⟨hd.1, hd.2, hz⟩)), if_neg (by omega), if_pos hd.2, if_pos hd]; rfl
        · rw [if_neg (fun hc => by have := (cross_iff _ _ _).1 hc; omega), if_neg hd]
          split <;> split <;> omega
      have e3 := Geo.esum_closed (fun p : Z2 => if q.y < p.y then (1 : Int) else 0) ps
      rw [e3] at e1
      omega
    · have : cntE q (edges ps) = 0 := esum_zero fun e he => by
        have a1 := h _ (Geo.edges_fst_mem he)
        have a2 := h _ (Geo.edges_snd_mem he)
        rw [if_neg (fun hc => by have := (cross_iff _ _ _).1 hc; omega)]
      rw [this]; rfl
    · have : cntE q (edges ps) = 0 := esum_zero fun e he => by
        have a1 := h _ (Geo.edges_fst_mem he)
        have a2 := h _ (Geo.edges_snd_mem he)
        rw [if_neg (fun hc => by have := (cross_iff _ _ _).1 hc; omega)]
      rw [this]; rfl
  rw [if_pos key]
theorem place_out {ps : List Z2} {q : Z2} (h : (∀ p ∈ ps, p.x < q.x) ∨ (∀ p ∈ ps, q.x < p.x) ∨ (∀ p ∈ ps, p.y < q.y) ∨ (∀ p ∈ ps, q.y < p.y)) : placeZ ps q = -1 := by
  obtain ⟨h1, h2⟩ := par_out h
  unfold placeZ
  rw [h1, h2]
  split <;> rfl
end Go.Proofs.Ytfgeengdmbabhaa
