/- Plain laws of polygons: the answers as sums over the sides; reversal. -/
import Derived.Test.YtfgeengdmbabhaaBr
namespace Go.Proofs.Ytfgeengdmbabhaa
open Geo (Pt cr On Simple edges mem_edges esum)

theorem edges_take_succ {ps : List Z2} {k : Nat} (hk : k < ps.length) : (edges ps).take (k + 1) = (edges ps).take k ++ [(pt ps k, nx ps k)] := by
  have hk' : k < (edges ps).length := by rw [Geo.edges_length]; exact hk
  have hn : (k + 1) % ps.length < ps.length := Nat.mod_lt _ (by omega)
  rw [List.take_succ_eq_append_getElem hk', Geo.edges_getElem ps k hk]
  unfold nx
  rw [pt_eq hk, pt_eq hn]
theorem mem_edgesZ {ps : List Z2} {e : Z2 × Z2} : e ∈ edges ps ↔ ∃ i, i < ps.length ∧ e = (pt ps i, nx ps i) := by
  rw [mem_edges]
  constructor
  · rintro ⟨i, hi, rfl⟩
    have hn : (i + 1) % ps.length < ps.length := Nat.mod_lt _ (by omega)
    exact ⟨i, hi, by unfold nx; rw [pt_eq hi, pt_eq hn]⟩
  · rintro ⟨i, hi, rfl⟩
    have hn : (i + 1) % ps.length < ps.length := Nat.mod_lt _ (by omega)
    exact ⟨i, hi, by unfold nx; rw [pt_eq hi, pt_eq hn]⟩

theorem areaTo_esum (ps : List Z2) (k : Nat) (hk : k ≤ ps.length) : areaTo ps k = esum (fun e => sideZ e.1 e.2) ((edges ps).take k) := by
  induction k with
  | zero => simp [areaTo, esum]
  | succ k ih =>
    rw [edges_take_succ (by omega), Geo.esum_append, ← ih (by omega)]
    simp [areaTo, esum]
theorem areaZ_esum (ps : List Z2) : areaZ ps = esum (fun e => sideZ e.1 e.2) (edges ps) := by
  unfold areaZ
  rw [areaTo_esum ps _ (Nat.le_refl _), List.take_of_length_le (by rw [Geo.edges_length]; exact Nat.le_refl _)]

/-- how many sides the ray crosses -/
def cntE (q : Z2) (l : List (Z2 × Z2)) : Int := esum (fun e => if crossesZ e.1 e.2 q then 1 else 0) l
theorem parTo_cnt (ps : List Z2) (q : Z2) (k : Nat) (hk : k ≤ ps.length) : parTo ps q k = if cntE q ((edges ps).take k) % 2 = 0 then -1 else 1 := by
  induction k with
  | zero => simp [parTo, cntE, esum]
  | succ k ih =>
    have e : cntE q ((edges ps).take (k + 1)) = cntE q ((edges ps).take k) + if crossesZ (pt ps k) (nx ps k) q then 1 else 0 := by
      unfold cntE
      rw [edges_take_succ (by omega), Geo.esum_append]
      simp [esum]
    rw [e]
    simp only [parTo]
    rw [ih (by omega)]
    by_cases hc : crossesZ (pt ps k) (nx ps k) q = true
    · rw [if_pos hc, if_pos hc]; split <;> split <;> omega
    · rw [if_neg hc, if_neg hc, Int.add_zero]
theorem parZ_cnt (ps : List Z2) (q : Z2) : parTo ps q ps.length = if cntE q (edges ps) % 2 = 0 then -1 else 1 := by
  rw [parTo_cnt ps q _ (Nat.le_refl _), List.take_of_length_le (by rw [Geo.edges_length]; exact Nat.le_refl _)]
theorem onAny_iff (ps : List Z2) (q : Z2) : onAny ps q = true ↔ ∃ e ∈ edges ps, onZ e.1 e.2 q = true := by
  unfold onAny
  rw [List.any_eq_true]
  constructor
  · rintro ⟨i, hi, h⟩; exact ⟨_, mem_edgesZ.2 ⟨i, by simpa using hi, rfl⟩, h⟩
  · rintro ⟨e, he, h⟩
    obtain ⟨i, hi, rfl⟩ := mem_edgesZ.1 he
    exact ⟨i, by simpa using hi, h⟩

/-! Two lists with the same sides, in any order, or with their directions changed -/
theorem crZ_swap (a b c : Z2) : crZ b a c = - crZ a b c := by unfold crZ; grind
theorem onZ_swap (a b q : Z2) : onZ b a q = onZ a b q := by
  rw [Bool.eq_iff_iff, onZ_iff, onZ_iff]
  exact ⟨Geo.on_comm, Geo.on_comm⟩
theorem crossesZ_swap (a b q : Z2) : crossesZ b a q = crossesZ a b q := by
  rw [Bool.eq_iff_iff, cross_iff, cross_iff, crZ_swap a b q]
  omega
theorem sideZ_swap (a b : Z2) : sideZ b a = - sideZ a b := by unfold sideZ; grind

theorem placeZ_same {ps qs : List Z2} (q : Z2) (h : (edges ps).Perm (edges qs)) : placeZ ps q = placeZ qs q := by
  have h1 : onAny ps q = onAny qs q := by
    rw [Bool.eq_iff_iff, onAny_iff, onAny_iff]
    simp only [h.mem_iff]
  unfold placeZ
  rw [h1, parZ_cnt, parZ_cnt]
  unfold cntE
  rw [Geo.esum_perm _ h]
theorem placeZ_reverse (ps : List Z2) (q : Z2) : placeZ ps.reverse q = placeZ ps q := by
  have hp := Geo.edges_reverse ps
  have h1 : onAny ps.reverse q = onAny ps q := by
    rw [Bool.eq_iff_iff, onAny_iff, onAny_iff]
    simp only [hp.mem_iff, List.mem_map]
    constructor
    · rintro ⟨e, ⟨f, hf, rfl⟩, h⟩; exact ⟨f, hf, by rw [← onZ_swap]; exact h⟩
    · rintro ⟨f, hf, h⟩; exact ⟨f.swap, ⟨f, hf, rfl⟩, by rw [← onZ_swap]; exact h⟩
  have h2 : cntE q (edges ps.reverse) = cntE q (edges ps) := by
    unfold cntE
    rw [Geo.esum_perm _ hp, Geo.esum_map]
    exact Geo.esum_congr fun e _ => by simp only [Prod.fst_swap, Prod.snd_swap, crossesZ_swap]
  unfold placeZ
  rw [h1, parZ_cnt, parZ_cnt, h2]
theorem areaZ_reverse (ps : List Z2) : areaZ ps.reverse = - areaZ ps := by
  rw [areaZ_esum, areaZ_esum, Geo.esum_perm _ (Geo.edges_reverse ps), Geo.esum_map, ← Geo.esum_neg]
  exact Geo.esum_congr fun e _ => by simp only [Prod.fst_swap, Prod.snd_swap]; exact sideZ_swap _ _
theorem areaZ_same {ps qs : List Z2} (h : (edges ps).Perm (edges qs)) : areaZ ps = areaZ qs := by
  rw [areaZ_esum, areaZ_esum, Geo.esum_perm _ h]

theorem chkZ_same {ps qs : List Z2} (hl : ps.length = qs.length) (hm : ps.any outZ = qs.any outZ) (hs : 3 ≤ ps.length → (Simple (poly ps) ↔ Simple (poly qs))) : chkZ ps = chkZ qs := by
  unfold chkZ
  rw [hl, hm]
  by_cases h3 : qs.length < 3
  · simp [h3]
  · have : simpleZ ps = simpleZ qs := by
      rw [Bool.eq_iff_iff, simpleZ_iff (by omega), simpleZ_iff (by omega)]
      exact hs (by omega)
    rw [this]
theorem chkZ_reverse (ps : List Z2) : chkZ ps.reverse = chkZ ps := by
  refine chkZ_same (by simp) (by simp) fun _ => ?_
  have e : poly ps.reverse = (poly ps).reverse := by simp [poly]
  rw [e]
  exact ⟨fun h => by have := h.reverse; rwa [List.reverse_reverse] at this, fun h => h.reverse⟩
theorem aZ_reverse (ps : List Z2) : aZ ps.reverse = - aZ ps := by
  unfold aZ
  rw [chkZ_reverse, areaZ_reverse]
  split <;> omega
theorem whereZ_reverse (ps : List Z2) (q : Z2) : whereZ ps.reverse q = whereZ ps q := by
  unfold whereZ
  rw [chkZ_reverse, placeZ_reverse]
end Go.Proofs.Ytfgeengdmbabhaa
