/- Plain law of Split: it never fails on a valid polygon, and its triangles cover the polygon. -/
import Derived.Test.YtfgeengdmbabhaaPe
import Derived.Test.YtfgeengdmbabhaaTc
import Derived.Test.YtfgeengdmbabhaaGk
namespace Go.Proofs.Ytfgeengdmbabhaa
open Geo (Pt cr On Simple edges mem_edges esum)

theorem inT_Z (a b c q : Z2) : Geo.InT (toPt a) (toPt b) (toPt c) (toPt q) ↔ (0 ≤ crZ a b q ∧ 0 ≤ crZ b c q ∧ 0 ≤ crZ c a q) := by
  unfold Geo.InT; rw [cr_toPt, cr_toPt, cr_toPt]
  simp only [Rat.intCast_nonneg]
theorem intT_Z (a b c q : Z2) : Geo.IntT (toPt a) (toPt b) (toPt c) (toPt q) ↔ (0 < crZ a b q ∧ 0 < crZ b c q ∧ 0 < crZ c a q) := by
  unfold Geo.IntT; rw [cr_toPt, cr_toPt, cr_toPt]
  simp only [Rat.intCast_pos]
/-- Holds in the geometry's words -/
theorem holds_geo {a b c q : Z2} (h : 0 < crZ a b c) (ha : outZ a = false) (hb : outZ b = false) (hc : outZ c = false) (hq : outZ q = false) :
    (holdsZ [a, b, c] q = 1 ∧ Geo.IntT (toPt a) (toPt b) (toPt c) (toPt q)) ∨ (holdsZ [a, b, c] q = 0 ∧ Geo.InT (toPt a) (toPt b) (toPt c) (toPt q) ∧ ¬ Geo.IntT (toPt a) (toPt b) (toPt c) (toPt q)) ∨ (holdsZ [a, b, c] q = -1 ∧ ¬ Geo.InT (toPt a) (toPt b) (toPt c) (toPt q)) := by
  rw [holds3, ha, hb, hc, hq, inT_Z, intT_Z]
  simp only [Bool.or_false, Bool.false_eq_true, if_false]
  rw [tri3Z_pos h]
  rcases sgn_cases (min (crZ a b q) (min (crZ b c q) (crZ c a q))) with ⟨hm, e⟩ | ⟨hm, e⟩ | ⟨hm, e⟩ <;> rw [e]
  · left; refine ⟨rfl, ?_, ?_, ?_⟩ <;> omega
  · right; left; refine ⟨rfl, ⟨?_, ?_, ?_⟩, ?_⟩ <;> omega
  · right; right; refine ⟨rfl, ?_⟩; omega

abbrev TZ := Z2 × Z2 × Z2
def toT (t : TZ) : Geo.T3 := (toPt t.1, toPt t.2.1, toPt t.2.2)
def toL (t : TZ) : List Z2 := [t.1, t.2.1, t.2.2]

theorem poly_erase (l : List Z2) (i : Nat) : poly (l.eraseIdx i) = (poly l).take i ++ (poly l).drop (i + 1) := by
  rw [List.eraseIdx_eq_take_drop_succ, poly, List.map_append, List.map_take, List.map_drop]
theorem poly_at (l : List Z2) {i : Nat} (hi : i < l.length) : poly l = (poly l).take i ++ toPt (pt l i) :: (poly l).drop (i + 1) := by
  have hi' : i < (poly l).length := by simpa using hi
  have e : toPt (pt l i) = (poly l)[i] := by simp [pt_eq hi]
  rw [e, ← List.drop_eq_getElem_cons hi', List.take_append_drop]

theorem splitG_law (n : Nat) : ∀ (l : List Z2) (r : List (List Z2)), l.length = n → Simple (poly l) → Geo.LT (poly l) → (∀ p ∈ l, outZ p = false) →
    ∃ ts : List TZ, splitG n l r = some (r ++ ts.map toL) ∧ Geo.Cov (poly l) (ts.map toT) := by
  induction n with
  | zero => intro l r hl hs; have := hs.three; simp at this; omega
  | succ m ih =>
    intro l r hl hs hL ho
    by_cases h3 : l.length ≤ 3
    · have hs3 := hs.three
      simp only [List.length_map] at hs3
      match l, h3, hs3 with
      | [a, b, c], _, _ =>
        have hp := Geo.LT_tri hL
        refine ⟨[(a, b, c)], ?_, ?_⟩
        · simp only [splitG]; rw [if_pos (by simp)]; rfl
        · exact Geo.cov_tri hp
    · simp only [splitG]
      rw [if_neg h3]
      rcases firstZ_cases l.length (flatZ l) with ⟨i, hi, he, ht, hno⟩ | ⟨he, hno⟩
      · rw [he, if_pos (by omega)]
        simp only [Int.toNat_natCast]
        have hfl : Geo.Flat (poly l) (toPt (pt l i)) := (bend_flat hs hi).1 (by simpa [flatZ] using ht)
        have hpa := poly_at l hi
        rw [hpa] at hs hL hfl
        obtain ⟨s1, s2, s3⟩ := Geo.flat_at hs hL hfl
        rw [← poly_erase] at s1 s2 s3
        obtain ⟨ts, t1, t2⟩ := ih (l.eraseIdx i) r (by rw [List.length_eraseIdx_of_lt hi]; omega) s1 s2 (fun p hp => ho p (List.mem_of_mem_eraseIdx hp))
        exact ⟨ts, t1, by rw [hpa]; exact s3 _ t2⟩
      · rw [he, if_neg (by omega)]
        rcases firstZ_cases l.length (freeZ l) with ⟨i, hi, he2, ht, hno2⟩ | ⟨he2, hno2⟩
        · rw [he2, if_pos (by omega)]
          simp only [Int.toNat_natCast]
          unfold freeZ at ht
          rw [Bool.and_eq_true, decide_eq_true_eq, bendZ_corner] at ht
          obtain ⟨hb, hfree⟩ := ht
          have mA : cA l i ∈ l := pt_mem (Nat.mod_lt _ (by omega))
          have mC : cC l i ∈ l := pt_mem (Nat.mod_lt _ (by omega))
          have mB : pt l i ∈ l := pt_mem hi
          have hpa := poly_at l hi
          have e1 := edge_in hi
          have e2 := edge_out hi
          have hnoT : ∀ x ∈ poly l, x ≠ toPt (cA l i) → x ≠ toPt (pt l i) → x ≠ toPt (cC l i) → ¬ Geo.InT (toPt (cA l i)) (toPt (pt l i)) (toPt (cC l i)) x := by
            intro x hx xa xb xc hT
            obtain ⟨q, hq, rfl⟩ := List.mem_map.1 hx
            have hbl : blockZ l i q = false := by
              have := hfree
              simp only [Bool.not_eq_true'] at this
              have := List.any_eq_false.1 this q hq
              simpa using this
            have n1 : eqZ q (cA l i) = false := by unfold eqZ; rw [decide_eq_false_iff_not]; exact fun e => xa (by rw [e])
            have n2 : eqZ q (pt l i) = false := by unfold eqZ; rw [decide_eq_false_iff_not]; exact fun e => xb (by rw [e])
            have n3 : eqZ q (cC l i) = false := by unfold eqZ; rw [decide_eq_false_iff_not]; exact fun e => xc (by rw [e])
            unfold blockZ at hbl
            rw [n1, n2, n3] at hbl
            simp only [Bool.not_false, Bool.true_and, decide_eq_false_iff_not] at hbl
            rcases holds_geo hb (ho _ mA) (ho _ mB) (ho _ mC) (ho _ hq) with ⟨e, _⟩ | ⟨e, _⟩ | ⟨_, hn⟩
            · omega
            · omega
            · exact hn hT
          have hcr : 0 < cr (toPt (cA l i)) (toPt (pt l i)) (toPt (cC l i)) := by rw [cr_toPt]; exact Rat.intCast_pos.2 hb
          have h4 : 4 ≤ (poly l).length := by simp; omega
          have e1' : (toPt (cA l i), toPt (pt l i)) ∈ edges (poly l) := e1
          have e2' : (toPt (pt l i), toPt (cC l i)) ∈ edges (poly l) := e2
          rw [hpa] at hs hL hnoT h4 e1' e2'
          obtain ⟨s1, s2, s3⟩ := Geo.cut_at h4 hs hL e1' e2' hcr hnoT
          rw [← poly_erase] at s1 s2 s3
          obtain ⟨ts, t1, t2⟩ := ih (l.eraseIdx i) (r ++ [[cA l i, pt l i, cC l i]]) (by rw [List.length_eraseIdx_of_lt hi]; omega) s1 s2 (fun p hp => ho p (List.mem_of_mem_eraseIdx hp))
          refine ⟨(cA l i, pt l i, cC l i) :: ts, by rw [t1]; simp [toL], ?_⟩
          rw [hpa]
          exact s3 _ t2
        · exfalso
          have hne : poly l ≠ [] := by intro h; have := hs.three; rw [h] at this; simp at this
          obtain ⟨e0, he0⟩ : ∃ e, e ∈ edges (poly l) := by
            cases hpl : poly l with
            | nil => exact absurd hpl hne
            | cons x xs =>
              obtain ⟨y, hy⟩ := Geo.edge_from (l := x :: xs) (x := x) (by simp)
              exact ⟨_, hy⟩
          obtain ⟨u, _, _, p, s, h1, h2, h5⟩ := hL.ears hs e0 he0
          obtain ⟨i, hi, hui⟩ : ∃ i, i < l.length ∧ u = toPt (pt l i) := by
            obtain ⟨q, hq, rfl⟩ := List.mem_map.1 (Geo.edges_fst_mem h2)
            obtain ⟨i, hi, rfl⟩ := List.getElem_of_mem hq
            exact ⟨i, hi, by rw [pt_eq hi]⟩
          subst hui
          have ep := hs.to_eq h1 (edge_in hi)
          have es := hs.from_eq h2 (edge_out hi)
          subst ep es
          rw [cr_toPt] at h5
          have hcorner : crZ (pt l ((i + l.length - 1) % l.length)) (pt l i) (pt l ((i + 1) % l.length)) = bendZ l i := rfl
          rw [hcorner] at h5
          rcases h5 with h5 | ⟨h5, hn⟩
          · have hz : bendZ l i = 0 := by simpa using h5
            have := hno i hi
            simp [flatZ, hz] at this
          · have hb : 0 < bendZ l i := Rat.intCast_pos.1 h5
            have hfr := hno2 i hi
            have : freeZ l i = true := freeZ_yes hb fun j hj => by
              have mA : cA l i ∈ l := pt_mem (Nat.mod_lt _ (by omega))
              have mC : cC l i ∈ l := pt_mem (Nat.mod_lt _ (by omega))
              have mB : pt l i ∈ l := pt_mem hi
              have mJ : pt l j ∈ l := pt_mem hj
              have hb' : 0 < crZ (cA l i) (pt l i) (cC l i) := hb
              unfold blockZ
              cases n1 : eqZ (pt l j) (cA l i) with
              | true => rfl
              | false =>
                cases n2 : eqZ (pt l j) (pt l i) with
                | true => rfl
                | false =>
                  cases n3 : eqZ (pt l j) (cC l i) with
                  | true => rfl
                  | false =>
                    unfold eqZ at n1 n2 n3
                    rw [decide_eq_false_iff_not] at n1 n2 n3
                    have hT : ¬ Geo.InT (toPt (cA l i)) (toPt (pt l i)) (toPt (cC l i)) (toPt (pt l j)) := hn _ (List.mem_map_of_mem mJ) (fun e => n1 (toPt_inj e)) (fun e => n2 (toPt_inj e)) (fun e => n3 (toPt_inj e))
                    rcases holds_geo hb' (ho _ mA) (ho _ mB) (ho _ mC) (ho _ mJ) with ⟨_, hi'⟩ | ⟨_, hi', _⟩ | ⟨e, _⟩
                    · exact absurd hi'.inT hT
                    · exact absurd hi' hT
                    · rw [e]; rfl
            rw [this] at hfr; cases hfr
end Go.Proofs.Ytfgeengdmbabhaa
