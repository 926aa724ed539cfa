/- Both tests for simple polygons say the same. -/
import Derived.Test.YtfgeengdmbabhaaWr
import Derived.Test.YtfgeengdmbabhaaPb
namespace Go.Proofs.Ytfgeengdmbabhaa
open Geo (Pt cr On Simple edges mem_edges)

theorem simpleIdx_of_2Z {ps : List Z2} (h3 : 3 ≤ ps.length) (h : simple2Z ps = true) : SimpleIdx ps := by
  unfold simple2Z at h
  rw [List.all_eq_true] at h
  have hrow : ∀ i, i < ps.length → row2Z ps i = true := fun i hi => h i (by simpa using hi)
  have hadj : ∀ i, i < ps.length → pt ps i ≠ pt ps ((i + 1) % ps.length) := fun i hi e => by
    have := hrow i hi
    unfold row2Z at this
    simp only [Bool.and_eq_true, Bool.not_eq_true'] at this
    have := this.1.1.1
    simp [eqZ, e] at this
  have hap : ∀ i k, i + 2 ≤ k → k < ps.length → (k + 1) % ps.length ≠ i → ¬ ∃ p, On (toPt (pt ps i)) (toPt (nx ps i)) p ∧ On (toPt (pt ps k)) (toPt (nx ps k)) p := by
    intro i k hik hk hne
    have := hrow i (by omega)
    unfold row2Z at this
    rw [Bool.and_eq_true, List.all_eq_true] at this
    have hs := this.2 k (by simpa using hk)
    unfold stepZ at hs
    simp only [Bool.or_eq_true, decide_eq_true_eq, Bool.not_eq_true'] at hs
    rcases hs with (hs | hs) | hs
    · omega
    · exact absurd hs hne
    · rw [← meetZ_iff]
      unfold nx
      rw [hs]; simp
  have hnd : ps.Nodup := nodup_of_pt fun i j hij hj he => by
    by_cases c1 : j = i + 1
    · subst c1
      have := hadj i (by omega)
      rw [Nat.mod_eq_of_lt hj] at this
      exact this he
    by_cases c2 : (j + 1) % ps.length = i
    · have := hadj j hj
      rw [c2] at this
      exact this he.symm
    · exact hap i j (by omega) hj c2 ⟨toPt (pt ps i), Geo.on_left _ _, by rw [he]; exact Geo.on_left _ _⟩
  refine ⟨hnd, fun i hi => ?_, hap⟩
  have := hrow i hi
  unfold row2Z at this
  simp only [Bool.and_eq_true, Bool.not_eq_true'] at this
  constructor
  · rw [← onZ_iff]
    have h2 := this.1.1.2
    unfold nx
    rw [h2]; simp
  · rw [← onZ_iff]
    have h2 := this.1.2
    unfold nx
    rw [h2]; simp
theorem simple2Z_eq {ps : List Z2} (h3 : 3 ≤ ps.length) : simple2Z ps = simpleZ ps := by
  rw [Bool.eq_iff_iff, simpleZ_iff h3]
  constructor
  · intro h; exact (simpleIdx_of_2Z h3 h).simple h3
  · intro h
    have hs := SimpleIdx.of_simple h3 h
    have hnd := hs.nodup
    refine simple2Z_ok fun i hi => row2Z_ok ?_ fun k hk => ?_
    · have l1 : (i + 1) % ps.length < ps.length := Nat.mod_lt _ (by omega)
      have n3 := mod_succ_ne hi (by omega)
      obtain ⟨f1, f2⟩ := hs.fold i hi
      rw [← onZ_iff] at f1 f2
      unfold nx at f1 f2
      have e : eqZ (pt ps i) (pt ps ((i + 1) % ps.length)) = false := by
        simp only [eqZ, decide_eq_false_iff_not]
        intro e
        exact n3 (pt_inj hnd l1 hi e.symm)
      unfold head2Z
      rw [e]
      simp only [Bool.not_eq_true] at f1 f2
      rw [f1, f2]; rfl
    · by_cases c1 : k < i + 2
      · exact stepZ_low c1
      by_cases c2 : (k + 1) % ps.length = i
      · exact stepZ_wrap c2
      · have := hs.apart i k (by omega) hk c2
        rw [← meetZ_iff] at this
        exact stepZ_yes (by simpa [nx] using this)
end Go.Proofs.Ytfgeengdmbabhaa
