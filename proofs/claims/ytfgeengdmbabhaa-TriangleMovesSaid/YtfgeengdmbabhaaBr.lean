/- The program's own tests over the integers say what the geometry over the rationals says. -/
import Derived.Test.YtfgeengdmbabhaaWl
import Derived.Test.YtfgeengdmbabhaaGc
namespace Go.Proofs.Ytfgeengdmbabhaa
open Geo (Pt cr On Simple edges mem_edges)

def toPt (p : Z2) : Pt := ⟨(p.x : Rat), (p.y : Rat)⟩
theorem toPt_inj {a b : Z2} (h : toPt a = toPt b) : a = b := by
  cases a; cases b
  simp only [toPt, Pt.mk.injEq, Rat.intCast_inj] at h
  simp [h.1, h.2]
theorem cr_toPt (a b c : Z2) : cr (toPt a) (toPt b) (toPt c) = ((crZ a b c : Int) : Rat) := by
  simp only [cr, toPt, crZ, Rat.intCast_sub, Rat.intCast_mul]

theorem onZ_iff (a b p : Z2) : onZ a b p = true ↔ On (toPt a) (toPt b) (toPt p) := by
  rw [Geo.on_iff, cr_toPt]
  simp only [toPt, Rat.intCast_le_intCast, Rat.intCast_eq_zero_iff, onZ, Bool.and_eq_true, decide_eq_true_eq]
  omega

theorem sgn_mul (m n : Int) : sgn m * sgn n < 0 ↔ m * n < 0 := by
  unfold sgn
  have key : m * n < 0 ↔ (0 < m ∧ n < 0) ∨ (m < 0 ∧ 0 < n) := by
    constructor
    · intro h
      by_cases h1 : 0 < m
      · by_cases h2 : n < 0; · exact .inl ⟨h1, h2⟩
        have := Int.mul_nonneg (a := m) (b := n) (by omega) (by omega); omega
      by_cases h3 : m < 0
      · by_cases h2 : 0 < n; · exact .inr ⟨h3, h2⟩
        have := Int.mul_nonneg_of_nonpos_of_nonpos (a := m) (b := n) (by omega) (by omega); omega
      have : m = 0 := by omega
      subst this; simp at h
    · rintro (⟨h1, h2⟩ | ⟨h1, h2⟩)
      · exact Int.mul_neg_of_pos_of_neg h1 h2
      · exact Int.mul_neg_of_neg_of_pos h1 h2
  rw [key]
  split <;> split <;> (try split) <;> (try split) <;> omega
theorem partedZ_iff (a b c d : Z2) : partedZ a b c d = true ↔ cr (toPt a) (toPt b) (toPt c) * cr (toPt a) (toPt b) (toPt d) < 0 := by
  rw [cr_toPt, cr_toPt, ← Rat.intCast_mul, partedZ, decide_eq_true_eq, sgn_mul]
  exact (Rat.intCast_neg_iff).symm
theorem meetZ_iff (a b c d : Z2) : meetZ a b c d = true ↔ ∃ p, On (toPt a) (toPt b) p ∧ On (toPt c) (toPt d) p := by
  rw [Geo.meet_iff, ← onZ_iff, ← onZ_iff, ← onZ_iff, ← onZ_iff, ← partedZ_iff, ← partedZ_iff]
  simp [meetZ, or_assoc]

/-- two segments from one end: they have more in common exactly if one's other end lies on the other one -/
theorem adj_only {a b c p : Pt} (h1 : ¬ On a b c) (h2 : ¬ On b c a) (hp : On a b p) (hq : On b c p) : p = b := by
  by_cases hpb : p = b; · exact hpb
  exfalso
  obtain ⟨s, s0, s1, e1⟩ := Geo.on_comm hp
  obtain ⟨k, k0, k1, e2⟩ := hq
  have hs : s ≠ 0 := fun h => hpb (by rw [e1, h, Geo.lerp_zero])
  have hk : k ≠ 0 := fun h => hpb (by rw [e2, h, Geo.lerp_zero])
  have ex : s * (a.x - b.x) = k * (c.x - b.x) := by
    have := congrArg Pt.x (e1.symm.trans e2); simp only [Geo.lerp] at this; grind
  have ey : s * (a.y - b.y) = k * (c.y - b.y) := by
    have := congrArg Pt.y (e1.symm.trans e2); simp only [Geo.lerp] at this; grind
  by_cases hle : s ≤ k
  · -- c = b + (s / k) (a - b)
    obtain ⟨t0, t1, te⟩ := Geo.div_unit (m := s) (n := k) s0 hle (by grind)
    generalize s / k = t at *
    apply h1
    refine Geo.on_comm ⟨t, t0, t1, ?_⟩
    have g1 : k * (c.x - (b.x + t * (a.x - b.x))) = 0 := by grind
    have g2 : k * (c.y - (b.y + t * (a.y - b.y))) = 0 := by grind
    exact Pt.ext' (by have := (Rat.mul_eq_zero.1 g1).resolve_left hk; simp only [Geo.lerp]; grind) (by have := (Rat.mul_eq_zero.1 g2).resolve_left hk; simp only [Geo.lerp]; grind)
  · obtain ⟨t0, t1, te⟩ := Geo.div_unit (m := k) (n := s) k0 (by grind) (by grind)
    generalize k / s = t at *
    apply h2
    refine ⟨t, t0, t1, ?_⟩
    have g1 : s * (a.x - (b.x + t * (c.x - b.x))) = 0 := by grind
    have g2 : s * (a.y - (b.y + t * (c.y - b.y))) = 0 := by grind
    exact Pt.ext' (by have := (Rat.mul_eq_zero.1 g1).resolve_left hs; simp only [Geo.lerp]; grind) (by have := (Rat.mul_eq_zero.1 g2).resolve_left hs; simp only [Geo.lerp]; grind)

theorem sq_pos {a b : Pt} (h : a ≠ b) : 0 < (a.x - b.x) * (a.x - b.x) + (a.y - b.y) * (a.y - b.y) := by
  have sq : ∀ r : Rat, 0 ≤ r * r := fun r => by
    by_cases hr : 0 ≤ r
    · exact Rat.mul_nonneg hr hr
    · have := Rat.mul_nonneg (a := -r) (b := -r) (by grind) (by grind); grind
  have sq' : ∀ r : Rat, r ≠ 0 → 0 < r * r := fun r hr => by
    have := sq r
    have : r * r ≠ 0 := fun h => by rcases Rat.mul_eq_zero.1 h with h | h <;> exact hr h
    grind
  by_cases hx : a.x - b.x = 0
  · have hy : a.y - b.y ≠ 0 := fun hy => h (Pt.ext' (by grind) (by grind))
    have := sq' _ hy; have := sq (a.x - b.x); grind
  · have := sq' _ hx; have := sq (a.y - b.y); grind

theorem folded_iff {a b c : Pt} (hab : a ≠ b) (hbc : b ≠ c) : (cr a b c = 0 ∧ 0 < (a.x - b.x) * (c.x - b.x) + (a.y - b.y) * (c.y - b.y)) ↔ (On a b c ∨ On b c a) := by
  have n1 := sq_pos hab
  have n2 := sq_pos hbc
  constructor
  · rintro ⟨h1, h2⟩
    -- the lengths along a - b
    have key : ∀ u v : Pt, cr u b v = 0 → 0 < (u.x - b.x) * (u.x - b.x) + (u.y - b.y) * (u.y - b.y) → 0 < (u.x - b.x) * (v.x - b.x) + (u.y - b.y) * (v.y - b.y) →
        (u.x - b.x) * (v.x - b.x) + (u.y - b.y) * (v.y - b.y) ≤ (u.x - b.x) * (u.x - b.x) + (u.y - b.y) * (u.y - b.y) → On u b v := by
      intro u v hz hN hd hle
      obtain ⟨t0, t1, te⟩ := Geo.div_unit (by grind) hle hN
      generalize ((u.x - b.x) * (v.x - b.x) + (u.y - b.y) * (v.y - b.y)) / ((u.x - b.x) * (u.x - b.x) + (u.y - b.y) * (u.y - b.y)) = t at *
      refine Geo.on_comm ⟨t, t0, t1, ?_⟩
      have g1 : ((u.x - b.x) * (u.x - b.x) + (u.y - b.y) * (u.y - b.y)) * (v.x - (b.x + t * (u.x - b.x))) = 0 := by unfold cr at hz; grind
      have g2 : ((u.x - b.x) * (u.x - b.x) + (u.y - b.y) * (u.y - b.y)) * (v.y - (b.y + t * (u.y - b.y))) = 0 := by unfold cr at hz; grind
      exact Pt.ext' (by have := (Rat.mul_eq_zero.1 g1).resolve_left (by grind); simp only [Geo.lerp]; grind) (by have := (Rat.mul_eq_zero.1 g2).resolve_left (by grind); simp only [Geo.lerp]; grind)
    by_cases hle : (a.x - b.x) * (c.x - b.x) + (a.y - b.y) * (c.y - b.y) ≤ (a.x - b.x) * (a.x - b.x) + (a.y - b.y) * (a.y - b.y)
    · exact .inl (key a c h1 n1 h2 hle)
    · right
      refine Geo.on_comm (key c a (by unfold cr at *; grind) (by grind) (by grind) ?_)
      -- (a.c)^2 = |a|^2 |c|^2 and a.c > |a|^2
      have id : ((a.x - b.x) * (c.x - b.x) + (a.y - b.y) * (c.y - b.y)) * ((a.x - b.x) * (c.x - b.x) + (a.y - b.y) * (c.y - b.y)) = ((a.x - b.x) * (a.x - b.x) + (a.y - b.y) * (a.y - b.y)) * ((c.x - b.x) * (c.x - b.x) + (c.y - b.y) * (c.y - b.y)) := by
        unfold cr at h1; grind
      generalize hd : (a.x - b.x) * (c.x - b.x) + (a.y - b.y) * (c.y - b.y) = D at *
      generalize hA : (a.x - b.x) * (a.x - b.x) + (a.y - b.y) * (a.y - b.y) = A at *
      have hC : (c.x - b.x) * (a.x - b.x) + (c.y - b.y) * (a.y - b.y) = D := by grind
      rw [hC]
      generalize (c.x - b.x) * (c.x - b.x) + (c.y - b.y) * (c.y - b.y) = C at *
      by_cases hc : D ≤ C; · exact hc
      have := Rat.mul_pos (a := D - A) (b := D) (by grind) h2
      have := Rat.mul_pos (a := A) (b := D - C) (by grind) (by grind)
      grind
  · rintro (h | h)
    · obtain ⟨t, t0, t1, e⟩ := Geo.on_comm h
      have ht : t ≠ 0 := fun h => hbc (by rw [e, h, Geo.lerp_zero])
      refine ⟨Geo.cr_on h, ?_⟩
      have ex : c.x - b.x = t * (a.x - b.x) := by rw [e]; simp only [Geo.lerp]; grind
      have ey : c.y - b.y = t * (a.y - b.y) := by rw [e]; simp only [Geo.lerp]; grind
      rw [ex, ey]
      have := Rat.mul_pos (a := t) (by grind) n1
      grind
    · obtain ⟨t, t0, t1, e⟩ := h
      have ht : t ≠ 0 := fun h => hab (by rw [e, h, Geo.lerp_zero])
      have ex : a.x - b.x = t * (c.x - b.x) := by rw [e]; simp only [Geo.lerp]; grind
      have ey : a.y - b.y = t * (c.y - b.y) := by rw [e]; simp only [Geo.lerp]; grind
      refine ⟨by unfold cr; grind, ?_⟩
      rw [ex, ey]
      have := Rat.mul_pos (a := t) (by grind) n2
      grind

theorem foldedZ_iff {a b c : Z2} (hab : a ≠ b) (hbc : b ≠ c) : foldedZ a b c = true ↔ (On (toPt a) (toPt b) (toPt c) ∨ On (toPt b) (toPt c) (toPt a)) := by
  rw [← folded_iff (fun h => hab (toPt_inj h)) (fun h => hbc (toPt_inj h)), cr_toPt]
  simp only [foldedZ, Bool.and_eq_true, decide_eq_true_eq, Rat.intCast_eq_zero_iff]
  have : ((toPt a).x - (toPt b).x) * ((toPt c).x - (toPt b).x) + ((toPt a).y - (toPt b).y) * ((toPt c).y - (toPt b).y) = (((a.x - b.x) * (c.x - b.x) + (a.y - b.y) * (c.y - b.y) : Int) : Rat) := by
    simp only [toPt, Rat.intCast_add, Rat.intCast_mul, Rat.intCast_sub]
  rw [this, Rat.intCast_pos]

/-- the polygon's vertices as points -/
abbrev poly (ps : List Z2) : List Pt := ps.map toPt

theorem mem_edges_poly {ps : List Z2} {e : Pt × Pt} : e ∈ edges (poly ps) ↔ ∃ i, i < ps.length ∧ e = (toPt (pt ps i), toPt (nx ps i)) := by
  rw [mem_edges]
  constructor
  · rintro ⟨i, h, rfl⟩
    have hi : i < ps.length := by simpa using h
    have hn : (i + 1) % ps.length < ps.length := Nat.mod_lt _ (by omega)
    refine ⟨i, hi, ?_⟩
    simp only [List.getElem_map, List.length_map, nx, pt_eq hi, pt_eq hn]
  · rintro ⟨i, hi, rfl⟩
    have hn : (i + 1) % ps.length < ps.length := Nat.mod_lt _ (by omega)
    refine ⟨i, by simpa using hi, ?_⟩
    simp only [List.getElem_map, List.length_map, nx, pt_eq hi, pt_eq hn]

theorem nodup_poly {ps : List Z2} : (poly ps).Nodup ↔ ps.Nodup := by
  unfold List.Nodup
  rw [List.pairwise_map]
  constructor
  · intro h; exact h.imp fun hab e => hab (by rw [e])
  · intro h; exact h.imp fun hab e => hab (toPt_inj e)

theorem pt_inj {ps : List Z2} (h : ps.Nodup) {i j : Nat} (hi : i < ps.length) (hj : j < ps.length) (e : pt ps i = pt ps j) : i = j := by
  rw [pt_eq hi, pt_eq hj] at e
  exact (List.getElem_inj (h₀ := hi) (h₁ := hj) h).1 e
theorem nodup_of_pt {ps : List Z2} (h : ∀ i j, i < j → j < ps.length → pt ps i ≠ pt ps j) : ps.Nodup := by
  rw [List.Nodup, List.pairwise_iff_getElem]
  intro i j hi hj hij
  have := h i j hij hj
  rwa [pt_eq hi, pt_eq hj] at this

theorem mod_succ_ne {i n : Nat} (hi : i < n) (hn : 2 ≤ n) : (i + 1) % n ≠ i := by
  by_cases h : i + 1 < n
  · rw [Nat.mod_eq_of_lt h]; omega
  · have : i + 1 = n := by omega
    rw [this, Nat.mod_self]; omega
theorem mod_two_ne {i n : Nat} (hi : i < n) (hn : 3 ≤ n) : (i + 2) % n ≠ i ∧ (i + 2) % n ≠ (i + 1) % n := by
  by_cases h : i + 2 < n
  · rw [Nat.mod_eq_of_lt h, Nat.mod_eq_of_lt (by omega)]; omega
  · by_cases h2 : i + 2 = n
    · rw [h2, Nat.mod_self, Nat.mod_eq_of_lt (by omega)]; omega
    · have h3 : i + 1 = n := by omega
      have h4 : (i + 2) % n = 1 := by
        have : i + 2 = 1 + n := by omega
        rw [this, Nat.add_mod_right, Nat.mod_eq_of_lt (by omega)]
      rw [h4, h3, Nat.mod_self]; omega
theorem mod_succ_succ {i n : Nat} (_hi : i < n) : ((i + 1) % n + 1) % n = (i + 2) % n := by
  rw [Nat.mod_add_mod]

/-- what both 'simple' functions come to -/
structure SimpleIdx (ps : List Z2) : Prop where
  nodup : ps.Nodup
  fold : ∀ i, i < ps.length → ¬ On (toPt (pt ps i)) (toPt (nx ps i)) (toPt (pt ps ((i + 2) % ps.length))) ∧ ¬ On (toPt (nx ps i)) (toPt (pt ps ((i + 2) % ps.length))) (toPt (pt ps i))
  apart : ∀ i k, i + 2 ≤ k → k < ps.length → (k + 1) % ps.length ≠ i → ¬ ∃ p, On (toPt (pt ps i)) (toPt (nx ps i)) p ∧ On (toPt (pt ps k)) (toPt (nx ps k)) p

theorem SimpleIdx.simple {ps : List Z2} (h3 : 3 ≤ ps.length) (h : SimpleIdx ps) : Simple (poly ps) := by
  -- for i < j
  have key : ∀ i j, i < j → j < ps.length → ∀ p, On (toPt (pt ps i)) (toPt (nx ps i)) p → On (toPt (pt ps j)) (toPt (nx ps j)) p →
      (p = toPt (pt ps i) ∧ p = toPt (nx ps j)) ∨ (p = toPt (nx ps i) ∧ p = toPt (pt ps j)) := by
    intro i j hij hj p hp hq
    by_cases c1 : j = i + 1
    · right
      subst c1
      have e : nx ps i = pt ps (i + 1) := by unfold nx; rw [Nat.mod_eq_of_lt hj]
      have e2 : nx ps (i + 1) = pt ps ((i + 2) % ps.length) := rfl
      obtain ⟨f1, f2⟩ := h.fold i (by omega)
      rw [e2, ← e] at hq
      have := adj_only f1 f2 hp hq
      exact ⟨this, by rw [this, e]⟩
    by_cases c2 : (j + 1) % ps.length = i
    · left
      have e : nx ps j = pt ps i := by unfold nx; rw [c2]
      have e2 : nx ps i = pt ps ((j + 2) % ps.length) := by unfold nx; rw [← c2, mod_succ_succ hj]
      obtain ⟨f1, f2⟩ := h.fold j hj
      rw [e] at f1 f2 hq
      rw [e2] at hp
      have := adj_only f1 f2 hq hp
      exact ⟨this, by rw [this, e]⟩
    · exact absurd ⟨p, hp, hq⟩ (h.apart i j (by omega) hj c2)
  refine ⟨by simpa using h3, nodup_poly.2 h.nodup, fun e he f hf hne p hp hq => ?_⟩
  obtain ⟨i, hi, rfl⟩ := mem_edges_poly.1 he
  obtain ⟨j, hj, rfl⟩ := mem_edges_poly.1 hf
  rcases Nat.lt_trichotomy i j with hlt | heq | hlt
  · exact key i j hlt hj p hp hq
  · subst heq; exact absurd rfl hne
  · rcases key j i hlt hi p hq hp with ⟨a, b⟩ | ⟨a, b⟩
    · exact .inr ⟨b, a⟩
    · exact .inl ⟨b, a⟩

theorem SimpleIdx.of_simple {ps : List Z2} (h3 : 3 ≤ ps.length) (h : Simple (poly ps)) : SimpleIdx ps := by
  have hnd := nodup_poly.1 h.nodup
  refine ⟨hnd, fun i hi => ?_, fun i k hik hk hne => ?_⟩
  · have l1 : (i + 1) % ps.length < ps.length := Nat.mod_lt _ (by omega)
    have l2 : (i + 2) % ps.length < ps.length := Nat.mod_lt _ (by omega)
    obtain ⟨n1, n2⟩ := mod_two_ne hi h3
    have n3 := mod_succ_ne hi (by omega)
    have e1 : (toPt (pt ps i), toPt (nx ps i)) ∈ edges (poly ps) := mem_edges_poly.2 ⟨i, hi, rfl⟩
    have e2 : (toPt (nx ps i), toPt (pt ps ((i + 2) % ps.length))) ∈ edges (poly ps) := mem_edges_poly.2 ⟨(i + 1) % ps.length, l1, by unfold nx; rw [mod_succ_succ hi]⟩
    constructor
    · intro hon
      rcases h.vertex (List.mem_map_of_mem (pt_mem l2)) e1 hon with hh | hh
      · exact n1 (pt_inj hnd l2 hi (toPt_inj hh))
      · exact n2 (pt_inj hnd l2 l1 (toPt_inj hh))
    · intro hon
      rcases h.vertex (List.mem_map_of_mem (pt_mem hi)) e2 hon with hh | hh
      · exact n3 (pt_inj hnd l1 hi (toPt_inj hh).symm)
      · exact n1 (pt_inj hnd l2 hi (toPt_inj hh).symm)
  · rintro ⟨p, hp, hq⟩
    have hi : i < ps.length := by omega
    have e1 : (toPt (pt ps i), toPt (nx ps i)) ∈ edges (poly ps) := mem_edges_poly.2 ⟨i, hi, rfl⟩
    have e2 : (toPt (pt ps k), toPt (nx ps k)) ∈ edges (poly ps) := mem_edges_poly.2 ⟨k, hk, rfl⟩
    have hd : (toPt (pt ps i), toPt (nx ps i)) ≠ (toPt (pt ps k), toPt (nx ps k)) := by
      intro hh
      injection hh with h1 _
      have := pt_inj hnd hi hk (toPt_inj h1)
      omega
    have l1 : (i + 1) % ps.length < ps.length := Nat.mod_lt _ (by omega)
    have l2 : (k + 1) % ps.length < ps.length := Nat.mod_lt _ (by omega)
    rcases h.apart _ e1 _ e2 hd p hp hq with ⟨a, b⟩ | ⟨a, b⟩
    · have : pt ps i = nx ps k := toPt_inj (a.symm.trans b)
      exact hne (pt_inj hnd l2 hi this.symm)
    · have : nx ps i = pt ps k := toPt_inj (a.symm.trans b)
      have := pt_inj hnd l1 hk this
      rw [Nat.mod_eq_of_lt (by omega)] at this
      omega

theorem simpleIdx_of_Z {ps : List Z2} (h3 : 3 ≤ ps.length) (h : simpleZ ps = true) : SimpleIdx ps := by
  unfold simpleZ at h
  rw [Bool.and_eq_true, List.all_eq_true, List.all_eq_true] at h
  obtain ⟨h1, h2⟩ := h
  have hnd : ps.Nodup := nodup_of_pt fun i j hij hj he => by
    have := h1 j (by simpa using hj)
    simp only [Bool.not_eq_true', List.contains_eq_mem, decide_eq_false_iff_not] at this
    apply this
    rw [← he, pt_eq (by omega)]
    exact List.mem_take_iff_getElem.2 ⟨i, by omega, rfl⟩
  have hrow : ∀ i, i < ps.length → rowZ ps i = true := fun i hi => h2 i (by simpa using hi)
  refine ⟨hnd, fun i hi => ?_, fun i k hik hk hne => ?_⟩
  · have := hrow i hi
    unfold rowZ at this
    rw [Bool.and_eq_true] at this
    have hf := this.1
    simp only [Bool.not_eq_true'] at hf
    have l1 : (i + 1) % ps.length < ps.length := Nat.mod_lt _ (by omega)
    have l2 : (i + 2) % ps.length < ps.length := Nat.mod_lt _ (by omega)
    obtain ⟨n1, n2⟩ := mod_two_ne hi h3
    have n3 := mod_succ_ne hi (by omega)
    have hiff := foldedZ_iff (a := pt ps i) (b := pt ps ((i + 1) % ps.length)) (c := pt ps ((i + 2) % ps.length)) (fun e => n3 (pt_inj hnd l1 hi e.symm)) (fun e => n2 (pt_inj hnd l2 l1 e.symm))
    rw [hf] at hiff
    have hno := (not_congr hiff).1 (by simp)
    exact ⟨fun hh => hno (.inl hh), fun hh => hno (.inr hh)⟩
  · have := hrow i (by omega)
    unfold rowZ at this
    rw [Bool.and_eq_true, List.all_eq_true] at this
    have hs := this.2 k (by simpa using hk)
    unfold stepZ at hs
    simp only [Bool.or_eq_true, decide_eq_true_eq, Bool.not_eq_true'] at hs
    rcases hs with (hs | hs) | hs
    · omega
    · exact absurd hs hne
    · rw [← meetZ_iff]
      unfold nx
      rw [hs]; simp

theorem simpleZ_iff {ps : List Z2} (h3 : 3 ≤ ps.length) : simpleZ ps = true ↔ Simple (poly ps) := by
  constructor
  · intro h; exact (simpleIdx_of_Z h3 h).simple h3
  · intro h
    have hs := SimpleIdx.of_simple h3 h
    have hnd := hs.nodup
    refine simpleZ_ok (fun j hj => ?_) (fun i hi => rowZ_ok ?_ fun k hk => ?_)
    · simp only [Bool.not_eq_true', List.contains_eq_mem, decide_eq_false_iff_not]
      intro hm
      obtain ⟨i, hi, he⟩ := List.mem_take_iff_getElem.1 hm
      have := pt_inj hnd (i := i) (j := j) (by omega) hj (by rw [pt_eq (by omega)]; exact he)
      omega
    · have l1 : (i + 1) % ps.length < ps.length := Nat.mod_lt _ (by omega)
      have l2 : (i + 2) % ps.length < ps.length := Nat.mod_lt _ (by omega)
      obtain ⟨n1, n2⟩ := mod_two_ne hi h3
      have n3 := mod_succ_ne hi (by omega)
      obtain ⟨f1, f2⟩ := hs.fold i hi
      have hiff := foldedZ_iff (a := pt ps i) (b := pt ps ((i + 1) % ps.length)) (c := pt ps ((i + 2) % ps.length)) (fun e => n3 (pt_inj hnd l1 hi e.symm)) (fun e => n2 (pt_inj hnd l2 l1 e.symm))
      have := (not_congr hiff).2 (fun hh => hh.elim f1 f2)
      simpa using this
    · by_cases c1 : k < i + 2
      · exact stepZ_low c1
      by_cases c2 : (k + 1) % ps.length = i
      · exact stepZ_wrap c2
      · have := hs.apart i k (by omega) hk c2
        rw [← meetZ_iff] at this
        exact stepZ_yes (by simpa [nx] using this)
end Go.Proofs.Ytfgeengdmbabhaa
