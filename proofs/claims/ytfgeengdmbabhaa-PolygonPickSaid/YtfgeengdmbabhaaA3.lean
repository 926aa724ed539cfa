import Derived.Test.YtfgeengdmbabhaaA2
import Derived.Test.YtfgeengdmbabhaaB1
/- The program's own tests over the integers say what the geometry over the rationals says. -/
namespace Go.Proofs.Ytfgeengdmbabhaa
open Geo (Pt cr On Simple edges mem_edges)

def toPt (p : Z2) : Pt := ⟨(p.x : Rat), (p.y : Rat)⟩
theorem toPt_inj {a b : Z2} (h : toPt a = toPt b) : a = b := by
  cases a; cases b
  simp only [toPt, Pt.mk.injEq, Rat.intCast_inj] at h
  simp [h.1, h.2]
theorem cr_toPt (a b c : Z2) : cr (toPt a) (toPt b) (toPt c) = ((crZ a b c : Int) : Rat) := by
  simp only [cr, toPt, crZ, Rat.intCast_sub, Rat.intCast_mul]

theorem onZ_iff (a b p : Z2) : onZ a b p = true ↔ On (toPt a) (toPt b) (toPt p) := by
  rw [Geo.on_iff, cr_toPt]
  simp only [toPt, Rat.intCast_le_intCast, Rat.intCast_eq_zero_iff, onZ, Bool.and_eq_true, decide_eq_true_eq]
  omega

theorem sgn_mul (m n : Int) : sgn m * sgn n < 0 ↔ m * n < 0 := by
  unfold sgn
  have key : m * n < 0 ↔ (0 < m ∧ n < 0) ∨ (m < 0 ∧ 0 < n) := by
    constructor
    · intro h
      by_cases h1 : 0 < m
      · by_cases h2 : n < 0; · exact .inl ⟨h1, h2⟩
        have := Int.mul_nonneg (a := m) (b := n) (by omega) (by omega); omega
      by_cases h3 : m < 0
      · by_cases h2 : 0 < n; · exact .inr ⟨h3, h2⟩
        have := Int.mul_nonneg_of_nonpos_of_nonpos (a := m) (b := n) (by omega) (by omega); omega
      have : m = 0 := by omega
      subst this; simp at h
    · rintro (⟨h1, h2⟩ | ⟨h1, h2⟩)
      · exact Int.mul_neg_of_pos_of_neg h1 h2
      · exact Int.mul_neg_of_neg_of_pos h1 h2
  rw [key]
  split <;> split <;> (try split) <;> (try split) <;> omega
theorem partedZ_iff (a b c d : Z2) : partedZ a b c d = true ↔ cr (toPt a) (toPt b) (toPt c) * cr (toPt a) (toPt b) (toPt d) < 0 := by
  rw [cr_toPt, cr_toPt, ← Rat.intCast_mul, partedZ, decide_eq_true_eq, sgn_mul]
  exact (Rat.intCast_neg_iff).symm
theorem meetZ_iff (a b c d : Z2) : meetZ a b c d = true ↔ ∃ p, On (toPt a) (toPt b) p ∧ On (toPt c) (toPt d) p := by
  rw [Geo.meet_iff, ← onZ_iff, ← onZ_iff, ← onZ_iff, ← onZ_iff, ← partedZ_iff, ← partedZ_iff]
  simp [meetZ, or_assoc]

/-- two segments from one end: they have more in common exactly if one's other end lies on the other one -/
theorem adj_only {a b c p : Pt} (h1 : ¬ On a b c) (h2 : ¬ On b c a) (hp : On a b p) (hq : On b c p) : p = b := by
  by_cases hpb : p = b; · exact hpb
  exfalso
  obtain ⟨s, s0, s1, e1⟩ := Geo.on_comm hp
  obtain ⟨k, k0, k1, e2⟩ := hq
  have hs : s ≠ 0 := fun h => hpb (by rw [e1, h, Geo.lerp_zero])
  have hk : k ≠ 0 := fun h => hpb (by rw [e2, h, Geo.lerp_zero])
  have ex : s * (a.x - b.x) = k * (c.x - b.x) := by
    have := congrArg Pt.x (e1.symm.trans e2); simp only [Geo.lerp] at this; grind
  have ey : s * (a.y - b.y) = k * (c.y - b.y) := by
    have := congrArg Pt.y (e1.symm.trans e2); simp only [Geo.lerp] at this; grind
  by_cases hle : s ≤ k
  · -- c = b + (s / k) (a - b)
    obtain ⟨t0, t1, te⟩ := Geo.div_unit (m := s) (n := k) s0 hle (by grind)
    generalize s / k = t at *
    apply h1
    refine Geo.on_comm ⟨t, t0, t1, ?_⟩
    have g1 : k * (c.x - (b.x + t * (a.x - b.x))) = 0 := by grind
    have g2 : k * (c.y - (b.y + t * (a.y - b.y))) = 0 := by grind
    exact Pt.ext' (by have := (Rat.mul_eq_zero.1 g1).resolve_left hk; simp only [Geo.lerp]; grind) (by have := (Rat.mul_eq_zero.1 g2).resolve_left hk; simp only [Geo.lerp]; grind)
  · obtain ⟨t0, t1, te⟩ := Geo.div_unit (m := k) (n := s) k0 (by grind) (by grind)
    generalize k / s = t at *
    apply h2
    refine ⟨t, t0, t1, ?_⟩
    have g1 : s * (a.x - (b.x + t * (c.x - b.x))) = 0 := by grind
    have g2 : s * (a.y - (b.y + t * (c.y - b.y))) = 0 := by grind
    exact Pt.ext' (by have := (Rat.mul_eq_zero.1 g1).resolve_left hs; simp only [Geo.lerp]; grind) (by have := (Rat.mul_eq_zero.1 g2).resolve_left hs; simp only [Geo.lerp]; grind)

theorem sq_pos {a b : Pt} (h : a ≠ b) : 0 < (a.x - b.x) * (a.x - b.x) + (a.y - b.y) * (a.y - b.y) := by
  have sq : ∀ r : Rat, 0 ≤ r * r := fun r => by
    by_cases hr : 0 ≤ r
    · exact Rat.mul_nonneg hr hr
    · have := Rat.mul_nonneg (a := -r) (b := -r) (by grind) (by grind); grind
  have sq' : ∀ r : Rat, r ≠ 0 → 0 < r * r := fun r hr => by
    have := sq r
    have : r * r ≠ 0 := fun h => by rcases Rat.mul_eq_zero.1 h with h | h <;> exact hr h
    grind
  by_cases hx : a.x - b.x = 0
  · have hy : a.y - b.y ≠ 0 := fun hy => h (Pt.ext' (by grind) (by grind))
    have := sq' _ hy; have := sq (a.x - b.x); grind
  · have := sq' _ hx; have := sq (a.y - b.y); grind

theorem folded_iff {a b c : Pt} (hab : a ≠ b) (hbc : b ≠ c) : (cr a b c = 0 ∧ 0 < (a.x - b.x) * (c.x - b.x) + (a.y - b.y) * (c.y - b.y)) ↔ (On a b c ∨ On b c a) := by
  have n1 := sq_pos hab
  have n2 := sq_pos hbc
  constructor
  · rintro ⟨h1, h2⟩
    -- the lengths along a - b
    have key : ∀ u v : Pt, cr u b v = 0 → 0 < (u.x - b.x) * (u.x - b.x) + (u.y - b.y) * (u.y - b.y) → 0 < (u.x - b.x) * (v.x - b.x) + (u.y - b.y) * (v.y - b.y) →
        (u.x - b.x) * (v.x - b.x) + (u.y - b.y) * (v.y - b.y) ≤ (u.x - b.x) * (u.x - b.x) + (u.y - b.y) * (u.y - b.y) → On u b v := by
      intro u v hz hN hd hle
      obtain ⟨t0, t1, te⟩ := Geo.div_unit (by grind) hle hN
      generalize ((u.x - b.x) * (v.x - b.x) + (u.y - b.y) * (v.y - b.y)) / ((u.x - b.x) * (u.x - b.x) + (u.y - b.y) * (u.y - b.y)) = t at *
      refine Geo.on_comm ⟨t, t0, t1, ?_⟩
      have g1 : ((u.x - b.x) * (u.x - b.x) + (u.y - b.y) * (u.y - b.y)) * (v.x - (b.x + t * (u.x - b.x))) = 0 := by unfold cr at hz; grind
      have g2 : ((u.x - b.x) * (u.x - b.x) + (u.y - b.y) * (u.y - b.y)) * (v.y - (b.y + t * (u.y - b.y))) = 0 := by unfold cr at hz; grind
      exact Pt.ext' (by have := (Rat.mul_eq_zero.1 g1).resolve_left (by grind); simp only [Geo.lerp]; grind) (by have := (Rat.mul_eq_zero.1 g2).resolve_left (by grind); simp only [Geo.lerp]; grind)
    by_cases hle : (a.x - b.x) * (c.x - b.x) + (a.y - b.y) * (c.y - b.y) ≤ (a.x - b.x) * (a.x - b.x) + (a.y - b.y) * (a.y - b.y)
    · exact .inl (key a c h1 n1 h2 hle)
    · right
      refine Geo.on_comm (key c a (by unfold cr at *; grind) (by grind) (by grind) ?_)
      -- (a.c)^2 = |a|^2 |c|^2 and a.c > |a|^2
      have id : ((a.x - b.x) * (c.x - b.x) + (a.y - b.y) * (c.y - b.y)) * ((a.x - b.x) * (c.x - b.x) + (a.y - b.y) * (c.y - b.y)) = ((a.x - b.x) * (a.x - b.x) + (a.y - b.y) * (a.y - b.y)) * ((c.x - b.x) * (c.x - b.x) + (c.y - b.y) * (c.y - b.y)) := by
        unfold cr at h1; grind
      generalize hd : (a.x - b.x) * (c.x - b.x) + (a.y - b.y) * (c.y - b.y) = D at *
      generalize hA : (a.x - b.x) * (a.x - b.x) + (a.y - b.y) * (a.y - b.y) = A at *
      have hC : (c.x - b.x) * (a.x - b.x) + (c.y - b.y) * (a.y - b.y) = D := by grind
      rw [hC]
      generalize (c.x - b.x) * (c.x - b.x) + (c.y - b.y) * (c.y - b.y) = C at *
      by_cases hc : D ≤ C; · exact hc
      have := Rat.mul_pos (a := D - A) (b := D) (by grind) h2
      have := Rat.mul_pos (a := A) (b := D - C) (by grind) (by grind)
      grind
  · rintro (h | h)
    · obtain ⟨t, t0, t1, e⟩ := Geo.on_comm h
      have ht : t ≠ 0 := fun h => hbc (by rw [e, h, Geo.lerp_zero])
      refine ⟨Geo.cr_on h, ?_⟩
      have ex : c.x - b.x = t * (a.x - b.x) := by rw [e]; simp only [Geo.lerp]; grind
      have ey : c.y - b.y = t * (a.y - b.y) := by rw [e]; simp only [Geo.lerp]; grind
      rw [ex, ey]
      have := Rat.mul_pos (a := t) (by grind) n1
      grind
    · obtain ⟨t, t0, t1, e⟩ := h
      have ht : t ≠ 0 := fun h => hab (by rw [e, h, Geo.lerp_zero])
      have ex : a.x - b.x = t * (c.x - b.x) := by rw [e]; simp only [Geo.lerp]; grind
      have ey : a.y - b.y = t * (c.y - b.y) := by rw [e]; simp only [Geo.lerp]; grind
      refine ⟨by unfold cr; grind, ?_⟩
      rw [ex, ey]
      have := Rat.mul_pos (a := t) (by grind) n2
      grind

theorem foldedZ_iff {a b c : Z2} (hab : a ≠ b) (hbc : b ≠ c) : foldedZ a b c = true ↔ (On (toPt a) (toPt b) (toPt c) ∨ On (toPt b) (toPt c) (toPt a)) := by
  rw [← folded_iff (fun h => hab (toPt_inj h)) (fun h => hbc (toPt_inj h)), cr_toPt]
  simp only [foldedZ, Bool.and_eq_true, decide_eq_true_eq, Rat.intCast_eq_zero_iff]
  have : ((toPt a).x - (toPt b).x) * ((toPt c).x - (toPt b).x) + ((toPt a).y - (toPt b).y) * ((toPt c).y - (toPt b).y) = (((a.x - b.x) * (c.x - b.x) + (a.y - b.y) * (c.y - b.y) : Int) : Rat) := by
    simp only [toPt, Rat.intCast_add, Rat.intCast_mul, Rat.intCast_sub]
  rw [this, Rat.intCast_pos]

/-- the polygon's vertices as points -/
abbrev poly (ps : List Z2) : List Pt := ps.map toPt

theorem mem_edges_poly {ps : List Z2} {e : Pt × Pt} : e ∈ edges (poly ps) ↔ ∃ i, i < ps.length ∧ e = (toPt (pt ps i), toPt (nx ps i)) := by
  rw [mem_edges]
  constructor
  · rintro ⟨i, h, rfl⟩
    have hi : i < ps.length := by simpa using h
    have hn : (i + 1) % ps.length < ps.length := Nat.mod_lt _ (by omega)
    refine ⟨i, hi, ?_⟩
    simp only [List.getElem_map, List.length_map, nx, pt_eq hi, pt_eq hn]
  · rintro ⟨i, hi, rfl⟩
    have hn : (i + 1) % ps.length < ps.length := Nat.mod_lt _ (by omega)
    refine ⟨i, by simpa using hi, ?_⟩
    simp only [List.getElem_map, List.length_map, nx, pt_eq hi, pt_eq hn]

theorem nodup_poly {ps : List Z2} : (poly ps).Nodup ↔ ps.Nodup := by
  unfold List.Nodup
  rw [List.pairwise_map]
  constructor
  · intro h; exact h.imp fun hab e => hab (by rw [e])
  · intro h; exact h.imp fun hab e => hab (toPt_inj e)

theorem pt_inj {ps : List Z2} (h : ps.Nodup) {i j : Nat} (hi : i < ps.length) (hj : j < ps.length) (e : pt ps i = pt ps j) : i = j := by
  rw [pt_eq hi, pt_eq hj] at e
  exact (List.getElem_inj (h₀ := hi) (h₁ := hj) h).1 e
theorem nodup_of_pt {ps : List Z2} (h : ∀ i j, i < j → j < ps.length → pt ps i ≠ pt ps j) : ps.Nodup := by
  rw [List.Nodup, List.pairwise_iff_getElem]
  intro i j hi hj hij
  have := h i j hij hj
  rwa [pt_eq hi, pt_eq hj] at this

theorem mod_succ_ne {i n : Nat} (hi : i < n) (hn : 2 ≤ n) : (i + 1) % n ≠ i := by
  by_cases h : i + 1 < n
  · rw [Nat.mod_eq_of_lt h]; omega
  · have : i + 1 = n := by omega
    rw [this, Nat.mod_self]; omega
theorem mod_two_ne {i n : Nat} (hi : i < n) (hn : 3 ≤ n) : (i + 2) % n ≠ i ∧ (i + 2) % n ≠ (i + 1) % n := by
  by_cases h : i + 2 < n
  · rw [Nat.mod_eq_of_lt h, Nat.mod_eq_of_lt (by omega)]; omega
  · by_cases h2 : i + 2 = n
    · rw [h2, Nat.mod_self, Nat.mod_eq_of_lt (by omega)]; omega
    · have h3 : i + 1 = n := by omega
      have h4 : (i + 2) % n = 1 := by
        have : i + 2 = 1 + n := by omega
        rw [this, Nat.add_mod_right, Nat.mod_eq_of_lt (by omega)]
      rw [h4, h3, Nat.mod_self]; omega
theorem mod_succ_succ {i n : Nat} (_hi : i < n) : ((i + 1) % n + 1) % n = (i + 2) % n := by
  rw [Nat.mod_add_mod]

/-- what both 'simple' functions come to -/
structure SimpleIdx (ps : List Z2) : Prop where
  nodup : ps.Nodup
  fold : ∀ i, i < ps.length → ¬ On (toPt (pt ps i)) (toPt (nx ps i)) (toPt (pt ps ((i + 2) % ps.length))) ∧ ¬ On (toPt (nx ps i)) (toPt (pt ps ((i + 2) % ps.length))) (toPt (pt ps i))
  apart : ∀ i k, i + 2 ≤ k → k < ps.length → (k + 1) % ps.length ≠ i → ¬ ∃ p, On (toPt (pt ps i)) (toPt (nx ps i)) p ∧ On (toPt (pt ps k)) (toPt (nx ps k)) p

theorem SimpleIdx.simple {ps : List Z2} (h3 : 3 ≤ ps.length) (h : SimpleIdx ps) : Simple (poly ps) := by
  -- for i < j
  have key : ∀ i j, i < j → j < ps.length → ∀ p, On (toPt (pt ps i)) (toPt (nx ps i)) p → On (toPt (pt ps j)) (toPt (nx ps j)) p →
      (p = toPt (pt ps i) ∧ p = toPt (nx ps j)) ∨ (p = toPt (nx ps i) ∧ p = toPt (pt ps j)) := by
    intro i j hij hj p hp hq
    by_cases c1 : j = i + 1
    · right
      subst c1
      have e : nx ps i = pt ps (i + 1) := by unfold nx; rw [Nat.mod_eq_of_lt hj]
      have e2 : nx ps (i + 1) = pt ps ((i + 2) % ps.length) := rfl
      obtain ⟨f1, f2⟩ := h.fold i (by omega)
      rw [e2, ← e] at hq
      have := adj_only f1 f2 hp hq
      exact ⟨this, by rw [this, e]⟩
    by_cases c2 : (j + 1) % ps.length = i
    · left
      have e : nx ps j = pt ps i := by unfold nx; rw [c2]
      have e2 : nx ps i = pt ps ((j + 2) % ps.length) := by unfold nx; rw [← c2, mod_succ_succ hj]
      obtain ⟨f1, f2⟩ := h.fold j hj
      rw [e] at f1 f2 hq
      rw [e2] at hp
      have := adj_only f1 f2 hq hp
      exact ⟨this, by rw [this, e]⟩
    · exact absurd ⟨p, hp, hq⟩ (h.apart i j (by omega) hj c2)
  refine ⟨by simpa using h3, nodup_poly.2 h.nodup, fun e he f hf hne p hp hq => ?_⟩
  obtain ⟨i, hi, rfl⟩ := mem_edges_poly.1 he
  obtain ⟨j, hj, rfl⟩ := mem_edges_poly.1 hf
  rcases Nat.lt_trichotomy i j with hlt | heq | hlt
  · exact key i j hlt hj p hp hq
  · subst heq; exact absurd rfl hne
  · rcases key j i hlt hi p hq hp with ⟨a, b⟩ | ⟨a, b⟩
    · exact .inr ⟨b, a⟩
    · exact .inl ⟨b, a⟩

theorem SimpleIdx.of_simple {ps : List Z2} (h3 : 3 ≤ ps.length) (h : Simple (poly ps)) : SimpleIdx ps := by
  have hnd := nodup_poly.1 h.nodup
  refine ⟨hnd, fun i hi => ?_, fun i k hik hk hne => ?_⟩
  · have l1 : (i + 1) % ps.length < ps.length := Nat.mod_lt _ (by omega)
    have l2 : (i + 2) % ps.length < ps.length := Nat.mod_lt _ (by omega)
    obtain ⟨n1, n2⟩ := mod_two_ne hi h3
    have n3 := mod_succ_ne hi (by omega)
    have e1 : (toPt (pt ps i), toPt (nx ps i)) ∈ edges (poly ps) := mem_edges_poly.2 ⟨i, hi, rfl⟩
    have e2 : (toPt (nx ps i), toPt (pt ps ((i + 2) % ps.length))) ∈ edges (poly ps) := mem_edges_poly.2 ⟨(i + 1) % ps.length, l1, by unfold nx; rw [mod_succ_succ hi]⟩
    constructor
    · intro hon
      rcases h.vertex (List.mem_map_of_mem (pt_mem l2)) e1 hon with hh | hh
      · exact n1 (pt_inj hnd l2 hi (toPt_inj hh))
      · exact n2 (pt_inj hnd l2 l1 (toPt_inj hh))
    · intro hon
      rcases h.vertex (List.mem_map_of_mem (pt_mem hi)) e2 hon with hh | hh
      · exact n3 (pt_inj hnd l1 hi (toPt_inj hh).symm)
      · exact n1 (pt_inj hnd l2 hi (toPt_inj hh).symm)
  · rintro ⟨p, hp, hq⟩
    have hi : i < ps.length := by omega
    have e1 : (toPt (pt ps i), toPt (nx ps i)) ∈ edges (poly ps) := mem_edges_poly.2 ⟨i, hi, rfl⟩
    have e2 : (toPt (pt ps k), toPt (nx ps k)) ∈ edges (poly ps) := mem_edges_poly.2 ⟨k, hk, rfl⟩
    have hd : (toPt (pt ps i), toPt (nx ps i)) ≠ (toPt (pt ps k), toPt (nx ps k)) := by
      intro hh
      injection hh with h1 _
      have := pt_inj hnd hi hk (toPt_inj h1)
      omega
    have l1 : (i + 1) % ps.length < ps.length := Nat.mod_lt _ (by omega)
    have l2 : (k + 1) % ps.length < ps.length := Nat.mod_lt _ (by omega)
    rcases h.apart _ e1 _ e2 hd p hp hq with ⟨a, b⟩ | ⟨a, b⟩
    · have : pt ps i = nx ps k := toPt_inj (a.symm.trans b)
      exact hne (pt_inj hnd l2 hi this.symm)
    · have : nx ps i = pt ps k := toPt_inj (a.symm.trans b)
      have := pt_inj hnd l1 hk this
      rw [Nat.mod_eq_of_lt (by omega)] at this
      omega

theorem simpleIdx_of_Z {ps : List Z2} (h3 : 3 ≤ ps.length) (h : simpleZ ps = true) : SimpleIdx ps := by
  unfold simpleZ at h
  rw [Bool.and_eq_true, List.all_eq_true, List.all_eq_true] at h
  obtain ⟨h1, h2⟩ := h
  have hnd : ps.Nodup := nodup_of_pt fun i j hij hj he => by
    have := h1 j (by simpa using hj)
    simp only [Bool.not_eq_true', List.contains_eq_mem, decide_eq_false_iff_not] at this
    apply this
    rw [← he, pt_eq (by omega)]
    exact List.mem_take_iff_getElem.2 ⟨i, by omega, rfl⟩
  have hrow : ∀ i, i < ps.length → rowZ ps i = true := fun i hi => h2 i (by simpa using hi)
  refine ⟨hnd, fun i hi => ?_, fun i k hik hk hne => ?_⟩
  · have := hrow i hi
    unfold rowZ at this
    rw [Bool.and_eq_true] at this
    have hf := this.1
    simp only [Bool.not_eq_true'] at hf
    have l1 : (i + 1) % ps.length < ps.length := Nat.mod_lt _ (by omega)
    have l2 : (i + 2) % ps.length < ps.length := Nat.mod_lt _ (by omega)
    obtain ⟨n1, n2⟩ := mod_two_ne hi h3
    have n3 := mod_succ_ne hi (by omega)
    have hiff := foldedZ_iff (a := pt ps i) (b := pt ps ((i + 1) % ps.length)) (c := pt ps ((i + 2) % ps.length)) (fun e => n3 (pt_inj hnd l1 hi e.symm)) (fun e => n2 (pt_inj hnd l2 l1 e.symm))
    rw [hf] at hiff
    have hno := (not_congr hiff).1 (by simp)
    exact ⟨fun hh => hno (.inl hh), fun hh => hno (.inr hh)⟩
  · have := hrow i (by omega)
    unfold rowZ at this
    rw [Bool.and_eq_true, List.all_eq_true] at this
    have hs := this.2 k (by simpa using hk)
    unfold stepZ at hs
    simp only [Bool.or_eq_true, decide_eq_true_eq, Bool.not_eq_true'] at hs
    rcases hs with (hs | hs) | hs
    · omega
    · exact absurd hs hne
    · rw [← meetZ_iff]
      unfold nx
      rw [hs]; simp

theorem simpleZ_iff {ps : List Z2} (h3 : 3 ≤ ps.length) : simpleZ ps = true ↔ Simple (poly ps) := by
  constructor
  · intro h; exact (simpleIdx_of_Z h3 h).simple h3
  · intro h
    have hs := SimpleIdx.of_simple h3 h
    have hnd := hs.nodup
    refine simpleZ_ok (fun j hj => ?_) (fun i hi => rowZ_ok ?_ fun k hk => ?_)
    · simp only [Bool.not_eq_true', List.contains_eq_mem, decide_eq_false_iff_not]
      intro hm
      obtain ⟨i, hi, he⟩ := List.mem_take_iff_getElem.1 hm
      have := pt_inj hnd (i := i) (j := j) (by omega) hj (by rw [pt_eq (by omega)]; exact he)
      omega
    · have l1 : (i + 1) % ps.length < ps.length := Nat.mod_lt _ (by omega)
      have l2 : (i + 2) % ps.length < ps.length := Nat.mod_lt _ (by omega)
      obtain ⟨n1, n2⟩ := mod_two_ne hi h3
      have n3 := mod_succ_ne hi (by omega)
      obtain ⟨f1, f2⟩ := hs.fold i hi
      have hiff := foldedZ_iff (a := pt ps i) (b := pt ps ((i + 1) % ps.length)) (c := pt ps ((i + 2) % ps.length)) (fun e => n3 (pt_inj hnd l1 hi e.symm)) (fun e => n2 (pt_inj hnd l2 l1 e.symm))
      have := (not_congr hiff).2 (fun hh => hh.elim f1 f2)
      simpa using this
    · by_cases c1 : k < i + 2
      · exact stepZ_low c1
      by_cases c2 : (k + 1) % ps.length = i
      · exact stepZ_wrap c2
      · have := hs.apart i k (by omega) hk c2
        rw [← meetZ_iff] at this
        exact stepZ_yes (by simpa [nx] using this)
end Go.Proofs.Ytfgeengdmbabhaa

/- Plain laws of polygons: the answers as sums over the sides; reversal. -/
namespace Go.Proofs.Ytfgeengdmbabhaa
open Geo (Pt cr On Simple edges mem_edges esum)

theorem edges_take_succ {ps : List Z2} {k : Nat} (hk : k < ps.length) : (edges ps).take (k + 1) = (edges ps).take k ++ [(pt ps k, nx ps k)] := by
  have hk' : k < (edges ps).length := by rw [Geo.edges_length]; exact hk
  have hn : (k + 1) % ps.length < ps.length := Nat.mod_lt _ (by omega)
  rw [List.take_succ_eq_append_getElem hk', Geo.edges_getElem ps k hk]
  unfold nx
  rw [pt_eq hk, pt_eq hn]
theorem mem_edgesZ {ps : List Z2} {e : Z2 × Z2} : e ∈ edges ps ↔ ∃ i, i < ps.length ∧ e = (pt ps i, nx ps i) := by
  rw [mem_edges]
  constructor
  · rintro ⟨i, hi, rfl⟩
    have hn : (i + 1) % ps.length < ps.length := Nat.mod_lt _ (by omega)
    exact ⟨i, hi, by unfold nx; rw [pt_eq hi, pt_eq hn]⟩
  · rintro ⟨i, hi, rfl⟩
    have hn : (i + 1) % ps.length < ps.length := Nat.mod_lt _ (by omega)
    exact ⟨i, hi, by unfold nx; rw [pt_eq hi, pt_eq hn]⟩

theorem areaTo_esum (ps : List Z2) (k : Nat) (hk : k ≤ ps.length) : areaTo ps k = esum (fun e => sideZ e.1 e.2) ((edges ps).take k) := by
  induction k with
  | zero => simp [areaTo, esum]
  | succ k ih =>
    rw [edges_take_succ (by omega), Geo.esum_append, ← ih (by omega)]
    simp [areaTo, esum]
theorem areaZ_esum (ps : List Z2) : areaZ ps = esum (fun e => sideZ e.1 e.2) (edges ps) := by
  unfold areaZ
  rw [areaTo_esum ps _ (Nat.le_refl _), List.take_of_length_le (by rw [Geo.edges_length]; exact Nat.le_refl _)]

/-- how many sides the ray crosses -/
def cntE (q : Z2) (l : List (Z2 × Z2)) : Int := esum (fun e => if crossesZ e.1 e.2 q then 1 else 0) l
theorem parTo_cnt (ps : List Z2) (q : Z2) (k : Nat) (hk : k ≤ ps.length) : parTo ps q k = if cntE q ((edges ps).take k) % 2 = 0 then -1 else 1 := by
  induction k with
  | zero => simp [parTo, cntE, esum]
  | succ k ih =>
    have e : cntE q ((edges ps).take (k + 1)) = cntE q ((edges ps).take k) + if crossesZ (pt ps k) (nx ps k) q then 1 else 0 := by
      unfold cntE
      rw [edges_take_succ (by omega), Geo.esum_append]
      simp [esum]
    rw [e]
    simp only [parTo]
    rw [ih (by omega)]
    by_cases hc : crossesZ (pt ps k) (nx ps k) q = true
    · rw [if_pos hc, if_pos hc]; split <;> split <;> omega
    · rw [if_neg hc, if_neg hc, Int.add_zero]
theorem parZ_cnt (ps : List Z2) (q : Z2) : parTo ps q ps.length = if cntE q (edges ps) % 2 = 0 then -1 else 1 := by
  rw [parTo_cnt ps q _ (Nat.le_refl _), List.take_of_length_le (by rw [Geo.edges_length]; exact Nat.le_refl _)]
theorem onAny_iff (ps : List Z2) (q : Z2) : onAny ps q = true ↔ ∃ e ∈ edges ps, onZ e.1 e.2 q = true := by
  unfold onAny
  rw [List.any_eq_true]
  constructor
  · rintro ⟨i, hi, h⟩; exact ⟨_, mem_edgesZ.2 ⟨i, by simpa using hi, rfl⟩, h⟩
  · rintro ⟨e, he, h⟩
    obtain ⟨i, hi, rfl⟩ := mem_edgesZ.1 he
    exact ⟨i, by simpa using hi, h⟩

/-! Two lists with the same sides, in any order, or with their directions changed -/
theorem crZ_swap (a b c : Z2) : crZ b a c = - crZ a b c := by unfold crZ; grind
theorem onZ_swap (a b q : Z2) : onZ b a q = onZ a b q := by
  rw [Bool.eq_iff_iff, onZ_iff, onZ_iff]
  exact ⟨Geo.on_comm, Geo.on_comm⟩
theorem crossesZ_swap (a b q : Z2) : crossesZ b a q = crossesZ a b q := by
  rw [Bool.eq_iff_iff, cross_iff, cross_iff, crZ_swap a b q]
  omega
theorem sideZ_swap (a b : Z2) : sideZ b a = - sideZ a b := by unfold sideZ; grind

theorem placeZ_same {ps qs : List Z2} (q : Z2) (h : (edges ps).Perm (edges qs)) : placeZ ps q = placeZ qs q := by
  have h1 : onAny ps q = onAny qs q := by
    rw [Bool.eq_iff_iff, onAny_iff, onAny_iff]
    simp only [h.mem_iff]
  unfold placeZ
  rw [h1, parZ_cnt, parZ_cnt]
  unfold cntE
  rw [Geo.esum_perm _ h]
theorem placeZ_reverse (ps : List Z2) (q : Z2) : placeZ ps.reverse q = placeZ ps q := by
  have hp := Geo.edges_reverse ps
  have h1 : onAny ps.reverse q = onAny ps q := by
    rw [Bool.eq_iff_iff, onAny_iff, onAny_iff]
    simp only [hp.mem_iff, List.mem_map]
    constructor
    · rintro ⟨e, ⟨f, hf, rfl⟩, h⟩; exact ⟨f, hf, by rw [← onZ_swap]; exact h⟩
    · rintro ⟨f, hf, h⟩; exact ⟨f.swap, ⟨f, hf, rfl⟩, by rw [← onZ_swap]; exact h⟩
  have h2 : cntE q (edges ps.reverse) = cntE q (edges ps) := by
    unfold cntE
    rw [Geo.esum_perm _ hp, Geo.esum_map]
    exact Geo.esum_congr fun e _ => by simp only [Prod.fst_swap, Prod.snd_swap, crossesZ_swap]
  unfold placeZ
  rw [h1, parZ_cnt, parZ_cnt, h2]
theorem areaZ_reverse (ps : List Z2) : areaZ ps.reverse = - areaZ ps := by
  rw [areaZ_esum, areaZ_esum, Geo.esum_perm _ (Geo.edges_reverse ps), Geo.esum_map, ← Geo.esum_neg]
  exact Geo.esum_congr fun e _ => by simp only [Prod.fst_swap, Prod.snd_swap]; exact sideZ_swap _ _
theorem areaZ_same {ps qs : List Z2} (h : (edges ps).Perm (edges qs)) : areaZ ps = areaZ qs := by
  rw [areaZ_esum, areaZ_esum, Geo.esum_perm _ h]

theorem chkZ_same {ps qs : List Z2} (hl : ps.length = qs.length) (hm : ps.any outZ = qs.any outZ) (hs : 3 ≤ ps.length → (Simple (poly ps) ↔ Simple (poly qs))) : chkZ ps = chkZ qs := by
  unfold chkZ
  rw [hl, hm]
  by_cases h3 : qs.length < 3
  · simp [h3]
  · have : simpleZ ps = simpleZ qs := by
      rw [Bool.eq_iff_iff, simpleZ_iff (by omega), simpleZ_iff (by omega)]
      exact hs (by omega)
    rw [this]
theorem chkZ_reverse (ps : List Z2) : chkZ ps.reverse = chkZ ps := by
  refine chkZ_same (by simp) (by simp) fun _ => ?_
  have e : poly ps.reverse = (poly ps).reverse := by simp [poly]
  rw [e]
  exact ⟨fun h => by have := h.reverse; rwa [List.reverse_reverse] at this, fun h => h.reverse⟩
theorem aZ_reverse (ps : List Z2) : aZ ps.reverse = - aZ ps := by
  unfold aZ
  rw [chkZ_reverse, areaZ_reverse]
  split <;> omega
theorem whereZ_reverse (ps : List Z2) (q : Z2) : whereZ ps.reverse q = whereZ ps q := by
  unfold whereZ
  rw [chkZ_reverse, placeZ_reverse]
end Go.Proofs.Ytfgeengdmbabhaa

/- Plain laws of polygons: points outside of the box; moved polygons. -/
namespace Go.Proofs.Ytfgeengdmbabhaa
open Geo (Pt cr On Simple edges mem_edges esum)

theorem esum_zero {α : Type} {f : α × α → Int} {l : List (α × α)} (h : ∀ e ∈ l, f e = 0) : esum f l = 0 := by
  rw [Geo.esum_congr (g := fun _ => 0) h]
  induction l with
  | nil => rfl
  | cons e l ih => rw [Geo.esum_cons, ih (fun e he => h e (List.mem_cons_of_mem _ he))]; rfl

/-- a spot strictly beside all vertices, in one of the four directions, is outside -/
theorem par_out {ps : List Z2} {q : Z2} (h : (∀ p ∈ ps, p.x < q.x) ∨ (∀ p ∈ ps, q.x < p.x) ∨ (∀ p ∈ ps, p.y < q.y) ∨ (∀ p ∈ ps, q.y < p.y)) : onAny ps q = false ∧ parTo ps q ps.length = -1 := by
  have hon : onAny ps q = false := by
    cases ho : onAny ps q with
    | false => rfl
    | true =>
      exfalso
      obtain ⟨e, he, h1⟩ := (onAny_iff ps q).1 ho
      have m1 := Geo.edges_fst_mem he
      have m2 := Geo.edges_snd_mem he
      simp only [onZ, Bool.and_eq_true, decide_eq_true_eq] at h1
      rcases h with h | h | h | h
      all_goals
        have a1 := h _ m1
        have a2 := h _ m2
        omega
  refine ⟨hon, ?_⟩
  rw [parZ_cnt]
  have key : cntE q (edges ps) % 2 = 0 := by
    rcases h with h | h | h | h
    · have : cntE q (edges ps) = 0 := esum_zero fun e he => by
        have a1 := h _ (Geo.edges_fst_mem he)
        have a2 := h _ (Geo.edges_snd_mem he)
        rw [if_neg]
        intro hc
        rw [cross_iff] at hc
        rcases hc with ⟨u, v, z⟩ | ⟨u, v, z⟩
        · have g1 : 0 ≤ (q.x - e.1.x) * (e.2.y - q.y) := Int.mul_nonneg (by omega) (by omega)
          have g2 : 0 ≤ (q.x - e.2.x) * (q.y - e.1.y) := Int.mul_nonneg (by omega) (by omega)
          unfold crZ at z; grind
        · have g1 : 0 ≤ (q.x - e.2.x) * (e.1.y - q.y) := Int.mul_nonneg (by omega) (by omega)
          have g2 : 0 ≤ (q.x - e.1.x) * (q.y - e.2.y) := Int.mul_nonneg (by omega) (by omega)
          unfold crZ at z; grind
      rw [this]; rfl
    · -- every side that passes the height is crossed: as many up as down
      have e1 : cntE q (edges ps) = esum (fun e => (if q.y < e.2.y then 1 else 0) - (if q.y < e.1.y then 1 else 0)) (edges ps) + 2 * esum (fun e => if e.2.y ≤ q.y ∧ q.y < e.1.y then 1 else 0) (edges ps) := by
        have e2 : 2 * esum (fun e : Z2 × Z2 => if e.2.y ≤ q.y ∧ q.y < e.1.y then (1 : Int) else 0) (edges ps) = esum (fun e => (if e.2.y ≤ q.y ∧ q.y < e.1.y then (1 : Int) else 0) + (if e.2.y ≤ q.y ∧ q.y < e.1.y then 1 else 0)) (edges ps) := by
          rw [Geo.esum_add]; omega
        rw [e2, ← Geo.esum_add]
        refine Geo.esum_congr fun e he => ?_
        have a1 := h _ (Geo.edges_fst_mem he)
        have a2 := h _ (Geo.edges_snd_mem he)
        by_cases hu : e.1.y ≤ q.y ∧ q.y < e.2.y
        · have g1 : 0 < (e.1.x - q.x) * (e.2.y - q.y) := Int.mul_pos (by omega) (by omega)
          have g2 : 0 ≤ (e.2.x - q.x) * (q.y - e.1.y) := Int.mul_nonneg (by omega) (by omega)
          have hz : 0 < crZ e.1 e.2 q := by unfold crZ; grind
          rw [if_pos ((cross_iff _ _ _).2 (.inl ⟨hu.1, hu.2, hz⟩)), if_pos hu.2, if_neg (by omega), if_neg (by omega)]; rfl
        by_cases hd : e.2.y ≤ q.y ∧ q.y < e.1.y
        · have g1 : 0 < (e.2.x - q.x) * (e.1.y - q.y) := Int.mul_pos (by omega) (by omega)
          have g2 : 0 ≤ (e.1.x - q.x) * (q.y - e.2.y) := Int.mul_nonneg (by omega) (by omega)
          have hz : crZ e.1 e.2 q < 0 := by unfold crZ; grind
          rw [if_pos ((cross_iff _ _ _).2 (.inr ⟨hd.1, hd.2, hz⟩)), if_neg (by omega), if_pos hd.2, if_pos hd]; rfl
        · rw [if_neg (fun hc => by have := (cross_iff _ _ _).1 hc; omega), if_neg hd]
          split <;> split <;> omega
      have e3 := Geo.esum_closed (fun p : Z2 => if q.y < p.y then (1 : Int) else 0) ps
      rw [e3] at e1
      omega
    · have : cntE q (edges ps) = 0 := esum_zero fun e he => by
        have a1 := h _ (Geo.edges_fst_mem he)
        have a2 := h _ (Geo.edges_snd_mem he)
        rw [if_neg (fun hc => by have := (cross_iff _ _ _).1 hc; omega)]
      rw [this]; rfl
    · have : cntE q (edges ps) = 0 := esum_zero fun e he => by
        have a1 := h _ (Geo.edges_fst_mem he)
        have a2 := h _ (Geo.edges_snd_mem he)
        rw [if_neg (fun hc => by have := (cross_iff _ _ _).1 hc; omega)]
      rw [this]; rfl
  rw [if_pos key]
theorem place_out {ps : List Z2} {q : Z2} (h : (∀ p ∈ ps, p.x < q.x) ∨ (∀ p ∈ ps, q.x < p.x) ∨ (∀ p ∈ ps, p.y < q.y) ∨ (∀ p ∈ ps, q.y < p.y)) : placeZ ps q = -1 := by
  obtain ⟨h1, h2⟩ := par_out h
  unfold placeZ
  rw [h1, h2]
  split <;> rfl
end Go.Proofs.Ytfgeengdmbabhaa

namespace Go.Proofs.Ytfgeengdmbabhaa
open Go.RowKit
attribute [local go_sem ↓] Go.wp_at_zero Go.wp_at_succ

set_option maxHeartbeats 4000000 in
/-- garmentref11.meet -/
theorem meet116 (a b c d : Z2) (w : World) (ha : Bd a) (hb : Bd b) (hc : Bd c) (hd : Bd d) :
    Calls Try.prog 116 #[sv a, sv b, sv c, sv d] w fun e w' => e = .returned (.bool (meetZ a b c d)) ∧ Below w.heap.size w w' := by
  go_enter Try.func116, Try.ntmps116
  go_wp2_with fail
  have F := boxes4 w a b c d
  revert F
  generalize ((((w.alloc (.cells #[iv a.x, iv a.y] 30)).alloc (.cells #[iv b.x, iv b.y] 30)).alloc (.cells #[iv c.x, iv c.y] 30)).alloc (.cells #[iv d.x, iv d.y] 30)) = W
  rintro ⟨hB, f1, f2, f3, f4, f5, f6, f7, f8⟩
  go_wp2_with (first | (go_at_call 111; refine (between111 _ _ _ _ ?_ ?_ ?_).mono ?_; (assumption); (assumption); (assumption); rintro e w' ⟨rfl, hbq⟩; replace hB := below_trans hB hbq; replace f1 := cell_later hbq f1; replace f2 := cell_later hbq f2; replace f3 := cell_later hbq f3; replace f4 := cell_later hbq f4; replace f5 := cell_later hbq f5; replace f6 := cell_later hbq f6; replace f7 := cell_later hbq f7; replace f8 := cell_later hbq f8; clear hbq))
  iterate 4
    go_ret
    exact ⟨ret_bool (by simp [meetZ, *]), hB⟩
  have s1 := sgn_wrap (crZ a b c) (crZ a b d)
  have s2 := sgn_wrap (crZ c d a) (crZ c d b)
  cases hp : partedZ a b c d
  case true =>
    have d1 : decide (sgn (crZ a b c) * sgn (crZ a b d) < 0) = true := hp
    go_region_held3 (fun w' => Below w.heap.size w w' ∧ w'.cell? ⟨w.heap.size, 0, none⟩ = some (iv a.x) ∧ w'.cell? ⟨w.heap.size, 1, none⟩ = some (iv a.y) ∧ w'.cell? ⟨w.heap.size + 1, 0, none⟩ = some (iv b.x) ∧ w'.cell? ⟨w.heap.size + 1, 1, none⟩ = some (iv b.y)
        ∧ w'.cell? ⟨w.heap.size + 1 + 1, 0, none⟩ = some (iv c.x) ∧ w'.cell? ⟨w.heap.size + 1 + 1, 1, none⟩ = some (iv c.y) ∧ w'.cell? ⟨w.heap.size + 1 + 1 + 1, 0, none⟩ = some (iv d.x) ∧ w'.cell? ⟨w.heap.size + 1 + 1 + 1, 1, none⟩ = some (iv d.y))
      (first | exact ⟨hB.drew, f1, f2, f3, f4, f5, f6, f7, f8⟩ | assumption | (go_split_ands; refine ⟨below_trans (by assumption) hbq, ?_, ?_, ?_, ?_, ?_, ?_, ?_, ?_⟩ <;> exact cell_later hbq (by assumption)))
      (first | (go_at_call 41; refine (cross41 _ _ _ _ ?_ ?_ ?_).mono ?_; (assumption); (assumption); (assumption); rintro e w' ⟨rfl, hbq⟩) | (go_at_call 126; refine (sign126 _ _).mono ?_; rintro e w' ⟨rfl, rfl⟩))
    go_split_ands
    go_wp2
    go_ret
    exact ⟨ret_bool (by simp [meetZ, *]; rfl), by assumption⟩
  case false =>
    have d1 : decide (sgn (crZ a b c) * sgn (crZ a b d) < 0) = false := hp
    refine wp_region_noPanic ?_
    refine wp_region_held_drew (S := (fun w' => Below w.heap.size w w' ∧ w'.cell? ⟨w.heap.size, 0, none⟩ = some (iv a.x) ∧ w'.cell? ⟨w.heap.size, 1, none⟩ = some (iv a.y) ∧ w'.cell? ⟨w.heap.size + 1, 0, none⟩ = some (iv b.x) ∧ w'.cell? ⟨w.heap.size + 1, 1, none⟩ = some (iv b.y) ∧ w'.cell? ⟨w.heap.size + 1 + 1, 0, none⟩ = some (iv c.x) ∧ w'.cell? ⟨w.heap.size + 1 + 1, 1, none⟩ = some (iv c.y) ∧ w'.cell? ⟨w.heap.size + 1 + 1 + 1, 0, none⟩ = some (iv d.x) ∧ w'.cell? ⟨w.heap.size + 1 + 1 + 1, 1, none⟩ = some (iv d.y))) (by kernel_rfl) ?_ (fun hHeld => ?_)
    · exact ⟨hB.drew, f1, f2, f3, f4, f5, f6, f7, f8⟩
    refine wpAnyH_take (i := 0) (oi := ({ dst := some 31, op := Op.load 30 (Operand.tmp 4), type := 30, pos := "ref.go:30", after := #[], guard := none } : Oper)) (v := ?v0) rfl (by kernel_rfl) (by kernel_rfl) (by kernel_rfl) (fun _ _ _ h => h) (Or.inl ⟨by rfl, ?hy0⟩) (by assumption) ?rest0
    case hy0 => intro w0 hSw; (try dsimp only at hSw); go_simp; try with_reducible rfl
    try simp only [Act.put, List.setIfInBounds_toArray, List.set_cons_zero, List.set_cons_succ]
    refine wpAnyH_take (i := 1) (oi := ({ dst := some 32, op := Op.load 30 (Operand.tmp 5), type := 30, pos := "ref.go:30", after := #[], guard := none } : Oper)) (v := ?v1) rfl (by kernel_rfl) (by kernel_rfl) (by kernel_rfl) (fun _ _ _ h => h) (Or.inl ⟨by rfl, ?hy1⟩) (by assumption) ?rest1
    case hy1 => intro w0 hSw; (try dsimp only at hSw); go_simp; try with_reducible rfl
    try simp only [Act.put, List.setIfInBounds_toArray, List.set_cons_zero, List.set_cons_succ]
    refine wpAnyH_take (i := 2) (oi := ({ dst := some 33, op := Op.load 30 (Operand.tmp 6), type := 30, pos := "ref.go:30", after := #[], guard := none } : Oper)) (v := ?v2) rfl (by kernel_rfl) (by kernel_rfl) (by kernel_rfl) (fun _ _ _ h => h) (Or.inl ⟨by rfl, ?hy2⟩) (by assumption) ?rest2
    case hy2 => intro w0 hSw; (try dsimp only at hSw); go_simp; try with_reducible rfl
    try simp only [Act.put, List.setIfInBounds_toArray, List.set_cons_zero, List.set_cons_succ]
    refine wpAnyH_take (i := 5) (oi := ({ dst := some 36, op := Op.load 30 (Operand.tmp 4), type := 30, pos := "ref.go:30", after := #[], guard := none } : Oper)) (v := ?v5) rfl (by kernel_rfl) (by kernel_rfl) (by kernel_rfl) (fun _ _ _ h => h) (Or.inl ⟨by rfl, ?hy5⟩) (by assumption) ?rest5
    case hy5 => intro w0 hSw; (try dsimp only at hSw); go_simp; try with_reducible rfl
    try simp only [Act.put, List.setIfInBounds_toArray, List.set_cons_zero, List.set_cons_succ]
    refine wpAnyH_take (i := 6) (oi := ({ dst := some 37, op := Op.load 30 (Operand.tmp 5), type := 30, pos := "ref.go:30", after := #[], guard := none } : Oper)) (v := ?v6) rfl (by kernel_rfl) (by kernel_rfl) (by kernel_rfl) (fun _ _ _ h => h) (Or.inl ⟨by rfl, ?hy6⟩) (by assumption) ?rest6
    case hy6 => intro w0 hSw; (try dsimp only at hSw); go_simp; try with_reducible rfl
    try simp only [Act.put, List.setIfInBounds_toArray, List.set_cons_zero, List.set_cons_succ]
    refine wpAnyH_take (i := 7) (oi := ({ dst := some 38, op := Op.load 30 (Operand.tmp 7), type := 30, pos := "ref.go:30", after := #[], guard := none } : Oper)) (v := ?v7) rfl (by kernel_rfl) (by kernel_rfl) (by kernel_rfl) (fun _ _ _ h => h) (Or.inl ⟨by rfl, ?hy7⟩) (by assumption) ?rest7
    case hy7 => intro w0 hSw; (try dsimp only at hSw); go_simp; try with_reducible rfl
    try simp only [Act.put, List.setIfInBounds_toArray, List.set_cons_zero, List.set_cons_succ]
    refine wpAnyH_ready (rs := [3]) (by kernel_rfl) (by simp) ?_
    refine AllReadyH.cons (o := ({ dst := some 34, op := Op.call { callee := Callee.value (Operand.func 41), args := #[Operand.tmp 31, Operand.tmp 32, Operand.tmp 33], argTypes := #[30, 30, 30] }, type := 3, pos := "ref.go:30", after := #[{ on := 0, ground := Ground.data }, { on := 1, ground := Ground.data }, { on := 2, ground := Ground.data }], guard := none } : Oper)) rfl (fun K hK => ?_) AllReadyH.nil
    go_simp
    go_at_call 41
    refine (cross41 _ _ _ _ (by assumption) (by assumption) (by assumption)).mono ?_
    rintro e w' ⟨rfl, hbq⟩
    refine hK.out _ _ ?_ (fun hHeld => ?_)
    · go_split_ands; refine ⟨below_trans (by assumption) hbq, ?_, ?_, ?_, ?_, ?_, ?_, ?_, ?_⟩ <;> exact cell_later hbq (by assumption)
    clear hK K
    try simp only [Act.put, List.setIfInBounds_toArray, List.set_cons_zero, List.set_cons_succ]
    refine wpAnyH_ready (rs := [4]) (by kernel_rfl) (by simp) ?_
    refine AllReadyH.cons (o := ({ dst := some 35, op := Op.call { callee := Callee.value (Operand.func 126), args := #[Operand.tmp 34], argTypes := #[3] }, type := 3, pos := "ref.go:30", after := #[{ on := 3, ground := Ground.data }, { on := 3, ground := Ground.chain }], guard := none } : Oper)) rfl (fun K hK => ?_) AllReadyH.nil
    go_simp
    go_at_call 126
    refine (sign126 _ _).mono ?_
    rintro e w' ⟨rfl, rfl⟩
    refine hK.out _ _ ?_ (fun hHeld => ?_)
    · assumption
    clear hK K
    try simp only [Act.put, List.setIfInBounds_toArray, List.set_cons_zero, List.set_cons_succ]
    refine wpAnyH_ready (rs := [8]) (by kernel_rfl) (by simp) ?_
    refine AllReadyH.cons (o := ({ dst := some 39, op := Op.call { callee := Callee.value (Operand.func 41), args := #[Operand.tmp 36, Operand.tmp 37, Operand.tmp 38], argTypes := #[30, 30, 30] }, type := 3, pos := "ref.go:30", after := #[{ on := 5, ground := Ground.data }, { on := 6, ground := Ground.data }, { on := 7, ground := Ground.data }, { on := 4, ground := Ground.chain }], guard := none } : Oper)) rfl (fun K hK => ?_) AllReadyH.nil
    go_simp
    go_at_call 41
    refine (cross41 _ _ _ _ (by assumption) (by assumption) (by assumption)).mono ?_
    rintro e w' ⟨rfl, hbq⟩
    refine hK.out _ _ ?_ (fun hHeld => ?_)
    · go_split_ands; refine ⟨below_trans (by assumption) hbq, ?_, ?_, ?_, ?_, ?_, ?_, ?_, ?_⟩ <;> exact cell_later hbq (by assumption)
    clear hK K
    try simp only [Act.put, List.setIfInBounds_toArray, List.set_cons_zero, List.set_cons_succ]
    refine wpAnyH_ready (rs := [9]) (by kernel_rfl) (by simp) ?_
    refine AllReadyH.cons (o := ({ dst := some 40, op := Op.call { callee := Callee.value (Operand.func 126), args := #[Operand.tmp 39], argTypes := #[3] }, type := 3, pos := "ref.go:30", after := #[{ on := 8, ground := Ground.data }, { on := 8, ground := Ground.chain }], guard := none } : Oper)) rfl (fun K hK => ?_) AllReadyH.nil
    go_simp
    go_at_call 126
    refine (sign126 _ _).mono ?_
    rintro e w' ⟨rfl, rfl⟩
    refine hK.out _ _ ?_ (fun hHeld => ?_)
    · assumption
    clear hK K
    try simp only [Act.put, List.setIfInBounds_toArray, List.set_cons_zero, List.set_cons_succ]
    refine wpAnyH_take (i := 10) (oi := ({ dst := some 41, op := Op.binOp BinOp.mul 3 (Operand.tmp 35) (Operand.tmp 40) 3, type := 3, pos := "ref.go:30", after := #[{ on := 4, ground := Ground.data }, { on := 9, ground := Ground.data }], guard := none } : Oper)) (v := ?v10) rfl (by kernel_rfl) (by kernel_rfl) (by kernel_rfl) (fun _ _ _ h => h) (Or.inl ⟨by rfl, ?hy10⟩) (by assumption) ?rest10
    case hy10 => intro w0 hSw; (try dsimp only at hSw); go_simp; try with_reducible rfl
    try simp only [Act.put, List.setIfInBounds_toArray, List.set_cons_zero, List.set_cons_succ]
    refine wpAnyH_take (i := 11) (oi := ({ dst := some 42, op := Op.binOp BinOp.lss 3 (Operand.tmp 41) (Operand.const (Value.int IntKind.i64 0)) 3, type := 4, pos := "ref.go:30", after := #[{ on := 10, ground := Ground.data }], guard := none } : Oper)) (v := ?v11) rfl (by kernel_rfl) (by kernel_rfl) (by kernel_rfl) (fun _ _ _ h => h) (Or.inl ⟨by rfl, ?hy11⟩) (by assumption) ?rest11
    case hy11 => intro w0 hSw; (try dsimp only at hSw); go_simp; try with_reducible rfl
    try simp only [Act.put, List.setIfInBounds_toArray, List.set_cons_zero, List.set_cons_succ]
    refine wpAnyH_take (i := 12) (oi := ({ dst := some 43, op := Op.move (Operand.tmp 42), type := 4, pos := "ref.go:30", after := #[{ on := 11, ground := Ground.data }, { on := 9, ground := Ground.chain }], guard := none } : Oper)) (v := ?v12) rfl (by kernel_rfl) (by kernel_rfl) (by kernel_rfl) (fun _ _ _ h => h) (Or.inl ⟨by rfl, ?hy12⟩) (by assumption) ?rest12
    case hy12 => intro w0 hSw; (try dsimp only at hSw); go_simp; try with_reducible rfl
    try simp only [Act.put, List.setIfInBounds_toArray, List.set_cons_zero, List.set_cons_succ]
    refine wpAnyH_take (i := 13) (oi := ({ dst := some 44, op := Op.load 30 (Operand.tmp 6), type := 30, pos := "ref.go:30", after := #[{ on := 12, ground := Ground.guard }], guard := some (12, true) } : Oper)) rfl (by kernel_rfl) (by kernel_rfl) (by kernel_rfl) (fun _ _ _ h => h) (Or.inr ⟨by rfl, rfl⟩) (by assumption) ?_
    try simp only [Act.put, List.setIfInBounds_toArray, List.set_cons_zero, List.set_cons_succ]
    refine wpAnyH_take (i := 14) (oi := ({ dst := some 45, op := Op.load 30 (Operand.tmp 7), type := 30, pos := "ref.go:30", after := #[{ on := 12, ground := Ground.guard }], guard := some (12, true) } : Oper)) rfl (by kernel_rfl) (by kernel_rfl) (by kernel_rfl) (fun _ _ _ h => h) (Or.inr ⟨by rfl, rfl⟩) (by assumption) ?_
    try simp only [Act.put, List.setIfInBounds_toArray, List.set_cons_zero, List.set_cons_succ]
    refine wpAnyH_take (i := 15) (oi := ({ dst := some 46, op := Op.load 30 (Operand.tmp 4), type := 30, pos := "ref.go:30", after := #[{ on := 12, ground := Ground.guard }], guard := some (12, true) } : Oper)) rfl (by kernel_rfl) (by kernel_rfl) (by kernel_rfl) (fun _ _ _ h => h) (Or.inr ⟨by rfl, rfl⟩) (by assumption) ?_
    try simp only [Act.put, List.setIfInBounds_toArray, List.set_cons_zero, List.set_cons_succ]
    refine wpAnyH_take (i := 18) (oi := ({ dst := some 49, op := Op.load 30 (Operand.tmp 6), type := 30, pos := "ref.go:30", after := #[{ on := 12, ground := Ground.guard }], guard := some (12, true) } : Oper)) rfl (by kernel_rfl) (by kernel_rfl) (by kernel_rfl) (fun _ _ _ h => h) (Or.inr ⟨by rfl, rfl⟩) (by assumption) ?_
    try simp only [Act.put, List.setIfInBounds_toArray, List.set_cons_zero, List.set_cons_succ]
    refine wpAnyH_take (i := 19) (oi := ({ dst := some 50, op := Op.load 30 (Operand.tmp 7), type := 30, pos := "ref.go:30", after := #[{ on := 12, ground := Ground.guard }], guard := some (12, true) } : Oper)) rfl (by kernel_rfl) (by kernel_rfl) (by kernel_rfl) (fun _ _ _ h => h) (Or.inr ⟨by rfl, rfl⟩) (by assumption) ?_
    try simp only [Act.put, List.setIfInBounds_toArray, List.set_cons_zero, List.set_cons_succ]
    refine wpAnyH_take (i := 20) (oi := ({ dst := some 51, op := Op.load 30 (Operand.tmp 5), type := 30, pos := "ref.go:30", after := #[{ on := 12, ground := Ground.guard }], guard := some (12, true) } : Oper)) rfl (by kernel_rfl) (by kernel_rfl) (by kernel_rfl) (fun _ _ _ h => h) (Or.inr ⟨by rfl, rfl⟩) (by assumption) ?_
    try simp only [Act.put, List.setIfInBounds_toArray, List.set_cons_zero, List.set_cons_succ]
    refine wpAnyH_take (i := 16) (oi := ({ dst := some 47, op := Op.call { callee := Callee.value (Operand.func 41), args := #[Operand.tmp 44, Operand.tmp 45, Operand.tmp 46], argTypes := #[30, 30, 30] }, type := 3, pos := "ref.go:30", after := #[{ on := 13, ground := Ground.data }, { on := 14, ground := Ground.data }, { on := 15, ground := Ground.data }, { on := 12, ground := Ground.chain }, { on := 12, ground := Ground.guard }], guard := some (12, true) } : Oper)) rfl (by kernel_rfl) (by kernel_rfl) (by kernel_rfl) (fun _ _ _ h => h) (Or.inr ⟨by rfl, rfl⟩) (by assumption) ?_
    try simp only [Act.put, List.setIfInBounds_toArray, List.set_cons_zero, List.set_cons_succ]
    refine wpAnyH_take (i := 17) (oi := ({ dst := some 48, op := Op.call { callee := Callee.value (Operand.func 126), args := #[Operand.tmp 47], argTypes := #[3] }, type := 3, pos := "ref.go:30", after := #[{ on := 16, ground := Ground.data }, { on := 16, ground := Ground.chain }, { on := 12, ground := Ground.guard }], guard := some (12, true) } : Oper)) rfl (by kernel_rfl) (by kernel_rfl) (by kernel_rfl) (fun _ _ _ h => h) (Or.inr ⟨by rfl, rfl⟩) (by assumption) ?_
    try simp only [Act.put, List.setIfInBounds_toArray, List.set_cons_zero, List.set_cons_succ]
    refine wpAnyH_take (i := 21) (oi := ({ dst := some 52, op := Op.call { callee := Callee.value (Operand.func 41), args := #[Operand.tmp 49, Operand.tmp 50, Operand.tmp 51], argTypes := #[30, 30, 30] }, type := 3, pos := "ref.go:30", after := #[{ on := 18, ground := Ground.data }, { on := 19, ground := Ground.data }, { on := 20, ground := Ground.data }, { on := 17, ground := Ground.chain }, { on := 12, ground := Ground.guard }], guard := some (12, true) } : Oper)) rfl (by kernel_rfl) (by kernel_rfl) (by kernel_rfl) (fun _ _ _ h => h) (Or.inr ⟨by rfl, rfl⟩) (by assumption) ?_
    try simp only [Act.put, List.setIfInBounds_toArray, List.set_cons_zero, List.set_cons_succ]
    refine wpAnyH_take (i := 22) (oi := ({ dst := some 53, op := Op.call { callee := Callee.value (Operand.func 126), args := #[Operand.tmp 52], argTypes := #[3] }, type := 3, pos := "ref.go:30", after := #[{ on := 21, ground := Ground.data }, { on := 21, ground := Ground.chain }, { on := 12, ground := Ground.guard }], guard := some (12, true) } : Oper)) rfl (by kernel_rfl) (by kernel_rfl) (by kernel_rfl) (fun _ _ _ h => h) (Or.inr ⟨by rfl, rfl⟩) (by assumption) ?_
    try simp only [Act.put, List.setIfInBounds_toArray, List.set_cons_zero, List.set_cons_succ]
    refine wpAnyH_take (i := 23) (oi := ({ dst := some 54, op := Op.binOp BinOp.mul 3 (Operand.tmp 48) (Operand.tmp 53) 3, type := 3, pos := "ref.go:30", after := #[{ on := 17, ground := Ground.data }, { on := 22, ground := Ground.data }, { on := 12, ground := Ground.guard }], guard := some (12, true) } : Oper)) rfl (by kernel_rfl) (by kernel_rfl) (by kernel_rfl) (fun _ _ _ h => h) (Or.inr ⟨by rfl, rfl⟩) (by assumption) ?_
    try simp only [Act.put, List.setIfInBounds_toArray, List.set_cons_zero, List.set_cons_succ]
    refine wpAnyH_take (i := 24) (oi := ({ dst := some 55, op := Op.binOp BinOp.lss 3 (Operand.tmp 54) (Operand.const (Value.int IntKind.i64 0)) 3, type := 4, pos := "ref.go:30", after := #[{ on := 23, ground := Ground.data }, { on := 12, ground := Ground.guard }], guard := some (12, true) } : Oper)) rfl (by kernel_rfl) (by kernel_rfl) (by kernel_rfl) (fun _ _ _ h => h) (Or.inr ⟨by rfl, rfl⟩) (by assumption) ?_
    try simp only [Act.put, List.setIfInBounds_toArray, List.set_cons_zero, List.set_cons_succ]
    refine wpAnyH_take (i := 25) (oi := ({ dst := some 56, op := Op.pick (Operand.tmp 43) (Operand.tmp 55) (Operand.const (Value.bool false)), type := 4, pos := "ref.go:30", after := #[{ on := 12, ground := Ground.data }, { on := 24, ground := Ground.data }], guard := none } : Oper)) (v := ?v25) rfl (by kernel_rfl) (by kernel_rfl) (by kernel_rfl) (fun _ _ _ h => h) (Or.inl ⟨by rfl, ?hy25⟩) (by assumption) ?rest25
    case hy25 => intro w0 hSw; (try dsimp only at hSw); go_simp; try with_reducible rfl
    try simp only [Act.put, List.setIfInBounds_toArray, List.set_cons_zero, List.set_cons_succ]
    refine wpAnyH_take (i := 26) (oi := ({ dst := some 8, op := Op.assign (Operand.tmp 56), type := 4, pos := "ref.go:30", after := #[{ on := 25, ground := Ground.data }, { on := 22, ground := Ground.chain }, { on := 0, ground := Ground.phase }, { on := 1, ground := Ground.phase }, { on := 2, ground := Ground.phase }, { on := 3, ground := Ground.phase }, { on := 4, ground := Ground.phase }, { on := 5, ground := Ground.phase }, { on := 6, ground := Ground.phase }, { on := 7, ground := Ground.phase }, { on := 8, ground := Ground.phase }, { on := 9, ground := Ground.phase }, { on := 10, ground := Ground.phase }, { on := 11, ground := Ground.phase }, { on := 12, ground := Ground.phase }, { on := 13, ground := Ground.phase }, { on := 14, ground := Ground.phase }, { on := 15, ground := Ground.phase }, { on := 16, ground := Ground.phase }, { on := 17, ground := Ground.phase }, { on := 18, ground := Ground.phase }, { on := 19, ground := Ground.phase }, { on := 20, ground := Ground.phase }, { on := 21, ground := Ground.phase }, { on := 22, ground := Ground.phase }, { on := 23, ground := Ground.phase }, { on := 24, ground := Ground.phase }, { on := 25, ground := Ground.phase }], guard := none } : Oper)) (v := ?v26) rfl (by kernel_rfl) (by kernel_rfl) (by kernel_rfl) (fun _ _ _ h => h) (Or.inl ⟨by rfl, ?hy26⟩) (by assumption) ?rest26
    case hy26 => intro w0 hSw; (try dsimp only at hSw); go_simp; try with_reducible rfl
    try simp only [Act.put, List.setIfInBounds_toArray, List.set_cons_zero, List.set_cons_succ]
    refine wpAnyH_done (by kernel_rfl) ?_ _
    refine NoPanic.normal ?_
    go_split_ands
    go_wp2
    go_ret
    exact ⟨ret_bool (by simp [meetZ, *]), by assumption⟩
end Go.Proofs.Ytfgeengdmbabhaa

namespace Go.Proofs.Ytfgeengdmbabhaa
open Go.RowKit
attribute [local go_sem ↓] Go.wp_at_zero Go.wp_at_succ

/-- two new boxes that hold two spots -/
def TwoAt (w : World) (a b : Z2) (u v : Value) (wx : World) : Prop :=
  ∃ ga gb : Nat, u = .pointer (some ⟨ga, 0, none⟩) ∧ v = .pointer (some ⟨gb, 0, none⟩) ∧ w.heap.size ≤ ga ∧ w.heap.size ≤ gb ∧ ga ≠ gb ∧ Blk wx ga 30 #[iv a.x, iv a.y] ∧ Blk wx gb 30 #[iv b.x, iv b.y] ∧ Below w.heap.size w wx
theorem TwoAt.new (w : World) (a b : Z2) : TwoAt w a b (.pointer (some ⟨w.heap.size, 0, none⟩)) (.pointer (some ⟨w.heap.size + 1, 0, none⟩)) ((w.alloc (.cells #[iv a.x, iv a.y] 30)).alloc (.cells #[iv b.x, iv b.y] 30)).drew := by
  have F := two_new w 30 #[iv a.x, iv a.y] #[iv b.x, iv b.y]
  exact ⟨_, _, rfl, rfl, by omega, by omega, by omega, F.1, F.2.1, F.2.2.drew⟩
theorem TwoAt.new' (w : World) (a b : Z2) : TwoAt w a b (.pointer (some ⟨w.heap.size + 1, 0, none⟩)) (.pointer (some ⟨w.heap.size, 0, none⟩)) ((w.alloc (.cells #[iv b.x, iv b.y] 30)).alloc (.cells #[iv a.x, iv a.y] 30)).drew := by
  have F := two_new w 30 #[iv b.x, iv b.y] #[iv a.x, iv a.y]
  exact ⟨_, _, rfl, rfl, by omega, by omega, by omega, F.2.1, F.1, F.2.2.drew⟩

def row2Z (ps : List Z2) (i : Nat) : Bool := !eqZ (pt ps i) (pt ps ((i + 1) % ps.length)) && !onZ (pt ps i) (pt ps ((i + 1) % ps.length)) (pt ps ((i + 2) % ps.length)) && !onZ (pt ps ((i + 1) % ps.length)) (pt ps ((i + 2) % ps.length)) (pt ps i) && (List.range ps.length).all (stepZ ps i)
def simple2Z (ps : List Z2) : Bool := (List.range ps.length).all (row2Z ps)
theorem simple2Z_row {ps : List Z2} {k : Nat} (hk : k < ps.length) (h : row2Z ps k = false) : simple2Z ps = false := by
  cases hs : simple2Z ps with
  | false => rfl
  | true =>
    unfold simple2Z at hs
    rw [List.all_eq_true] at hs
    have := hs k (by simpa using hk)
    rw [h] at this; cases this
theorem row2Z_step {ps : List Z2} {i k : Nat} (hk : k < ps.length) (h : stepZ ps i k = false) : row2Z ps i = false := by
  cases hs : row2Z ps i with
  | false => rfl
  | true =>
    unfold row2Z at hs
    rw [Bool.and_eq_true, List.all_eq_true] at hs
    have := hs.2 k (by simpa using hk)
    rw [h] at this; cases this
def head2Z (ps : List Z2) (i : Nat) : Bool := eqZ (pt ps i) (pt ps ((i + 1) % ps.length)) || onZ (pt ps i) (pt ps ((i + 1) % ps.length)) (pt ps ((i + 2) % ps.length)) || onZ (pt ps ((i + 1) % ps.length)) (pt ps ((i + 2) % ps.length)) (pt ps i)
theorem row2Z_head {ps : List Z2} {i : Nat} (h : head2Z ps i = true) : row2Z ps i = false := by
  unfold head2Z at h
  unfold row2Z
  generalize eqZ _ _ = x at *
  generalize onZ (pt ps i) _ _ = y at *
  generalize onZ (pt ps ((i + 1) % ps.length)) _ _ = z at *
  cases x <;> cases y <;> cases z <;> simp_all
theorem row2Z_ok {ps : List Z2} {k : Nat} (h : head2Z ps k = false) (hs : ∀ m, m < ps.length → stepZ ps k m = true) : row2Z ps k = true := by
  have e : (List.range ps.length).all (stepZ ps k) = true := by rw [List.all_eq_true]; exact fun m hm => hs m (by simpa using hm)
  unfold head2Z at h
  unfold row2Z
  rw [e]
  generalize eqZ _ _ = x at *
  generalize onZ (pt ps k) _ _ = y at *
  generalize onZ (pt ps ((k + 1) % ps.length)) _ _ = z at *
  cases x <;> cases y <;> cases z <;> simp_all
theorem simple2Z_ok {ps : List Z2} (h : ∀ j, j < ps.length → row2Z ps j = true) : simple2Z ps = true := by
  unfold simple2Z
  rw [List.all_eq_true]
  exact fun j hj => h j (by simpa using hj)

set_option maxHeartbeats 2000000 in
/-- garmentref11.simple -/
theorem simple85 (A : Option Addr) (c : Nat) (ps : List Z2) (w : World) (hsp : Sp w A ps) (hn : ps.length ≤ 1000000000) (hbd : ∀ p ∈ ps, Bd p) :
    Calls Try.prog 85 #[.slice A ps.length c] w (SomeBool (· = simple2Z ps) w) := by
  have HS := Lib.hid hsp; clear hsp
  have HD := Lib.hid hbd; clear hbd
  go_enter Try.func85, Try.ntmps85
  go_wp2
  go_loopw [4] (fun i wr2 => ∃ k : Nat, k ≤ ps.length ∧ i = .int .i64 k ∧ (∀ j, j < k → row2Z ps j = true) ∧ Below w.heap.size w wr2) (fun i _ => ps.length - (intOf i).toNat)
  case atStart => exact ⟨0, Nat.zero_le _, rfl, fun j hj => absurd hj (by omega), Below.refl _ _⟩
  case round =>
    obtain ⟨k, hk, rfl, hno, hB⟩ := hrel
    have HR := Lib.hid hno
    clear hno
    by_cases hlt : k < ps.length
    · have hne : ps ≠ [] := by intro h; simp [h] at hlt
      obtain ⟨b, off, rfl, hc⟩ := HS.out.later hB hne
      have hp : 0 < ps.length := by omega
      have l1 : (k + 1) % ps.length < ps.length := Nat.mod_lt _ hp
      have l2 : (k + 2) % ps.length < ps.length := Nat.mod_lt _ hp
      obtain ⟨g1, g2⟩ := hc k hlt
      obtain ⟨g3, g4⟩ := hc _ l1
      obtain ⟨g5, g6⟩ := hc _ l2
      have m1 := mod_one k ps.length
      have m2 := mod_two k ps.length
      generalize e1 : (k + 1) % ps.length = k1 at *
      generalize e2 : (k + 2) % ps.length = k2 at *
      have E1 := Lib.hid e1
      have E2 := Lib.hid e2
      have HC := Lib.hid hc
      clear hc e1 e2
      have nb : b < wr.heap.size := World.block_lt_of_cell? _ _ g1
      have nb2 : b ≠ wr.heap.size := by omega
      have nb3 : b ≠ wr.heap.size + 1 := by omega
      have q1 : (0 : Int) ≤ (k1 : Int) := by omega
      have q2 : (k1 : Int) < (ps.length : Int) := by omega
      have q3 : ((ps.length : Int) == 0) = false := beq_eq_false_iff_ne.2 (by omega)
      have q4 : ¬ ((ps.length : Int) = 0) := by omega
      have t1 : ((k : Int) + 1).tmod (ps.length : Int) = (k1 : Int) := by rw [Int.tmod_eq_emod_of_nonneg (by omega)]; exact m1
      have s1 : IntKind.i64.wrap ((k : Int) + 1) = (k : Int) + 1 := IntWalk.i64_in _ (by omega)
      go_upto_region 5 with fail
      go_cut [5, 6] (fun u v wx => TwoAt wr (pt ps k) (pt ps k1) u v wx)
      case first =>
        go_region
        · go_wp2_with fail
          go_meet
          exact TwoAt.new _ _ _
        · go_wp2_with fail
          go_meet
          exact TwoAt.new' _ _ _
      case rest =>
        obtain ⟨ga, gb, rfl, rfl, na, ngb, nab, Ba, Bb, hbx⟩ := hcut
        clear g1 g2 g3 g4 nb nb2 nb3 t1 s1 m1
        have hBx := hB.trans (hbx.mono hB.size)
        replace g5 := cell_later hbx g5
        replace g6 := cell_later hbx g6
        have f1 := Ba.cell 0; have f2 := Ba.cell 1; have f3 := Bb.cell 0; have f4 := Bb.cell 1
        simp at f1 f2 f3 f4
        clear Ba Bb hbx
        have nb : b < wc.heap.size := World.block_lt_of_cell? _ _ g5
        have nb2 : b ≠ wc.heap.size := by omega
        have q5 : (0 : Int) ≤ (k2 : Int) := by omega
        have q6 : (k2 : Int) < (ps.length : Int) := by omega
        go_upto_region 7 with fail
        have F := boxes1 wc (pt ps k2)
        revert F
        generalize wc.alloc (.cells #[iv (pt ps k2).x, iv (pt ps k2).y] 30) = W
        rintro ⟨hW, f5, f6⟩
        replace hBx := hBx.trans (hW.mono hBx.size)
        replace f1 := cell_later hW f1
        replace f2 := cell_later hW f2
        replace f3 := cell_later hW f3
        replace f4 := cell_later hW f4
        clear hW nb nb2 g5 g6 q5 q6
        generalize wc.heap.size = gc at *
        cases hz : eqZ (pt ps k) (pt ps k1)
        case true =>
          have he : ∀ w, (binOp .eql 30 (sv (pt ps k)) (sv (pt ps k1))).run Try.prog w = .ok (.bool true) w := fun w => by rw [eql30, hz]
          have HZ := Lib.hid hz
          clear hz
          go_wp2_with fail
          go_ret
          refine ⟨false, rfl, (simple2Z_row hlt (row2Z_head ?_)).symm, hBx⟩
          unfold head2Z
          rw [E1.out, HZ.out]; rfl
        case false =>
          have he : ∀ w, (binOp .eql 30 (sv (pt ps k)) (sv (pt ps k1))).run Try.prog w = .ok (.bool false) w := fun w => by rw [eql30, hz]
          have HZ := Lib.hid hz
          clear hz
          cases ho1 : onZ (pt ps k) (pt ps k1) (pt ps k2)
          case true =>
            have HO := Lib.hid ho1
            go_wp2_with (first | (go_at_call 111; refine (between111 _ _ _ _ ?_ ?_ ?_).mono ?_; (exact bd_pt HD.out _); (exact bd_pt HD.out _); (exact bd_pt HD.out _); rintro e w' ⟨rfl, hbq⟩; replace hBx := hBx.trans (hbq.mono hBx.size); replace f1 := cell_later hbq f1; replace f2 := cell_later hbq f2; replace f3 := cell_later hbq f3; replace f4 := cell_later hbq f4; replace f5 := cell_later hbq f5; replace f6 := cell_later hbq f6; clear hbq))
            go_ret
            refine ⟨false, rfl, (simple2Z_row hlt (row2Z_head ?_)).symm, hBx⟩
            unfold head2Z
            rw [E1.out, E2.out, HZ.out, HO.out]; rfl
          case false =>
            cases ho2 : onZ (pt ps k1) (pt ps k2) (pt ps k)
            case true =>
              have HO := Lib.hid (And.intro ho1 ho2)
              go_wp2_with (first | (go_at_call 111; refine (between111 _ _ _ _ ?_ ?_ ?_).mono ?_; (exact bd_pt HD.out _); (exact bd_pt HD.out _); (exact bd_pt HD.out _); rintro e w' ⟨rfl, hbq⟩; replace hBx := hBx.trans (hbq.mono hBx.size); replace f1 := cell_later hbq f1; replace f2 := cell_later hbq f2; replace f3 := cell_later hbq f3; replace f4 := cell_later hbq f4; replace f5 := cell_later hbq f5; replace f6 := cell_later hbq f6; clear hbq))
              go_ret
              refine ⟨false, rfl, (simple2Z_row hlt (row2Z_head ?_)).symm, hBx⟩
              unfold head2Z
              rw [E1.out, E2.out, HZ.out, HO.out.1, HO.out.2]; rfl
            case false =>
              have HH := Lib.hid (show head2Z ps k = false by unfold head2Z; rw [E1.out, E2.out, HZ.out, ho1, ho2]; rfl)
              go_wp2_with (first | (go_at_call 111; refine (between111 _ _ _ _ ?_ ?_ ?_).mono ?_; (exact bd_pt HD.out _); (exact bd_pt HD.out _); (exact bd_pt HD.out _); rintro e w' ⟨rfl, hbq⟩; replace hBx := hBx.trans (hbq.mono hBx.size); replace f1 := cell_later hbq f1; replace f2 := cell_later hbq f2; replace f3 := cell_later hbq f3; replace f4 := cell_later hbq f4; replace f5 := cell_later hbq f5; replace f6 := cell_later hbq f6; clear hbq))
              clear ho1 ho2 HZ he
              go_loopw [8] (fun v wr3 => ∃ j : Nat, k + 2 ≤ j ∧ v = .int .i64 j ∧ j ≤ ps.length + 2 ∧ (∀ m, m < j → m < ps.length → stepZ ps k m = true) ∧ Below w.heap.size w wr3 ∧ wr3.cell? ⟨ga, 0, none⟩ = some (iv (pt ps k).x) ∧ wr3.cell? ⟨ga, 1, none⟩ = some (iv (pt ps k).y) ∧ wr3.cell? ⟨gb, 0, none⟩ = some (iv (pt ps k1).x) ∧ wr3.cell? ⟨gb, 1, none⟩ = some (iv (pt ps k1).y)) (fun v _ => ps.length - (intOf v).toNat)
              case atStart => exact ⟨k + 2, Nat.le_refl _, by go_num, by omega, fun m hm _ => stepZ_low hm, by assumption, by assumption, by assumption, by assumption, by assumption⟩
              case round =>
                clear hBx f1 f2 f3 f4 f5 f6
                obtain ⟨j, hj, rfl, hj2, hst, hB3, f1', f2', f3', f4'⟩ := hrel
                have HT := Lib.hid hst
                clear hst
                by_cases hjn : j < ps.length
                · obtain ⟨_, _, hA, hc⟩ := HS.out.later hB3 hne
                  injection hA with hA
                  injection hA with hA1 hA2
                  subst hA1 hA2
                  have l3 : (j + 1) % ps.length < ps.length := Nat.mod_lt _ hp
                  obtain ⟨g7, g8⟩ := hc j hjn
                  obtain ⟨g9, g10⟩ := hc _ l3
                  have m3 := mod_one j ps.length
                  generalize e3 : (j + 1) % ps.length = j1 at *
                  have E3 := Lib.hid e3
                  clear hc e3
                  have t3 : ((j : Int) + 1).tmod (ps.length : Int) = (j1 : Int) := by rw [Int.tmod_eq_emod_of_nonneg (by omega)]; exact m3
                  have s3 : IntKind.i64.wrap ((j : Int) + 1) = (j : Int) + 1 := IntWalk.i64_in _ (by omega)
                  by_cases hjk : j1 = k
                  · have hd : ((j1 : Int) != (k : Int)) = false := by simp [hjk]
                    have HJ := Lib.hid hjk
                    clear hjk
                    go_wp2_with fail
                    go_quiet (fail)
                    clear t3 s3
                    go_wp2
                    go_roundw
                    case rel =>
                      refine ⟨j + 1, by omega, by go_num, by omega, fun m hm hmn => ?_, bdN hB3 _, f1', f2', f3', f4'⟩
                      by_cases e : m = j
                      · subst e; exact stepZ_wrap (E3.out.trans HJ.out)
                      · exact HT.out m (by omega) hmn
                    case measure => simp [intOf]; omega
                  · have hd : ((j1 : Int) != (k : Int)) = true := by simp; omega
                    have HJ := Lib.hid hjk
                    clear hjk
                    have q5 : (0 : Int) ≤ (j1 : Int) := by omega
                    have q6 : (j1 : Int) < (ps.length : Int) := by omega
                    go_wp2_with fail
                    go_region_held3 (fun w' => Below w.heap.size w w' ∧ w'.cell? ⟨ga, 0, none⟩ = some (iv (pt ps k).x) ∧ w'.cell? ⟨ga, 1, none⟩ = some (iv (pt ps k).y) ∧ w'.cell? ⟨gb, 0, none⟩ = some (iv (pt ps k1).x) ∧ w'.cell? ⟨gb, 1, none⟩ = some (iv (pt ps k1).y)
                        ∧ w'.cell? ⟨b, off + j * 2, none⟩ = some (iv (pt ps j).x) ∧ w'.cell? ⟨b, off + j * 2 + 1, none⟩ = some (iv (pt ps j).y) ∧ w'.cell? ⟨b, off + j1 * 2, none⟩ = some (iv (pt ps j1).x) ∧ w'.cell? ⟨b, off + j1 * 2 + 1, none⟩ = some (iv (pt ps j1).y))
                      (first | exact ⟨hB3.drew, f1', f2', f3', f4', g7, g8, g9, g10⟩ | assumption | (go_split_ands; refine ⟨below_trans (by assumption) hbq, ?_, ?_, ?_, ?_, ?_, ?_, ?_, ?_⟩ <;> exact cell_later hbq (by assumption)))
                      (first | (go_at_call 116; refine (meet116 (pt ps k) (pt ps k1) (pt ps j) (pt ps j1) _ (bd_pt HD.out _) (bd_pt HD.out _) (bd_pt HD.out _) (bd_pt HD.out _)).mono ?_; rintro e w' ⟨rfl, hbq⟩))
                    go_split_ands
                    clear t3 s3
                    cases hm : meetZ (pt ps k) (pt ps k1) (pt ps j) (pt ps j1)
                    case true =>
                      have HM := Lib.hid hm
                      clear hm
                      go_wp2
                      go_ret
                      refine ⟨false, rfl, (simple2Z_row hlt (row2Z_step hjn (stepZ_no hj ?_ ?_))).symm, by assumption⟩
                      · rw [E3.out]; exact HJ.out
                      · rw [E1.out, E3.out]; exact HM.out
                    case false =>
                      have HM := Lib.hid hm
                      clear hm
                      go_wp2
                      go_roundw
                      case rel =>
                        refine ⟨j + 1, by omega, by go_num, by omega, fun m hm hmn => ?_, by assumption, by assumption, by assumption, by assumption, by assumption⟩
                        by_cases e : m = j
                        · subst e; exact stepZ_yes (by rw [E1.out, E3.out]; exact HM.out)
                        · exact HT.out m (by omega) hmn
                      case measure => simp [intOf]; omega
                · go_wp2
                  go_roundw
                  case rel =>
                    refine ⟨k + 1, by omega, by go_num, fun i hi => ?_, hB3⟩
                    by_cases e : i = k
                    · subst e
                      exact row2Z_ok HH.out fun m hm => HT.out m (by omega) hm
                    · exact HR.out i (by omega)
                  case measure => simp [intOf]; omega
    · obtain rfl : k = ps.length := by omega
      go_wp2
      go_ret
      exact ⟨true, rfl, (simple2Z_ok HR.out).symm, hB⟩
end Go.Proofs.Ytfgeengdmbabhaa

/- Both tests for simple polygons say the same. -/
namespace Go.Proofs.Ytfgeengdmbabhaa
open Geo (Pt cr On Simple edges mem_edges)

theorem simpleIdx_of_2Z {ps : List Z2} (_h3 : 3 ≤ ps.length) (h : simple2Z ps = true) : SimpleIdx ps := by
  unfold simple2Z at h
  rw [List.all_eq_true] at h
  have hrow : ∀ i, i < ps.length → row2Z ps i = true := fun i hi => h i (by simpa using hi)
  have hadj : ∀ i, i < ps.length → pt ps i ≠ pt ps ((i + 1) % ps.length) := fun i hi e => by
    have := hrow i hi
    unfold row2Z at this
    simp only [Bool.and_eq_true, Bool.not_eq_true'] at this
    have := this.1.1.1
    simp [eqZ, e] at this
  have hap : ∀ i k, i + 2 ≤ k → k < ps.length → (k + 1) % ps.length ≠ i → ¬ ∃ p, On (toPt (pt ps i)) (toPt (nx ps i)) p ∧ On (toPt (pt ps k)) (toPt (nx ps k)) p := by
    intro i k hik hk hne
    have := hrow i (by omega)
    unfold row2Z at this
    rw [Bool.and_eq_true, List.all_eq_true] at this
    have hs := this.2 k (by simpa using hk)
    unfold stepZ at hs
    simp only [Bool.or_eq_true, decide_eq_true_eq, Bool.not_eq_true'] at hs
    rcases hs with (hs | hs) | hs
    · omega
    · exact absurd hs hne
    · rw [← meetZ_iff]
      unfold nx
      rw [hs]; simp
  have hnd : ps.Nodup := nodup_of_pt fun i j hij hj he => by
    by_cases c1 : j = i + 1
    · subst c1
      have := hadj i (by omega)
      rw [Nat.mod_eq_of_lt hj] at this
      exact this he
    by_cases c2 : (j + 1) % ps.length = i
    · have := hadj j hj
      rw [c2] at this
      exact this he.symm
    · exact hap i j (by omega) hj c2 ⟨toPt (pt ps i), Geo.on_left _ _, by rw [he]; exact Geo.on_left _ _⟩
  refine ⟨hnd, fun i hi => ?_, hap⟩
  have := hrow i hi
  unfold row2Z at this
  simp only [Bool.and_eq_true, Bool.not_eq_true'] at this
  constructor
  · rw [← onZ_iff]
    have h2 := this.1.1.2
    unfold nx
    rw [h2]; simp
  · rw [← onZ_iff]
    have h2 := this.1.2
    unfold nx
    rw [h2]; simp
theorem simple2Z_eq {ps : List Z2} (h3 : 3 ≤ ps.length) : simple2Z ps = simpleZ ps := by
  rw [Bool.eq_iff_iff, simpleZ_iff h3]
  constructor
  · intro h; exact (simpleIdx_of_2Z h3 h).simple h3
  · intro h
    have hs := SimpleIdx.of_simple h3 h
    have hnd := hs.nodup
    refine simple2Z_ok fun i hi => row2Z_ok ?_ fun k hk => ?_
    · have l1 : (i + 1) % ps.length < ps.length := Nat.mod_lt _ (by omega)
      have n3 := mod_succ_ne hi (by omega)
      obtain ⟨f1, f2⟩ := hs.fold i hi
      rw [← onZ_iff] at f1 f2
      unfold nx at f1 f2
      have e : eqZ (pt ps i) (pt ps ((i + 1) % ps.length)) = false := by
        simp only [eqZ, decide_eq_false_iff_not]
        intro e
        exact n3 (pt_inj hnd l1 hi e.symm)
      unfold head2Z
      rw [e]
      simp only [Bool.not_eq_true] at f1 f2
      rw [f1, f2]; rfl
    · by_cases c1 : k < i + 2
      · exact stepZ_low c1
      by_cases c2 : (k + 1) % ps.length = i
      · exact stepZ_wrap c2
      · have := hs.apart i k (by omega) hk c2
        rw [← meetZ_iff] at this
        exact stepZ_yes (by simpa [nx] using this)
end Go.Proofs.Ytfgeengdmbabhaa

namespace Go.Proofs.Ytfgeengdmbabhaa
open Go.RowKit
attribute [local go_sem ↓] Go.wp_at_zero Go.wp_at_succ

set_option maxHeartbeats 400000 in
/-- garmentref11.Check -/
theorem check46 (A : Option Addr) (n c : Nat) (ps : List Z2) (w : World) (hl : ps.length = n) (hsp : Sp w A ps) :
    Calls Try.prog 46 #[.slice A n c] w fun e w' => e = .returned (iv (chkZ ps)) ∧ Below w.heap.size w w' := by
  subst hl
  have HS := Lib.hid hsp; clear hsp
  by_cases h1 : 40 < ps.length
  · have HE := Lib.hid (show chkZ ps = 5 by simp [chkZ, h1])
    go_enter Try.func46, Try.ntmps46
    go_wp2
    go_ret
    exact ⟨ret_int HE.out.symm, Below.refl _ _⟩
  by_cases h2 : ps.length < 3
  · have HE := Lib.hid (show chkZ ps = 11 by simp [chkZ, h1, h2])
    go_enter Try.func46, Try.ntmps46
    go_wp2
    go_ret
    exact ⟨ret_int HE.out.symm, Below.refl _ _⟩
  go_enter Try.func46, Try.ntmps46
  go_wp2
  go_loopw [3] (fun i wr => ∃ k : Nat, k ≤ ps.length ∧ i = .int .i64 k ∧ (∀ j, j < k → outZ (pt ps j) = false) ∧ Below w.heap.size w wr) (fun i _ => ps.length - (intOf i).toNat)
  case atStart => exact ⟨0, Nat.zero_le _, rfl, fun j hj => absurd hj (by omega), Below.refl _ _⟩
  case round =>
    obtain ⟨k, hk, rfl, hno, hB⟩ := hrel
    have HN := Lib.hid hno
    clear hno
    by_cases hlt : k < ps.length
    · have hne : ps ≠ [] := by intro h; simp [h] at hlt
      obtain ⟨b, off, rfl, hc⟩ := HS.out.later hB hne
      obtain ⟨g1, g2⟩ := hc k hlt
      clear hc
      cases ho : outZ (pt ps k)
      case true =>
        have HE := Lib.hid (show chkZ ps = 3 by
          have : ps.any outZ = true := List.any_eq_true.2 ⟨_, pt_mem hlt, ho⟩
          unfold chkZ; rw [if_neg h1, if_neg h2, this]; rfl)
        have hd : (!outZ (pt ps k)) = false := by rw [ho]; rfl
        clear ho
        go_wp2_with fail
        refine (within43 (pt ps k) _).mono ?_
        rintro e w1 ⟨rfl, hb1⟩
        rw [hd]
        go_wp2
        go_ret
        exact ⟨ret_int HE.out.symm, hB.trans (hb1.mono hB.size)⟩
      case false =>
        have hd : (!outZ (pt ps k)) = true := by rw [ho]; rfl
        have HO := Lib.hid ho
        clear ho
        go_wp2_with fail
        refine (within43 (pt ps k) _).mono ?_
        rintro e w1 ⟨rfl, hb1⟩
        rw [hd]
        go_wp2
        go_roundw
        case rel =>
          refine ⟨k + 1, by omega, by go_num, fun j hj => ?_, hB.trans (hb1.mono hB.size)⟩
          by_cases e : j = k
          · subst e; exact HO.out
          · exact HN.out j (by omega)
        case measure => simp [intOf]; omega
    · obtain rfl : k = ps.length := by omega
      have h3 : ps.any outZ = false := List.any_eq_false.2 fun x hx => by
        obtain ⟨j, hj, rfl⟩ := List.getElem_of_mem hx
        have := HN.out j hj
        rw [pt_eq hj] at this
        simp [this]
      have HE := Lib.hid (show chkZ ps = if simple2Z ps then 0 else 11 by unfold chkZ; rw [if_neg h1, if_neg h2, h3, simple2Z_eq (by omega)]; rfl)
      have HD := Lib.hid (bd_of_in h3)
      clear h3
      go_wp2_with fail
      refine (simple85 A c ps _ (HS.out.later hB) (by omega) HD.out).mono ?_
      rintro e w2 ⟨b, rfl, hb, hb2⟩
      have HB := Lib.hid hb
      clear hb
      cases b
      all_goals
        go_wp2
        go_ret
        exact ⟨ret_int (by rw [HE.out, ← HB.out]; rfl), hB.trans (hb2.mono hB.size)⟩

theorem parTo_pm (ps : List Z2) (q : Z2) (k : Nat) : parTo ps q k = 1 ∨ parTo ps q k = -1 := by
  induction k with
  | zero => simp [parTo]
  | succ k ih => simp only [parTo]; split <;> omega
def insTo (ps : List Z2) (q : Z2) (k : Nat) : Bool := decide (parTo ps q k = 1)
theorem insTo_succ (ps : List Z2) (q : Z2) (k : Nat) : insTo ps q (k + 1) = if crossesZ (pt ps k) (pt ps ((k + 1) % ps.length)) q then !insTo ps q k else insTo ps q k := by
  unfold insTo
  rw [parTo_succ]
  rcases parTo_pm ps q k with h | h <;> rw [h] <;> cases crossesZ (pt ps k) (pt ps ((k + 1) % ps.length)) q <;> rfl

set_option maxHeartbeats 4000000 in
/-- garmentref11.Place -/
theorem place82 (A : Option Addr) (n c : Nat) (ps : List Z2) (q : Z2) (w : World) (hl : ps.length = n) (hsp : Sp w A ps) (hn : n ≤ 100000) (hbd : ∀ p ∈ ps, Bd p) :
    Calls Try.prog 82 #[.slice A n c, sv q] w fun e w' => e = .returned (iv (placeZ ps q)) ∧ Below w.heap.size w w' := by
  subst hl
  have HS := Lib.hid hsp; clear hsp
  have HD := Lib.hid hbd; clear hbd
  go_enter Try.func82, Try.ntmps82
  go_wp2_with fail
  have F := boxes1 w q
  revert F
  generalize w.alloc (.cells #[iv q.x, iv q.y] 30) = W
  rintro ⟨hW, f1, f2⟩
  refine (within43 q _).mono ?_
  rintro e w1 ⟨rfl, hb1⟩
  replace f1 := cell_later hb1 f1
  replace f2 := cell_later hb1 f2
  have hB1 := below_trans hW hb1
  clear hb1 hW W
  cases ho : outZ q
  case true =>
    have HO := Lib.hid ho
    clear ho
    simp only [Bool.not_true]
    go_wp2
    go_ret
    refine ⟨ret_int ?_, hB1⟩
    unfold placeZ
    rw [HO.out]; rfl
  case false =>
    have HO := Lib.hid ho
    have HQ := Lib.hid (bd_of_out ho)
    clear ho
    simp only [Bool.not_false]
    go_wp2
    go_loopw [5, 6] (fun v i wr => ∃ k : Nat, k ≤ ps.length ∧ i = .int .i64 k ∧ v = .bool (insTo ps q k) ∧ (∀ j, j < k → onZ (pt ps j) (nx ps j) q = false) ∧ Below w.heap.size w wr ∧ wr.cell? ⟨w.heap.size, 0, none⟩ = some (iv q.x) ∧ wr.cell? ⟨w.heap.size, 1, none⟩ = some (iv q.y)) (fun _ i _ => ps.length - (intOf i).toNat)
    case atStart => exact ⟨0, Nat.zero_le _, rfl, rfl, fun j hj => absurd hj (by omega), hB1, f1, f2⟩
    case round =>
      clear f1 f2 hB1
      obtain ⟨k, hk, rfl, rfl, hno, hB, f1, f2⟩ := hrel
      have HN := Lib.hid hno
      clear hno
      by_cases hlt : k < ps.length
      · have hne : ps ≠ [] := by intro h; simp [h] at hlt
        have hp : 0 < ps.length := by omega
        obtain ⟨b, off, rfl, hc⟩ := HS.out.later hB hne
        have l1 : (k + 1) % ps.length < ps.length := Nat.mod_lt _ hp
        obtain ⟨g1, g2⟩ := hc k hlt
        obtain ⟨g3, g4⟩ := hc _ l1
        have m1 := mod_one k ps.length
        have HP := Lib.hid (insTo_succ ps q k)
        have HX := Lib.hid (show nx ps k = pt ps ((k + 1) % ps.length) from rfl)
        generalize e1 : (k + 1) % ps.length = k1 at *
        clear hc e1
        have nb : b < wr.heap.size := World.block_lt_of_cell? _ _ g1
        have nb2 : b ≠ wr.heap.size := by omega
        have nb3 : b ≠ wr.heap.size + 1 := by omega
        have q1 : (0 : Int) ≤ (k1 : Int) := by omega
        have q2 : (k1 : Int) < (ps.length : Int) := by omega
        have q3 : ((ps.length : Int) == 0) = false := beq_eq_false_iff_ne.2 (by omega)
        have q4 : ¬ ((ps.length : Int) = 0) := by omega
        have t1 : ((k : Int) + 1).tmod (ps.length : Int) = (k1 : Int) := by rw [Int.tmod_eq_emod_of_nonneg (by omega)]; exact m1
        have s1 : IntKind.i64.wrap ((k : Int) + 1) = (k : Int) + 1 := IntWalk.i64_in _ (by omega)
        go_upto_region 7 with fail
        go_cut [7, 8] (fun u v wx => TwoAt wr (pt ps k) (pt ps k1) u v wx)
        case first =>
          go_region
          · go_wp2_with fail
            go_meet
            exact TwoAt.new _ _ _
          · go_wp2_with fail
            go_meet
            exact TwoAt.new' _ _ _
        case rest =>
          obtain ⟨ga, gb, rfl, rfl, na, ngb, nab, Ba, Bb, hbx⟩ := hcut
          clear g1 g2 g3 g4 nb nb2 nb3 t1 s1 m1 q1 q2 q3 q4
          have hBx := hB.trans (hbx.mono hB.size)
          replace f1 := cell_later hbx f1
          replace f2 := cell_later hbx f2
          have f3 := Ba.cell 0; have f4 := Ba.cell 1; have f5 := Bb.cell 0; have f6 := Bb.cell 1
          simp at f3 f4 f5 f6
          clear Ba Bb hbx
          cases hon : onZ (pt ps k) (pt ps k1) q
          case true =>
            have HON := Lib.hid hon
            go_wp2_with (first | (go_at_call 111; refine (between111 _ _ _ _ ?_ ?_ ?_).mono ?_; (exact bd_pt HD.out _); (exact bd_pt HD.out _); (exact HQ.out); rintro e w' ⟨rfl, hbq⟩))
            go_ret
            refine ⟨ret_int ?_, hBx.trans (hbq.mono hBx.size)⟩
            have : onAny ps q = true := List.any_eq_true.2 ⟨k, by simpa using hlt, by simp only [HX.out]; exact HON.out⟩
            unfold placeZ
            rw [HO.out, this]
            rfl
          case false =>
            have HON := Lib.hid hon
            go_upto_region 8 with fail
            go_wp2_with (first | (go_at_call 111; refine (between111 _ _ _ _ ?_ ?_ ?_).mono ?_; (exact bd_pt HD.out _); (exact bd_pt HD.out _); (exact HQ.out); rintro e w' ⟨rfl, hbq⟩; replace hBx := hBx.trans (hbq.mono hBx.size); replace f1 := cell_later hbq f1; replace f2 := cell_later hbq f2; replace f3 := cell_later hbq f3; replace f4 := cell_later hbq f4; replace f5 := cell_later hbq f5; replace f6 := cell_later hbq f6; clear hbq) | (go_at_call 41; refine (cross41 _ _ _ _ ?_ ?_ ?_).mono ?_; (exact bd_pt HD.out _); (exact bd_pt HD.out _); (exact HQ.out); rintro e w' ⟨rfl, hbq⟩; replace hBx := hBx.trans (hbq.mono hBx.size); replace f1 := cell_later hbq f1; replace f2 := cell_later hbq f2; replace f3 := cell_later hbq f3; replace f4 := cell_later hbq f4; replace f5 := cell_later hbq f5; replace f6 := cell_later hbq f6; clear hbq))
            all_goals
              go_roundw
              case rel =>
                refine ⟨k + 1, by omega, by go_num, congrArg Value.bool ?_, fun j hj => ?_, hBx, f1, f2⟩
                · rw [HP.out]
                  first
                    | rw [if_pos ((cross_iff _ _ _).2 (by omega))]
                    | rw [if_neg (fun h => by have := (cross_iff _ _ _).1 h; omega)]
                · by_cases e : j = k
                  · subst e; rw [HX.out]; exact HON.out
                  · exact HN.out j (by omega)
              case measure => simp [intOf]; omega
      · obtain rfl : k = ps.length := by omega
        have hon : onAny ps q = false := List.any_eq_false.2 fun j hj => by
          have := HN.out j (by simpa using hj)
          simp [this]
        have HE := Lib.hid (show placeZ ps q = parTo ps q ps.length by unfold placeZ; rw [HO.out, hon]; rfl)
        clear hon
        have hpm := parTo_pm ps q ps.length
        cases hi : insTo ps q ps.length
        case true =>
          have HI := Lib.hid (show parTo ps q ps.length = 1 by simpa [insTo] using hi)
          clear hi hpm
          go_wp2
          go_ret
          exact ⟨ret_int (by rw [HE.out, HI.out]), hB⟩
        case false =>
          have HI := Lib.hid (show parTo ps q ps.length = -1 from hpm.resolve_left (by simpa [insTo] using hi))
          clear hi hpm
          go_wp2
          go_ret
          exact ⟨ret_int (by rw [HE.out, HI.out]), hB⟩

set_option maxHeartbeats 400000 in
/-- garmentref11.Where -/
theorem where36 (A : Option Addr) (n c : Nat) (ps : List Z2) (q : Z2) (w : World) (hl : ps.length = n) (hsp : Sp w A ps) :
    Calls Try.prog 36 #[.slice A n c, sv q] w fun e w' => e = .returned (.tuple #[iv (whereZ ps q), iv (chkZ ps)]) ∧ Below w.heap.size w w' := by
  have HS := Lib.hid hsp; clear hsp
  have HL := Lib.hid hl
  by_cases h0 : chkZ ps = 0
  · have H0 := Lib.hid h0
    obtain ⟨hl40, _, hD, _, _⟩ := chkZ_zero h0
    have HD := Lib.hid hD
    clear h0 hD
    go_enter Try.func36, Try.ntmps36
    go_wp2_with fail
    have F := boxes1 w q
    revert F
    generalize w.alloc (.cells #[iv q.x, iv q.y] 30) = W
    rintro ⟨hW, f1, f2⟩
    refine (check46 A n c ps _ HL.out (HS.out.later hW)).mono ?_
    rintro e w1 ⟨rfl, hb1⟩
    replace f1 := cell_later hb1 f1
    replace f2 := cell_later hb1 f2
    have hB1 := below_trans hW hb1
    clear hb1 hW W
    rw [H0.out]
    go_wp2_with fail
    refine (place82 A n c ps q _ HL.out (HS.out.later hB1) (by omega) HD.out).mono ?_
    rintro e w2 ⟨rfl, hb2⟩
    go_wp2
    go_ret2
    refine ⟨?_, below_trans hB1 hb2⟩
    rw [whereZ_pos H0.out, H0.out]
    rfl
  · have H0 := Lib.hid h0
    have hd : (chkZ ps != 0) = true := by simpa using h0
    clear h0
    go_enter Try.func36, Try.ntmps36
    go_wp2_with fail
    refine (check46 A n c ps _ HL.out (HS.out.later (below_alloc _ _))).mono ?_
    rintro e w1 ⟨rfl, hb1⟩
    go_wp2
    go_ret2
    refine ⟨?_, below_trans (below_alloc _ _) hb1⟩
    rw [whereZ_neg H0.out]
    rfl
set_option maxRecDepth 100000 in
set_option maxHeartbeats 1000000 in
/-- garmentlaw11.PolygonWheres -/
theorem lawWheres (A : Option Addr) (c : Nat) (ps : List Z2) (q : Z2) (w : World) (hsp : Sp w A ps) (hcap : ps.length ≤ c) :
    Calls Try.prog 4 #[.slice A ps.length c, sv q] w fun e w' => e = .returned (.bool true) ∧ Below w.heap.size w w' := by
  have HS := Lib.hid hsp; clear hsp
  by_cases hf : ps.length ≤ 50
  · have dF := decide_eq_true hf
    go_enter Try.func4, Try.ntmps4
    go_wp2_with fail
    refine (few30 _ _ _ _).mono ?_
    rintro e w1 ⟨rfl, rfl⟩
    have F := boxes1 w q
    revert F
    generalize w.alloc (.cells #[iv q.x, iv q.y] 30) = W
    rintro ⟨hW, f1, f2⟩
    rw [dF]
    clear dF
    go_wp2_with fail
    refine (where35 A c ps q _ (HS.out.later hW) hcap).mono ?_
    rintro e w2 ⟨rfl, hb⟩
    replace f1 := cell_later hb f1; replace f2 := cell_later hb f2
    have H2 := Lib.hid (below_trans hW hb)
    clear hb hW
    go_wp2_with fail
    refine (where36 A _ c ps q _ rfl (HS.out.later H2.out)).mono ?_
    rintro e w3 ⟨rfl, hb⟩
    have H3 := Lib.hid (below_trans H2.out hb)
    clear hb H2 f1 f2
    go_wp2_with fail
    refine (awake31 _).mono ?_
    rintro e w8 ⟨rfl, hb⟩
    have H8 := Lib.hid (below_trans H3.out hb)
    clear hb H3
    go_wp2
    go_ret
    exact ⟨rfl, H8.out⟩
  · have dF := decide_eq_false hf
    go_enter Try.func4, Try.ntmps4
    go_wp2_with fail
    refine (few30 _ _ _ _).mono ?_
    rintro e w1 ⟨rfl, rfl⟩
    rw [dF]
    go_wp2_with fail
    refine (awake31 _).mono ?_
    rintro e w8 ⟨rfl, hb⟩
    go_wp2
    go_ret
    exact ⟨rfl, below_trans (below_alloc _ _) hb⟩
end Go.Proofs.Ytfgeengdmbabhaa

namespace Go.Proofs.Ytfgeengdmbabhaa
open Go.RowKit
attribute [local go_sem ↓] Go.wp_at_zero Go.wp_at_succ

set_option maxHeartbeats 400000 in
/-- garmentref11.Less -/
theorem less40 (a b : Z2) (w : World) : Calls Try.prog 40 #[sv a, sv b] w fun e w' => e = .returned (.bool (lessZ a b)) ∧ Below w.heap.size w w' := by
  go_enter Try.func40, Try.ntmps40
  go_wp2
  all_goals
    go_ret
    refine ⟨ret_bool ?_, below_trans (below_alloc _ _) (below_alloc _ _)⟩
    rw [Bool.eq_iff_iff]
    simp [lessZ]
    try omega

set_option maxHeartbeats 1000000 in
/-- garmentref11.Twice -/
theorem twice77 (A : Option Addr) (n c : Nat) (ps : List Z2) (w : World) (hl : ps.length = n) (hsp : Sp w A ps) (hn : n ≤ 100000) (hbd : ∀ p ∈ ps, Bd p) :
    Calls Try.prog 77 #[.slice A n c] w fun e w' => e = .returned (iv (areaZ ps)) ∧ Below w.heap.size w w' := by
  subst hl
  have HS := Lib.hid hsp; clear hsp
  have HD := Lib.hid hbd; clear hbd
  go_enter Try.func77, Try.ntmps77
  go_wp2
  go_loopw [3, 4] (fun s i wr => ∃ k : Nat, k ≤ ps.length ∧ i = .int .i64 k ∧ s = iv (areaTo ps k) ∧ Below w.heap.size w wr) (fun _ i _ => ps.length - (intOf i).toNat)
  case atStart => exact ⟨0, Nat.zero_le _, rfl, rfl, Below.refl _ _⟩
  case round =>
    obtain ⟨k, hk, rfl, rfl, hB⟩ := hrel
    by_cases hlt : k < ps.length
    · have hne : ps ≠ [] := by intro h; simp [h] at hlt
      have hp : 0 < ps.length := by omega
      obtain ⟨b, off, rfl, hc⟩ := HS.out.later hB hne
      have l1 : (k + 1) % ps.length < ps.length := Nat.mod_lt _ hp
      obtain ⟨g1, g2⟩ := hc k hlt
      obtain ⟨g3, g4⟩ := hc _ l1
      have m1 := mod_one k ps.length
      have hb0 := areaTo_bd HD.out k
      have hb1 := sideZ_bd (bd_pt HD.out k) (bd_pt HD.out ((k + 1) % ps.length))
      have hba := bd_pt HD.out k
      have hbb := bd_pt HD.out ((k + 1) % ps.length)
      have HE := Lib.hid (show areaTo ps (k + 1) = areaTo ps k + sideZ (pt ps k) (pt ps ((k + 1) % ps.length)) from rfl)
      generalize e1 : (k + 1) % ps.length = k1 at *
      clear hc e1
      have nb : b < wr.heap.size := World.block_lt_of_cell? _ _ g1
      have nb2 : b ≠ wr.heap.size := by omega
      have nb3 : b ≠ wr.heap.size + 1 := by omega
      have q1 : (0 : Int) ≤ (k1 : Int) := by omega
      have q2 : (k1 : Int) < (ps.length : Int) := by omega
      have q3 : ((ps.length : Int) == 0) = false := beq_eq_false_iff_ne.2 (by omega)
      have q4 : ¬ ((ps.length : Int) = 0) := by omega
      have t1 : ((k : Int) + 1).tmod (ps.length : Int) = (k1 : Int) := by rw [Int.tmod_eq_emod_of_nonneg (by omega)]; exact m1
      have s1 : IntKind.i64.wrap ((k : Int) + 1) = (k : Int) + 1 := IntWalk.i64_in _ (by omega)
      have HX := Lib.hid (show wrap64 (wrap64 (areaTo ps k + wrap64 ((pt ps k).x * (pt ps k1).y)) - wrap64 ((pt ps k).y * (pt ps k1).x)) = areaTo ps (k + 1) by
        unfold Bd at hba hbb
        have e1 := prod22 (a := (pt ps k).x) (b := (pt ps k1).y) (by omega) (by omega)
        have e2 := prod22 (a := (pt ps k).y) (b := (pt ps k1).x) (by omega) (by omega)
        rw [HE.out, wrap64_in (n := (pt ps k).x * (pt ps k1).y) (by omega) (by omega), wrap64_in (n := (pt ps k).y * (pt ps k1).x) (by omega) (by omega), wrap64_in (n := areaTo ps k + (pt ps k).x * (pt ps k1).y) (by omega) (by omega)]
        rw [wrap64_in (by omega) (by omega)]
        unfold sideZ; omega)
      clear hb0 hb1 hba hbb
      go_upto_region 5 with fail
      go_cut [5, 6] (fun u v wx => TwoAt wr (pt ps k) (pt ps k1) u v wx)
      case first =>
        go_region
        · go_wp2_with fail
          go_meet
          exact TwoAt.new _ _ _
        · go_wp2_with fail
          go_meet
          exact TwoAt.new' _ _ _
      case rest =>
        obtain ⟨ga, gb, rfl, rfl, na, ngb, nab, Ba, Bb, hbx⟩ := hcut
        clear g1 g2 g3 g4 nb nb2 nb3 t1 s1 m1 q1 q2 q3 q4
        have hBx := hB.trans (hbx.mono hB.size)
        have f3 := Ba.cell 0; have f4 := Ba.cell 1; have f5 := Bb.cell 0; have f6 := Bb.cell 1
        simp at f3 f4 f5 f6
        clear Ba Bb hbx
        go_wp2
        go_roundw
        case rel => exact ⟨k + 1, by omega, by go_num, congrArg iv HX.out, hBx⟩
        case measure => simp [intOf]; omega
    · obtain rfl : k = ps.length := by omega
      go_wp2
      go_ret
      exact ⟨rfl, hB⟩

/-- garmentref11.Area2 -/
theorem area2_51 (A : Option Addr) (n c : Nat) (ps : List Z2) (w : World) (hl : ps.length = n) (hsp : Sp w A ps) :
    Calls Try.prog 51 #[.slice A n c] w fun e w' => e = .returned (iv (aZ ps)) ∧ Below w.heap.size w w' := by
  have HS := Lib.hid hsp; clear hsp
  have HL := Lib.hid hl
  by_cases h0 : chkZ ps = 0
  · have H0 := Lib.hid h0
    obtain ⟨hl40, _, hD, _, _⟩ := chkZ_zero h0
    have HD := Lib.hid hD
    clear h0 hD
    go_enter Try.func51, Try.ntmps51
    go_wp2_with fail
    refine (check46 A n c ps _ HL.out HS.out).mono ?_
    rintro e w1 ⟨rfl, hb1⟩
    rw [H0.out]
    go_wp2_with fail
    refine (twice77 A n c ps _ HL.out (HS.out.later hb1) (by omega) HD.out).mono ?_
    rintro e w2 ⟨rfl, hb2⟩
    go_wp2
    go_ret
    exact ⟨ret_int (aZ_pos H0.out).symm, below_trans hb1 hb2⟩
  · have H0 := Lib.hid h0
    have hd : (chkZ ps != 0) = true := by simpa using h0
    clear h0
    go_enter Try.func51, Try.ntmps51
    go_wp2_with fail
    refine (check46 A n c ps _ HL.out HS.out).mono ?_
    rintro e w1 ⟨rfl, hb1⟩
    go_wp2
    go_ret
    exact ⟨ret_int (aZ_neg H0.out).symm, hb1⟩
end Go.Proofs.Ytfgeengdmbabhaa

/- Plain laws of polygons: moved polygons; boxes. -/
namespace Go.Proofs.Ytfgeengdmbabhaa
open Geo (Pt cr On Simple edges mem_edges esum)

/-- a spot, moved -/
def shZ (d p : Z2) : Z2 := ⟨p.x + d.x, p.y + d.y⟩
theorem shZ_inj {d a b : Z2} (h : shZ d a = shZ d b) : a = b := by
  cases a; cases b
  simp only [shZ, Z2.mk.injEq] at h
  simp only [Z2.mk.injEq]; omega
theorem crZ_sh (d a b c : Z2) : crZ (shZ d a) (shZ d b) (shZ d c) = crZ a b c := by unfold crZ shZ; simp only; grind
theorem onZ_sh (d a b c : Z2) : onZ (shZ d a) (shZ d b) (shZ d c) = onZ a b c := by
  rw [Bool.eq_iff_iff]
  simp only [onZ, crZ_sh, Bool.and_eq_true, decide_eq_true_eq]
  simp only [shZ]; omega
theorem partedZ_sh (d a b c e : Z2) : partedZ (shZ d a) (shZ d b) (shZ d c) (shZ d e) = partedZ a b c e := by simp only [partedZ, crZ_sh]
theorem meetZ_sh (d a b c e : Z2) : meetZ (shZ d a) (shZ d b) (shZ d c) (shZ d e) = meetZ a b c e := by simp only [meetZ, onZ_sh, partedZ_sh]
theorem foldedZ_sh (d a b c : Z2) : foldedZ (shZ d a) (shZ d b) (shZ d c) = foldedZ a b c := by
  have e1 : ∀ x y : Int, x + d.x - (y + d.x) = x - y := fun x y => by omega
  have e2 : ∀ x y : Int, x + d.y - (y + d.y) = x - y := fun x y => by omega
  simp only [foldedZ, crZ_sh]
  simp only [shZ, e1, e2]
theorem crossesZ_sh (d a b q : Z2) : crossesZ (shZ d a) (shZ d b) (shZ d q) = crossesZ a b q := by
  rw [Bool.eq_iff_iff, cross_iff, cross_iff, crZ_sh]
  simp only [shZ]; omega
theorem pt_map (f : Z2 → Z2) {ps : List Z2} {k : Nat} (h : k < ps.length) : pt (ps.map f) k = f (pt ps k) := by
  rw [pt_eq h, pt_eq (by simpa using h), List.getElem_map]
theorem all_congr' {n : Nat} {f g : Nat → Bool} (h : ∀ i, i < n → f i = g i) : (List.range n).all f = (List.range n).all g := by
  rw [Bool.eq_iff_iff, List.all_eq_true, List.all_eq_true]
  constructor
  · intro hf i hi; rw [← h i (by simpa using hi)]; exact hf i hi
  · intro hf i hi; rw [h i (by simpa using hi)]; exact hf i hi
theorem simpleZ_sh (d : Z2) (ps : List Z2) : simpleZ (ps.map (shZ d)) = simpleZ ps := by
  unfold simpleZ
  rw [List.length_map]
  congr 1
  · refine all_congr' fun i hi => ?_
    rw [pt_map _ hi, ← List.map_take]
    congr 1
    rw [Bool.eq_iff_iff]
    simp only [List.contains_eq_mem, decide_eq_true_eq, List.mem_map]
    constructor
    · rintro ⟨a, ha, e⟩; rw [← shZ_inj e]; exact ha
    · intro h; exact ⟨_, h, rfl⟩
  · refine all_congr' fun i hi => ?_
    have hm : ∀ j, j % ps.length < ps.length := fun j => Nat.mod_lt _ (by omega)
    unfold rowZ
    rw [List.length_map, pt_map _ hi, pt_map _ (hm _), pt_map _ (hm _), foldedZ_sh]
    congr 1
    refine all_congr' fun k hk => ?_
    unfold stepZ
    rw [List.length_map, pt_map _ hi, pt_map _ (hm _), pt_map _ hk, pt_map _ (hm _), meetZ_sh]
theorem edges_sh (d : Z2) (ps : List Z2) : edges (ps.map (shZ d)) = (edges ps).map (Prod.map (shZ d) (shZ d)) := Geo.edges_map _ _
theorem areaZ_sh (d : Z2) (ps : List Z2) : areaZ (ps.map (shZ d)) = areaZ ps := by
  rw [areaZ_esum, areaZ_esum, edges_sh, Geo.esum_map]
  have h := Geo.esum_closed (fun p : Z2 => d.x * p.y - d.y * p.x) ps
  have e : esum (fun e : Z2 × Z2 => sideZ (Prod.map (shZ d) (shZ d) e).1 (Prod.map (shZ d) (shZ d) e).2) (edges ps) = esum (fun e => sideZ e.1 e.2 + ((d.x * e.2.y - d.y * e.2.x) - (d.x * e.1.y - d.y * e.1.x))) (edges ps) :=
    Geo.esum_congr fun e _ => by simp only [sideZ, shZ, Prod.map_fst, Prod.map_snd]; grind
  rw [e, Geo.esum_add, h]; omega
theorem onAny_sh (d : Z2) (ps : List Z2) (q : Z2) : onAny (ps.map (shZ d)) (shZ d q) = onAny ps q := by
  rw [Bool.eq_iff_iff, onAny_iff, onAny_iff, edges_sh]
  constructor
  · rintro ⟨e, he, h⟩
    obtain ⟨f, hf, rfl⟩ := List.mem_map.1 he
    exact ⟨f, hf, by rw [← onZ_sh d]; exact h⟩
  · rintro ⟨f, hf, h⟩
    exact ⟨_, List.mem_map_of_mem hf, by simp only [Prod.map_fst, Prod.map_snd]; rw [onZ_sh]; exact h⟩
theorem par_sh (d : Z2) (ps : List Z2) (q : Z2) : parTo (ps.map (shZ d)) (shZ d q) (ps.map (shZ d)).length = parTo ps q ps.length := by
  rw [parZ_cnt, parZ_cnt]
  have : cntE (shZ d q) (edges (ps.map (shZ d))) = cntE q (edges ps) := by
    unfold cntE
    rw [edges_sh, Geo.esum_map]
    exact Geo.esum_congr fun e _ => by simp only [Prod.map_fst, Prod.map_snd, crossesZ_sh]
  rw [this]
theorem out_iff (p : Z2) : outZ p = false ↔ (-1048576 ≤ p.x ∧ p.x ≤ 1048576 ∧ -1048576 ≤ p.y ∧ p.y ≤ 1048576) := by
  simp [outZ]; omega
theorem place_sh {ps : List Z2} {d q : Z2} (hq : outZ q = false) (hm : (ps.map (shZ d)).any outZ = false) : placeZ (ps.map (shZ d)) (shZ d q) = placeZ ps q := by
  cases ho : outZ (shZ d q) with
  | false =>
    unfold placeZ
    rw [ho, hq, onAny_sh, par_sh]
  | true =>
    have e1 : placeZ (ps.map (shZ d)) (shZ d q) = -1 := by unfold placeZ; rw [ho]; rfl
    rw [e1]
    have hin : ∀ p ∈ ps, outZ (shZ d p) = false := fun p hp => by
      have := List.any_eq_false.1 hm (shZ d p) (List.mem_map_of_mem hp)
      simpa using this
    have hin' : ∀ p ∈ ps, -1048576 ≤ p.x + d.x ∧ p.x + d.x ≤ 1048576 ∧ -1048576 ≤ p.y + d.y ∧ p.y + d.y ≤ 1048576 := fun p hp => (out_iff _).1 (hin p hp)
    have hn : ¬ (-1048576 ≤ q.x + d.x ∧ q.x + d.x ≤ 1048576 ∧ -1048576 ≤ q.y + d.y ∧ q.y + d.y ≤ 1048576) := fun h => by
      have := (out_iff (shZ d q)).2 h
      rw [ho] at this; cases this
    refine (place_out ?_).symm
    by_cases c1 : q.x + d.x < -1048576
    · exact .inr (.inl fun p hp => by have := hin' p hp; omega)
    by_cases c2 : 1048576 < q.x + d.x
    · exact .inl fun p hp => by have := hin' p hp; omega
    by_cases c3 : q.y + d.y < -1048576
    · exact .inr (.inr (.inr fun p hp => by have := hin' p hp; omega))
    · exact .inr (.inr (.inl fun p hp => by have := hin' p hp; omega))
theorem lo_sh (d : Z2) (ps : List Z2) (hne : 0 < ps.length) (k : Nat) (hk : k ≤ ps.length) : loTo (ps.map (shZ d)) k = shZ d (loTo ps k) := by
  induction k with
  | zero => exact pt_map _ hne
  | succ k ih =>
    simp only [loTo]
    rw [ih (by omega), pt_map _ (by omega)]
    simp only [shZ, Z2.mk.injEq]; omega
theorem hi_sh (d : Z2) (ps : List Z2) (hne : 0 < ps.length) (k : Nat) (hk : k ≤ ps.length) : hiTo (ps.map (shZ d)) k = shZ d (hiTo ps k) := by
  induction k with
  | zero => exact pt_map _ hne
  | succ k ih =>
    simp only [hiTo]
    rw [ih (by omega), pt_map _ (by omega)]
    simp only [shZ, Z2.mk.injEq]; omega
theorem boxR_sh (d : Z2) (ps : List Z2) (hne : 0 < ps.length) : boxR (ps.map (shZ d)) = ⟨(boxR ps).x + d.x, (boxR ps).y + d.y, (boxR ps).w, (boxR ps).h⟩ := by
  unfold boxR
  rw [List.length_map, lo_sh d ps hne _ (Nat.le_refl _), hi_sh d ps hne _ (Nat.le_refl _)]
  simp only [shZ, R4.mk.injEq, true_and]
  constructor <;> grind

theorem in_of_chk {ps : List Z2} (h : chkZ ps = 0) : ∀ p ∈ ps, -1048576 ≤ p.x ∧ p.x ≤ 1048576 ∧ -1048576 ≤ p.y ∧ p.y ≤ 1048576 := fun p hp => by
  have := List.any_eq_false.1 (chkZ_zero h).2.2.2.1 p hp
  exact (out_iff p).1 (by simpa using this)
theorem moveZ_sh {ps : List Z2} {d : Z2} (h : chkZ ps = 0) (hd : outZ d = false) : moveZ ps d = ps.map (shZ d) := by
  unfold moveZ
  refine List.map_congr_left fun p hp => ?_
  have h1 := in_of_chk h p hp
  have h2 := (out_iff d).1 hd
  unfold addZ shZ
  rw [wrap64_in (by omega) (by omega), wrap64_in (by omega) (by omega)]
theorem chk_sh {ps : List Z2} {d : Z2} (h : chkZ ps = 0) : chkZ (ps.map (shZ d)) = if (ps.map (shZ d)).any outZ then 3 else 0 := by
  obtain ⟨h1, h2, _, _, h5⟩ := chkZ_zero h
  unfold chkZ
  rw [List.length_map, if_neg (by omega), if_neg (by omega), simpleZ_sh, h5]
  rfl

/-- what PolygonMoves asks -/
theorem moves_law {ps : List Z2} {d q : Z2} (h : chkZ ps = 0) (hd : outZ d = false) (hq : outZ q = false) :
    chkZ (moveZ ps d) = 3 ∨ (chkZ (moveZ ps d) = 0 ∧ boxZ (moveZ ps d) = ⟨(boxZ ps).x + d.x, (boxZ ps).y + d.y, (boxZ ps).w, (boxZ ps).h⟩ ∧ whereZ (moveZ ps d) ⟨q.x + d.x, q.y + d.y⟩ = whereZ ps q ∧ aZ (moveZ ps d) = aZ ps) := by
  rw [moveZ_sh h hd]
  have hc := chk_sh (d := d) h
  cases ho : (ps.map (shZ d)).any outZ with
  | true => rw [ho] at hc; exact .inl hc
  | false =>
    rw [ho] at hc
    have hc' : chkZ (ps.map (shZ d)) = 0 := hc
    refine .inr ⟨hc', ?_, ?_, ?_⟩
    · rw [boxZ_pos hc', boxZ_pos h, boxR_sh d ps (by have := (chkZ_zero h).2.1; omega)]
    · rw [whereZ_pos hc', whereZ_pos h]
      exact place_sh hq ho
    · rw [aZ_pos hc', aZ_pos h, areaZ_sh]

/-! the box -/
theorem loTo_le {ps : List Z2} {k j : Nat} (hj : j < k) : (loTo ps k).x ≤ (pt ps j).x ∧ (loTo ps k).y ≤ (pt ps j).y := by
  induction k with
  | zero => omega
  | succ k ih =>
    simp only [loTo]
    by_cases e : j = k
    · subst e; omega
    · have := ih (by omega); omega
theorem hiTo_ge {ps : List Z2} {k j : Nat} (hj : j < k) : (pt ps j).x ≤ (hiTo ps k).x ∧ (pt ps j).y ≤ (hiTo ps k).y := by
  induction k with
  | zero => omega
  | succ k ih =>
    simp only [hiTo]
    by_cases e : j = k
    · subst e; omega
    · have := ih (by omega); omega
theorem loTo_at {ps : List Z2} (hn : 0 < ps.length) {k : Nat} (hk : k ≤ ps.length) : (∃ j, j < ps.length ∧ (j < k ∨ k = 0) ∧ (loTo ps k).x = (pt ps j).x) ∧ (∃ j, j < ps.length ∧ (j < k ∨ k = 0) ∧ (loTo ps k).y = (pt ps j).y) := by
  induction k with
  | zero => exact ⟨⟨0, hn, .inr rfl, rfl⟩, ⟨0, hn, .inr rfl, rfl⟩⟩
  | succ k ih =>
    obtain ⟨⟨j1, a1, b1, c1⟩, ⟨j2, a2, b2, c2⟩⟩ := ih (by omega)
    simp only [loTo]
    constructor
    · by_cases c : (pt ps k).x < (loTo ps k).x
      · exact ⟨k, by omega, .inl (by omega), by omega⟩
      · by_cases hz : k = 0
        · subst hz; exact ⟨0, hn, .inl (by omega), by simp [loTo]⟩
        · exact ⟨j1, a1, .inl (by omega), by omega⟩
    · by_cases c : (pt ps k).y < (loTo ps k).y
      · exact ⟨k, by omega, .inl (by omega), by omega⟩
      · by_cases hz : k = 0
        · subst hz; exact ⟨0, hn, .inl (by omega), by simp [loTo]⟩
        · exact ⟨j2, a2, .inl (by omega), by omega⟩
theorem hiTo_at {ps : List Z2} (hn : 0 < ps.length) {k : Nat} (hk : k ≤ ps.length) : (∃ j, j < ps.length ∧ (j < k ∨ k = 0) ∧ (hiTo ps k).x = (pt ps j).x) ∧ (∃ j, j < ps.length ∧ (j < k ∨ k = 0) ∧ (hiTo ps k).y = (pt ps j).y) := by
  induction k with
  | zero => exact ⟨⟨0, hn, .inr rfl, rfl⟩, ⟨0, hn, .inr rfl, rfl⟩⟩
  | succ k ih =>
    obtain ⟨⟨j1, a1, b1, c1⟩, ⟨j2, a2, b2, c2⟩⟩ := ih (by omega)
    simp only [hiTo]
    constructor
    · by_cases c : (hiTo ps k).x < (pt ps k).x
      · exact ⟨k, by omega, .inl (by omega), by omega⟩
      · by_cases hz : k = 0
        · subst hz; exact ⟨0, hn, .inl (by omega), by simp [hiTo]⟩
        · exact ⟨j1, a1, .inl (by omega), by omega⟩
    · by_cases c : (hiTo ps k).y < (pt ps k).y
      · exact ⟨k, by omega, .inl (by omega), by omega⟩
      · by_cases hz : k = 0
        · subst hz; exact ⟨0, hn, .inl (by omega), by simp [hiTo]⟩
        · exact ⟨j2, a2, .inl (by omega), by omega⟩

/-- vertices lie on the boundary -/
theorem place_vertex {ps : List Z2} (h : chkZ ps = 0) {k : Nat} (hk : k < ps.length) : whereZ ps (pt ps k) = 0 := by
  rw [whereZ_pos h]
  have ho : outZ (pt ps k) = false := (out_iff _).2 (in_of_chk h _ (pt_mem hk))
  have hon : onAny ps (pt ps k) = true := (onAny_iff _ _).2 ⟨(pt ps k, nx ps k), mem_edgesZ.2 ⟨k, hk, rfl⟩, (onZ_iff _ _ _).2 (Geo.on_left _ _)⟩
  unfold placeZ
  rw [ho, hon]; rfl
end Go.Proofs.Ytfgeengdmbabhaa
