import Derived.Test.YtfgeengdmbabhaaA5
import Derived.Test.YtfgeengdmbabhaaSa
/- Plain laws of overlapping polygons: what 'reach', 'contact' and 'relation' compute, and what it says. -/
namespace Go.Proofs.Ytfgeengdmbabhaa
open Geo (Pt cr On Simple edges mem_edges esum Ri Rg IntT InT Cov)

def mostTo (p q : Z2) (b : List Z2) : Nat → Int
  | 0 => -1
  | k + 1 => max (mostTo p q b k) (sgn (crZ p q (pt b k)))
def reachTo (a b : List Z2) : Nat → Int
  | 0 => 1
  | k + 1 => min (reachTo a b k) (mostTo (pt a k) (nx a k) b b.length)
def reachZ (a b : List Z2) : Int := reachTo a b a.length
def contactZ (a b : List Z2) : Int := min (reachZ a b) (reachZ b a)
def closTo (c : Int) (s : List Z2) (ts : List (List Z2)) : Nat → Int
  | 0 => c
  | k + 1 => max (closTo c s ts k) (contactZ s (ts.getD k []))
def relTo (ss ts : List (List Z2)) : Nat → Int
  | 0 => -1
  | k + 1 => closTo (relTo ss ts k) (ss.getD k []) ts ts.length
def relZ (a b : List Z2) : Int := relTo (splitZ a) (splitZ b) (splitZ a).length

theorem sgn_one {n : Int} : sgn n = 1 ↔ 0 < n := by unfold sgn; split <;> (try split) <;> omega
theorem sgn_ge {n : Int} : 0 ≤ sgn n ↔ 0 ≤ n := by unfold sgn; split <;> (try split) <;> omega
theorem mostTo_bd (p q : Z2) (b : List Z2) (k : Nat) : -1 ≤ mostTo p q b k ∧ mostTo p q b k ≤ 1 := by
  induction k with
  | zero => simp [mostTo]
  | succ k ih => have := sgn_bd (crZ p q (pt b k)); simp only [mostTo]; omega
theorem mostTo_one (p q : Z2) (b : List Z2) (k : Nat) : mostTo p q b k = 1 ↔ ∃ j, j < k ∧ 0 < crZ p q (pt b j) := by
  induction k with
  | zero => simp [mostTo]
  | succ k ih =>
    have h1 := sgn_bd (crZ p q (pt b k)); have h2 := mostTo_bd p q b k
    have h3 := @sgn_one (crZ p q (pt b k))
    simp only [mostTo]
    constructor
    · intro h
      by_cases e : mostTo p q b k = 1
      · obtain ⟨j, hj, g⟩ := ih.1 e; exact ⟨j, by omega, g⟩
      · exact ⟨k, by omega, h3.1 (by omega)⟩
    · rintro ⟨j, hj, g⟩
      by_cases e : j = k
      · subst e; have := h3.2 g; omega
      · have := ih.2 ⟨j, by omega, g⟩; omega
theorem mostTo_ge (p q : Z2) (b : List Z2) (k : Nat) : 0 ≤ mostTo p q b k ↔ ∃ j, j < k ∧ 0 ≤ crZ p q (pt b j) := by
  induction k with
  | zero => simp [mostTo]
  | succ k ih =>
    have h3 := @sgn_ge (crZ p q (pt b k))
    simp only [mostTo]
    constructor
    · intro h
      by_cases e : 0 ≤ mostTo p q b k
      · obtain ⟨j, hj, g⟩ := ih.1 e; exact ⟨j, by omega, g⟩
      · exact ⟨k, by omega, h3.1 (by omega)⟩
    · rintro ⟨j, hj, g⟩
      by_cases e : j = k
      · subst e; have := h3.2 g; omega
      · have := ih.2 ⟨j, by omega, g⟩; omega
theorem reachTo_bd (a b : List Z2) (k : Nat) : -1 ≤ reachTo a b k ∧ reachTo a b k ≤ 1 := by
  induction k with
  | zero => simp [reachTo]
  | succ k ih => have := mostTo_bd (pt a k) (nx a k) b b.length; simp only [reachTo]; omega
theorem reachTo_one (a b : List Z2) (k : Nat) : reachTo a b k = 1 ↔ ∀ i, i < k → ∃ j, j < b.length ∧ 0 < crZ (pt a i) (nx a i) (pt b j) := by
  induction k with
  | zero => simp [reachTo]
  | succ k ih =>
    have h1 := mostTo_bd (pt a k) (nx a k) b b.length; have h2 := reachTo_bd a b k
    have h3 := mostTo_one (pt a k) (nx a k) b b.length
    simp only [reachTo]
    constructor
    · intro h i hi
      by_cases e : i = k
      · subst e; exact h3.1 (by omega)
      · exact ih.1 (by omega) i (by omega)
    · intro h
      have e1 := ih.2 fun i hi => h i (by omega)
      have e2 := h3.2 (h k (by omega))
      omega
theorem reachTo_ge (a b : List Z2) (k : Nat) : 0 ≤ reachTo a b k ↔ ∀ i, i < k → ∃ j, j < b.length ∧ 0 ≤ crZ (pt a i) (nx a i) (pt b j) := by
  induction k with
  | zero => simp [reachTo]
  | succ k ih =>
    have h3 := mostTo_ge (pt a k) (nx a k) b b.length
    simp only [reachTo]
    constructor
    · intro h i hi
      by_cases e : i = k
      · subst e; exact h3.1 (by omega)
      · exact ih.1 (by omega) i (by omega)
    · intro h
      have e1 := ih.2 fun i hi => h i (by omega)
      have e2 := h3.2 (h k (by omega))
      omega
theorem contact_bd (a b : List Z2) : -1 ≤ contactZ a b ∧ contactZ a b ≤ 1 := by
  have h1 := reachTo_bd a b a.length; have h2 := reachTo_bd b a b.length
  unfold contactZ reachZ; omega
theorem contact_comm (a b : List Z2) : contactZ a b = contactZ b a := by unfold contactZ; omega
theorem closTo_bd {c : Int} (hc : -1 ≤ c ∧ c ≤ 1) (s : List Z2) (ts : List (List Z2)) (k : Nat) : -1 ≤ closTo c s ts k ∧ closTo c s ts k ≤ 1 := by
  induction k with
  | zero => simpa [closTo] using hc
  | succ k ih => have := contact_bd s (ts.getD k []); simp only [closTo]; omega
theorem closTo_le (c : Int) (s : List Z2) (ts : List (List Z2)) (k : Nat) (m : Int) : m ≤ closTo c s ts k ↔ m ≤ c ∨ ∃ j, j < k ∧ m ≤ contactZ s (ts.getD j []) := by
  induction k with
  | zero => simp [closTo]
  | succ k ih =>
    simp only [closTo]
    constructor
    · intro h
      by_cases e : m ≤ closTo c s ts k
      · rcases ih.1 e with g | ⟨j, hj, g⟩
        · exact .inl g
        · exact .inr ⟨j, by omega, g⟩
      · exact .inr ⟨k, by omega, by omega⟩
    · rintro (g | ⟨j, hj, g⟩)
      · have := ih.2 (.inl g); omega
      · by_cases e : j = k
        · subst e; omega
        · have := ih.2 (.inr ⟨j, by omega, g⟩); omega
theorem relTo_bd (ss ts : List (List Z2)) (k : Nat) : -1 ≤ relTo ss ts k ∧ relTo ss ts k ≤ 1 := by
  induction k with
  | zero => simp [relTo]
  | succ k ih => exact closTo_bd ih _ _ _
theorem relTo_le (ss ts : List (List Z2)) (k : Nat) (m : Int) (hm : 0 ≤ m) : m ≤ relTo ss ts k ↔ ∃ i, i < k ∧ ∃ j, j < ts.length ∧ m ≤ contactZ (ss.getD i []) (ts.getD j []) := by
  induction k with
  | zero => simp [relTo]; omega
  | succ k ih =>
    simp only [relTo]
    rw [closTo_le, ih]
    constructor
    · rintro (⟨i, hi, g⟩ | g)
      · exact ⟨i, by omega, g⟩
      · exact ⟨k, by omega, g⟩
    · rintro ⟨i, hi, g⟩
      by_cases e : i = k
      · subst e; exact .inr g
      · exact .inl ⟨i, by omega, g⟩
theorem rel_bd (a b : List Z2) : -1 ≤ relZ a b ∧ relZ a b ≤ 1 := relTo_bd _ _ _
theorem rel_le (a b : List Z2) (m : Int) (hm : 0 ≤ m) : m ≤ relZ a b ↔ ∃ s ∈ splitZ a, ∃ t ∈ splitZ b, m ≤ contactZ s t := by
  unfold relZ
  rw [relTo_le _ _ _ m hm]
  have gd : ∀ (l : List (List Z2)) (i : Nat) (h : i < l.length), l.getD i [] = l[i] := fun l i h => by simp [h]
  constructor
  · rintro ⟨i, hi, j, hj, g⟩
    refine ⟨_, List.getElem_mem hi, _, List.getElem_mem hj, ?_⟩
    rw [gd _ _ hi, gd _ _ hj] at g; exact g
  · rintro ⟨s, hs, t, ht, g⟩
    obtain ⟨i, hi, rfl⟩ := List.getElem_of_mem hs
    obtain ⟨j, hj, rfl⟩ := List.getElem_of_mem ht
    exact ⟨i, hi, j, hj, by rw [gd _ _ hi, gd _ _ hj]; exact g⟩

/-- a convex polygon of spots -/
structure CZ (P : List Z2) : Prop where
  cvx : Geo.Cvx (edges (poly P)) (poly P)
  hp : ∀ s t q, (∀ e ∈ edges (poly P), 0 ≤ cr e.1 e.2 q) → 0 < cr s t q → ∃ v ∈ poly P, 0 < cr s t v
  hg : ∀ s t q, (∀ e ∈ edges (poly P), 0 ≤ cr e.1 e.2 q) → 0 ≤ cr s t q → ∃ v ∈ poly P, 0 ≤ cr s t v
theorem CZ.tri {t : TZ} (h : 0 < crZ t.1 t.2.1 t.2.2) : CZ (toL t) := by
  have h' : 0 < cr (toPt t.1) (toPt t.2.1) (toPt t.2.2) := by rw [cr_toPt]; exact Rat.intCast_pos.2 h
  have he : edges (poly (toL t)) = [(toPt t.1, toPt t.2.1), (toPt t.2.1, toPt t.2.2), (toPt t.2.2, toPt t.1)] := rfl
  have hpo : poly (toL t) = [toPt t.1, toPt t.2.1, toPt t.2.2] := rfl
  have hT : ∀ q, (∀ e ∈ edges (poly (toL t)), 0 ≤ cr e.1 e.2 q) → InT (toPt t.1) (toPt t.2.1) (toPt t.2.2) q := fun q hq => by
    rw [he] at hq
    exact ⟨hq (toPt t.1, toPt t.2.1) (List.mem_cons_self ..), hq (toPt t.2.1, toPt t.2.2) (List.mem_cons_of_mem _ (List.mem_cons_self ..)), hq (toPt t.2.2, toPt t.1) (List.mem_cons_of_mem _ (List.mem_cons_of_mem _ (List.mem_cons_self ..)))⟩
  have m1 : toPt t.1 ∈ poly (toL t) := by rw [hpo]; simp
  have m2 : toPt t.2.1 ∈ poly (toL t) := by rw [hpo]; simp
  have m3 : toPt t.2.2 ∈ poly (toL t) := by rw [hpo]; simp
  refine ⟨by rw [he, hpo]; exact Geo.tri_cvx h', fun s u q hq hp => ?_, fun s u q hq hp => ?_⟩
  · rcases Geo.hull_pos h' (hT q hq) hp with g | g | g
    · exact ⟨_, m1, g⟩
    · exact ⟨_, m2, g⟩
    · exact ⟨_, m3, g⟩
  · rcases Geo.hull_ge h' (hT q hq) hp with g | g | g
    · exact ⟨_, m1, g⟩
    · exact ⟨_, m2, g⟩
    · exact ⟨_, m3, g⟩
theorem reach_one (a b : List Z2) : reachZ a b = 1 ↔ ∀ e ∈ edges (poly a), ∃ v ∈ poly b, 0 < cr e.1 e.2 v := by
  unfold reachZ
  rw [reachTo_one]
  constructor
  · intro h e he
    obtain ⟨i, hi, rfl⟩ := mem_edges_poly.1 he
    obtain ⟨j, hj, g⟩ := h i hi
    exact ⟨toPt (pt b j), List.mem_map_of_mem (pt_mem hj), by rw [cr_toPt]; exact Rat.intCast_pos.2 g⟩
  · intro h i hi
    obtain ⟨v, hv, g⟩ := h _ (mem_edges_poly.2 ⟨i, hi, rfl⟩)
    obtain ⟨x, hx, rfl⟩ := List.mem_map.1 hv
    obtain ⟨j, hj, rfl⟩ := List.getElem_of_mem hx
    rw [cr_toPt] at g
    exact ⟨j, hj, by rw [pt_eq hj]; exact Rat.intCast_pos.1 g⟩
theorem reach_ge (a b : List Z2) : 0 ≤ reachZ a b ↔ ∀ e ∈ edges (poly a), ∃ v ∈ poly b, 0 ≤ cr e.1 e.2 v := by
  unfold reachZ
  rw [reachTo_ge]
  constructor
  · intro h e he
    obtain ⟨i, hi, rfl⟩ := mem_edges_poly.1 he
    obtain ⟨j, hj, g⟩ := h i hi
    exact ⟨toPt (pt b j), List.mem_map_of_mem (pt_mem hj), by rw [cr_toPt]; exact Rat.intCast_nonneg.2 g⟩
  · intro h i hi
    obtain ⟨v, hv, g⟩ := h _ (mem_edges_poly.2 ⟨i, hi, rfl⟩)
    obtain ⟨x, hx, rfl⟩ := List.mem_map.1 hv
    obtain ⟨j, hj, rfl⟩ := List.getElem_of_mem hx
    rw [cr_toPt] at g
    exact ⟨j, hj, by rw [pt_eq hj]; exact Rat.intCast_nonneg.1 g⟩
theorem contact_one (a b : List Z2) : contactZ a b = 1 ↔ reachZ a b = 1 ∧ reachZ b a = 1 := by
  have h1 := reachTo_bd a b a.length; have h2 := reachTo_bd b a b.length
  unfold contactZ reachZ; omega
theorem contact_ge (a b : List Z2) : 0 ≤ contactZ a b ↔ 0 ≤ reachZ a b ∧ 0 ≤ reachZ b a := by unfold contactZ; omega
theorem contact_in {a b : List Z2} (ha : CZ a) (hb : CZ b) : contactZ a b = 1 ↔ ∃ q, (∀ e ∈ edges (poly a), 0 < cr e.1 e.2 q) ∧ ∀ e ∈ edges (poly b), 0 < cr e.1 e.2 q := by
  rw [contact_one, reach_one, reach_one]
  constructor
  · rintro ⟨h1, h2⟩; exact Geo.sat_open ha.cvx hb.cvx h1 h2
  · rintro ⟨q, h1, h2⟩
    exact ⟨fun e he => hb.hp _ _ q (fun f hf => by have := h2 f hf; grind) (h1 e he), fun e he => ha.hp _ _ q (fun f hf => by have := h1 f hf; grind) (h2 e he)⟩
theorem contact_on {a b : List Z2} (ha : CZ a) (hb : CZ b) : 0 ≤ contactZ a b ↔ ∃ q, (∀ e ∈ edges (poly a), 0 ≤ cr e.1 e.2 q) ∧ ∀ e ∈ edges (poly b), 0 ≤ cr e.1 e.2 q := by
  rw [contact_ge, reach_ge, reach_ge]
  constructor
  · rintro ⟨h1, h2⟩; exact Geo.sat_closed ha.cvx hb.cvx h1 h2
  · rintro ⟨q, h1, h2⟩
    exact ⟨fun e he => hb.hg _ _ q h2 (h1 e he), fun e he => ha.hg _ _ q h1 (h2 e he)⟩

theorem tri_all {t : TZ} {q : Pt} : (∀ e ∈ edges (poly (toL t)), 0 < cr e.1 e.2 q) ↔ IntT (toT t).1 (toT t).2.1 (toT t).2.2 q := by
  have he : edges (poly (toL t)) = [(toPt t.1, toPt t.2.1), (toPt t.2.1, toPt t.2.2), (toPt t.2.2, toPt t.1)] := rfl
  rw [he]; simp [IntT, toT]
theorem tri_all' {t : TZ} {q : Pt} : (∀ e ∈ edges (poly (toL t)), 0 ≤ cr e.1 e.2 q) ↔ InT (toT t).1 (toT t).2.1 (toT t).2.2 q := by
  have he : edges (poly (toL t)) = [(toPt t.1, toPt t.2.1), (toPt t.2.1, toPt t.2.2), (toPt t.2.2, toPt t.1)] := rfl
  rw [he]; simp [InT, toT]
theorem split_tri {ps : List Z2} (h : chkZ ps = 0) {s : List Z2} (hs : s ∈ splitZ ps) : ∃ t : TZ, s = toL t ∧ 0 < crZ t.1 t.2.1 t.2.2 ∧ t.1 ∈ normZ ps ∧ t.2.1 ∈ normZ ps ∧ t.2.2 ∈ normZ ps := by
  obtain ⟨ts, h1, _, hc⟩ := split_ok h
  rw [h1] at hs
  obtain ⟨t, ht, rfl⟩ := List.mem_map.1 hs
  obtain ⟨f1, f2, f3, f4, _⟩ := tri_facts h hc ht
  exact ⟨t, rfl, f1, f2, f3, f4⟩

/-- the inner part and the whole of a valid polygon -/
def Inn (ps : List Z2) (q : Pt) : Prop := Ri (poly (normZ ps)) q
def All (ps : List Z2) (q : Pt) : Prop := Rg (poly (normZ ps)) q
theorem Inn.all {ps : List Z2} {q : Pt} (h : Inn ps q) : All ps q := .inr h.2
theorem all_iff {ps : List Z2} (h : chkZ ps = 0) (q : Pt) : All ps q ↔ ∃ s ∈ splitZ ps, ∀ e ∈ edges (poly s), 0 ≤ cr e.1 e.2 q := by
  obtain ⟨ts, h1, _, hc⟩ := split_ok h
  unfold All
  rw [hc.cov q, h1]
  constructor
  · rintro ⟨t, ht, hi⟩
    obtain ⟨u, hu, rfl⟩ := List.mem_map.1 ht
    exact ⟨_, List.mem_map_of_mem hu, tri_all'.2 hi⟩
  · rintro ⟨s, hs, hi⟩
    obtain ⟨u, hu, rfl⟩ := List.mem_map.1 hs
    exact ⟨_, List.mem_map_of_mem hu, tri_all'.1 hi⟩
theorem inn_of {ps : List Z2} (h : chkZ ps = 0) {s : List Z2} (hs : s ∈ splitZ ps) {q : Pt} (hq : ∀ e ∈ edges (poly s), 0 < cr e.1 e.2 q) : Inn ps q := by
  obtain ⟨ts, h1, _, hc⟩ := split_ok h
  rw [h1] at hs
  obtain ⟨u, hu, rfl⟩ := List.mem_map.1 hs
  exact hc.int _ (List.mem_map_of_mem hu) q (tri_all.1 hq)
/-- near an inner point there is one inner to a triangle -/
theorem inn_near {ps : List Z2} (h : chkZ ps = 0) {O : Pt → Prop} (hO : Geo.Open O) {q : Pt} (hq : Inn ps q) (ho : O q) : ∃ s ∈ splitZ ps, ∃ p, (∀ e ∈ edges (poly s), 0 < cr e.1 e.2 p) ∧ O p := by
  obtain ⟨ts, h1, _, hc⟩ := split_ok h
  obtain ⟨p, ⟨g1, g2⟩, hp⟩ := Geo.generic ((Geo.Ri_open _).and hO) ⟨hq, ho⟩ (Geo.sidesT (ts.map toT)) (Geo.sides_ne hc.pos)
  obtain ⟨t, ht, i1⟩ := (hc.cov p).1 (.inr g1.2)
  have i2 := Geo.int_of_off ht i1 hp
  obtain ⟨u, hu, rfl⟩ := List.mem_map.1 ht
  exact ⟨toL u, by rw [h1]; exact List.mem_map_of_mem hu, p, tri_all.2 i2, g2⟩
theorem all_near {ps : List Z2} (h : chkZ ps = 0) {O : Pt → Prop} (hO : Geo.Open O) {q : Pt} (hq : All ps q) (ho : O q) : ∃ p, Inn ps p ∧ O p := by
  obtain ⟨ts, h1, _, hc⟩ := split_ok h
  exact Geo.closure_meet hc hO hq ho
theorem inn_open (ps : List Z2) : Geo.Open (Inn ps) := Geo.Ri_open _
theorem all_open (E : List (Pt × Pt)) : Geo.Open fun q => ∀ e ∈ E, 0 < cr e.1 e.2 q := Geo.Open.all E (fun e q => 0 < cr e.1 e.2 q) fun e _ => Geo.open_pos e.1 e.2

/-- 'crossing': the interiors have a point in common -/
theorem rel_one {a b : List Z2} (ha : chkZ a = 0) (hb : chkZ b = 0) : relZ a b = 1 ↔ ∃ q, Inn a q ∧ Inn b q := by
  have hbd := rel_bd a b
  have e : relZ a b = 1 ↔ 1 ≤ relZ a b := by omega
  rw [e, rel_le a b 1 (by omega)]
  constructor
  · rintro ⟨s, hs, t, ht, hc⟩
    obtain ⟨u, rfl, u1, _⟩ := split_tri ha hs
    obtain ⟨v, rfl, v1, _⟩ := split_tri hb ht
    have := contact_bd (toL u) (toL v)
    obtain ⟨q, q1, q2⟩ := (contact_in (CZ.tri u1) (CZ.tri v1)).1 (by omega)
    exact ⟨q, inn_of ha hs q1, inn_of hb ht q2⟩
  · rintro ⟨q, q1, q2⟩
    obtain ⟨s, hs, p, p1, p2⟩ := inn_near ha (inn_open b) q1 q2
    obtain ⟨t, ht, r, r1, r2⟩ := inn_near hb (all_open (edges (poly s))) p2 p1
    obtain ⟨u, rfl, u1, _⟩ := split_tri ha hs
    obtain ⟨v, rfl, v1, _⟩ := split_tri hb ht
    refine ⟨_, hs, _, ht, ?_⟩
    have := (contact_in (CZ.tri u1) (CZ.tri v1)).2 ⟨r, r2, r1⟩
    omega
/-- 'touching' or 'crossing': the closed polygons have a point in common -/
theorem rel_ge {a b : List Z2} (ha : chkZ a = 0) (hb : chkZ b = 0) : 0 ≤ relZ a b ↔ ∃ q, All a q ∧ All b q := by
  rw [rel_le a b 0 (by omega)]
  constructor
  · rintro ⟨s, hs, t, ht, hc⟩
    obtain ⟨u, rfl, u1, _⟩ := split_tri ha hs
    obtain ⟨v, rfl, v1, _⟩ := split_tri hb ht
    obtain ⟨q, q1, q2⟩ := (contact_on (CZ.tri u1) (CZ.tri v1)).1 hc
    exact ⟨q, (all_iff ha q).2 ⟨_, hs, q1⟩, (all_iff hb q).2 ⟨_, ht, q2⟩⟩
  · rintro ⟨q, q1, q2⟩
    obtain ⟨s, hs, p1⟩ := (all_iff ha q).1 q1
    obtain ⟨t, ht, p2⟩ := (all_iff hb q).1 q2
    obtain ⟨u, rfl, u1, _⟩ := split_tri ha hs
    obtain ⟨v, rfl, v1, _⟩ := split_tri hb ht
    exact ⟨_, hs, _, ht, (contact_on (CZ.tri u1) (CZ.tri v1)).2 ⟨q, p1, p2⟩⟩
theorem inn_some {a : List Z2} (ha : chkZ a = 0) : ∃ q, Inn a q := by
  obtain ⟨s, hs⟩ := List.exists_mem_of_ne_nil _ (split_some ha)
  obtain ⟨u, rfl, u1, _⟩ := split_tri ha hs
  obtain ⟨g, hg⟩ := (CZ.tri u1).cvx.inner
  exact ⟨g, inn_of ha hs hg⟩
/-- a polygon overlaps itself -/
theorem rel_self {a : List Z2} (ha : chkZ a = 0) : relZ a a = 1 := by
  obtain ⟨q, hq⟩ := inn_some ha
  exact (rel_one ha ha).2 ⟨q, hq, hq⟩
theorem rel_comm (a b : List Z2) : relZ a b = relZ b a := by
  have h1 := rel_bd a b; have h2 := rel_bd b a
  have g : ∀ m : Int, 0 ≤ m → (m ≤ relZ a b ↔ m ≤ relZ b a) := fun m hm => by
    rw [rel_le a b m hm, rel_le b a m hm]
    exact ⟨fun ⟨s, hs, t, ht, h⟩ => ⟨t, ht, s, hs, by rw [contact_comm]; exact h⟩, fun ⟨s, hs, t, ht, h⟩ => ⟨t, ht, s, hs, by rw [contact_comm]; exact h⟩⟩
  have g0 := g 0 (by omega); have g1 := g 1 (by omega)
  omega
end Go.Proofs.Ytfgeengdmbabhaa
