/- Simple polygons over the rationals, and how the program's own tests over the integers say the same. -/
import Derived.Test.YtfgeengdmbabhaaGa
import Derived.Test.YtfgeengdmbabhaaGb
namespace Geo

/-- distinct sides have at most common ends in common -/
structure Simple (l : List Pt) : Prop where
  three : 3 ≤ l.length
  nodup : l.Nodup
  apart : ∀ e ∈ edges l, ∀ f ∈ edges l, e ≠ f → ∀ p, On e.1 e.2 p → On f.1 f.2 p → (p = e.1 ∧ p = f.2) ∨ (p = e.2 ∧ p = f.1)

theorem Simple.perm {l m : List Pt} (h : Simple l) (hp : l.Perm m) (he : (edges l).Perm (edges m)) : Simple m :=
  ⟨hp.length_eq ▸ h.three, hp.nodup_iff.1 h.nodup, fun e hE f hF => h.apart e (he.mem_iff.2 hE) f (he.mem_iff.2 hF)⟩
theorem Simple.rot {l m : List Pt} (h : Simple (l ++ m)) : Simple (m ++ l) := h.perm List.perm_append_comm (edges_rot l m)
theorem Simple.reverse {l : List Pt} (h : Simple l) : Simple l.reverse := by
  have hm : ∀ e, e ∈ edges l.reverse ↔ e.swap ∈ edges l := fun e => by
    rw [(edges_reverse l).mem_iff, List.mem_map]
    constructor
    · rintro ⟨x, hx, rfl⟩; simpa using hx
    · intro hx; exact ⟨e.swap, hx, by simp⟩
  refine ⟨by simpa using h.three, (List.reverse_perm l).nodup_iff.2 h.nodup, fun e hE f hF hne p h1 h2 => ?_⟩
  have := h.apart e.swap ((hm e).1 hE) f.swap ((hm f).1 hF) (fun hh => hne (by rw [← Prod.swap_swap e, hh, Prod.swap_swap])) p (on_comm h1) (on_comm h2)
  rcases this with ⟨a, b⟩ | ⟨a, b⟩
  · exact .inr ⟨a, b⟩
  · exact .inl ⟨a, b⟩

/-- a vertex on a side is one of its ends -/
theorem Simple.vertex {l : List Pt} (h : Simple l) {x : Pt} (hx : x ∈ l) {e : Pt × Pt} (he : e ∈ edges l) (hon : On e.1 e.2 x) : x = e.1 ∨ x = e.2 := by
  obtain ⟨y, hy⟩ := edge_from hx
  by_cases hne : (x, y) = e
  · left; rw [← hne]
  · rcases h.apart _ hy e he hne x (on_left x y) hon with ⟨_, h2⟩ | ⟨_, h2⟩
    · exact .inr h2
    · exact .inl h2
/-- the ends of a side differ -/
theorem Simple.ends {l : List Pt} (h : Simple l) {e : Pt × Pt} (he : e ∈ edges l) : e.1 ≠ e.2 := by
  obtain ⟨i, hi, rfl⟩ := mem_edges.1 he
  intro heq
  have h3 := h.three
  have hlt : (i + 1) % l.length < l.length := Nat.mod_lt _ (by omega)
  have hinj := (List.getElem_inj (h₀ := hi) (h₁ := hlt) h.nodup).1 heq
  by_cases hc : i + 1 < l.length
  · rw [Nat.mod_eq_of_lt hc] at hinj; omega
  · have : i + 1 = l.length := by omega
    rw [this, Nat.mod_self] at hinj; omega
/-- sides with one beginning are one -/
theorem Simple.from_eq {l : List Pt} (h : Simple l) {a b c : Pt} (h1 : (a, b) ∈ edges l) (h2 : (a, c) ∈ edges l) : b = c := by
  obtain ⟨i, hi, e1⟩ := mem_edges.1 h1
  obtain ⟨j, hj, e2⟩ := mem_edges.1 h2
  injection e1 with a1 b1
  injection e2 with a2 b2
  have := (List.getElem_inj (h₀ := hi) (h₁ := hj) h.nodup).1 (a1.symm.trans a2)
  subst this
  rw [b1, b2]
theorem Simple.to_eq {l : List Pt} (h : Simple l) {a b c : Pt} (h1 : (a, c) ∈ edges l) (h2 : (b, c) ∈ edges l) : a = b := by
  obtain ⟨i, hi, e1⟩ := mem_edges.1 h1
  obtain ⟨j, hj, e2⟩ := mem_edges.1 h2
  injection e1 with a1 b1
  injection e2 with a2 b2
  have h3 := h.three
  have hli : (i + 1) % l.length < l.length := Nat.mod_lt _ (by omega)
  have hlj : (j + 1) % l.length < l.length := Nat.mod_lt _ (by omega)
  have := (List.getElem_inj (h₀ := hli) (h₁ := hlj) h.nodup).1 (b1.symm.trans b2)
  have e : i = j := by
    by_cases ci : i + 1 < l.length
    · rw [Nat.mod_eq_of_lt ci] at this
      by_cases cj : j + 1 < l.length
      · rw [Nat.mod_eq_of_lt cj] at this; omega
      · have ej : j + 1 = l.length := by omega
        rw [ej, Nat.mod_self] at this; omega
    · have ei : i + 1 = l.length := by omega
      rw [ei, Nat.mod_self] at this
      by_cases cj : j + 1 < l.length
      · rw [Nat.mod_eq_of_lt cj] at this; omega
      · omega
  subst e
  rw [a1, a2]

theorem cr_line {a b c d : Pt} (h : a ≠ b) (h1 : cr a b c = 0) (h2 : cr a b d = 0) : cr c d a = 0 ∧ cr c d b = 0 := by
  have hne : b.x - a.x ≠ 0 ∨ b.y - a.y ≠ 0 := by
    by_cases hx : b.x - a.x = 0
    · by_cases hy : b.y - a.y = 0
      · exact absurd (Pt.ext' (by grind) (by grind)) h
      · exact .inr hy
    · exact .inl hx
  rcases hne with hn | hn
  · have e1 : (b.x - a.x) * cr c d a = 0 := by unfold cr at *; grind
    have e2 : (b.x - a.x) * cr c d b = 0 := by unfold cr at *; grind
    exact ⟨(Rat.mul_eq_zero.1 e1).resolve_left hn, (Rat.mul_eq_zero.1 e2).resolve_left hn⟩
  · have e1 : (b.y - a.y) * cr c d a = 0 := by unfold cr at *; grind
    have e2 : (b.y - a.y) * cr c d b = 0 := by unfold cr at *; grind
    exact ⟨(Rat.mul_eq_zero.1 e1).resolve_left hn, (Rat.mul_eq_zero.1 e2).resolve_left hn⟩

theorem line_meet_x {a b c d p : Pt} (hab : a.x < b.x) (h1 : cr a b c = 0) (h2 : cr a b d = 0) (hp : On a b p) (hq : On c d p) : On a b c ∨ On a b d ∨ On c d a ∨ On c d b := by
  have hl := cr_line (a := a) (b := b) (fun h => by rw [h] at hab; grind) h1 h2
  have p1 := on_x_ge hp (m := a.x) (by grind) (by grind)
  have p2 := on_x_le hp (m := b.x) (by grind) (by grind)
  by_cases k1 : On a b c; · exact .inl k1
  by_cases k2 : On a b d; · exact .inr (.inl k2)
  have c1 : c.x < a.x ∨ b.x < c.x := by
    by_cases u : c.x < a.x; · exact .inl u
    by_cases v : b.x < c.x; · exact .inr v
    exact absurd (on_of_x h1 hab (by grind) (by grind)) k1
  have d1 : d.x < a.x ∨ b.x < d.x := by
    by_cases u : d.x < a.x; · exact .inl u
    by_cases v : b.x < d.x; · exact .inr v
    exact absurd (on_of_x h2 hab (by grind) (by grind)) k2
  rcases c1 with c1 | c1 <;> rcases d1 with d1 | d1
  · have := on_x_le hq (m := max c.x d.x) (by grind) (by grind); grind
  · exact .inr (.inr (.inl (on_of_x hl.1 (by grind) (by grind) (by grind))))
  · exact .inr (.inr (.inl (on_comm (on_of_x (by rw [cr_swap, hl.1]; grind) (by grind) (by grind) (by grind)))))
  · have := on_x_ge hq (m := min c.x d.x) (by grind) (by grind); grind
theorem line_meet_y {a b c d p : Pt} (hab : a.y < b.y) (h1 : cr a b c = 0) (h2 : cr a b d = 0) (hp : On a b p) (hq : On c d p) : On a b c ∨ On a b d ∨ On c d a ∨ On c d b := by
  have hl := cr_line (a := a) (b := b) (fun h => by rw [h] at hab; grind) h1 h2
  have p1 := on_y_ge hp (m := a.y) (by grind) (by grind)
  have p2 := on_y_le hp (m := b.y) (by grind) (by grind)
  by_cases k1 : On a b c; · exact .inl k1
  by_cases k2 : On a b d; · exact .inr (.inl k2)
  have c1 : c.y < a.y ∨ b.y < c.y := by
    by_cases u : c.y < a.y; · exact .inl u
    by_cases v : b.y < c.y; · exact .inr v
    exact absurd (on_of_y h1 hab (by grind) (by grind)) k1
  have d1 : d.y < a.y ∨ b.y < d.y := by
    by_cases u : d.y < a.y; · exact .inl u
    by_cases v : b.y < d.y; · exact .inr v
    exact absurd (on_of_y h2 hab (by grind) (by grind)) k2
  rcases c1 with c1 | c1 <;> rcases d1 with d1 | d1
  · have := on_y_le hq (m := max c.y d.y) (by grind) (by grind); grind
  · exact .inr (.inr (.inl (on_of_y hl.1 (by grind) (by grind) (by grind))))
  · exact .inr (.inr (.inl (on_comm (on_of_y (by rw [cr_swap, hl.1]; grind) (by grind) (by grind) (by grind)))))
  · have := on_y_ge hq (m := min c.y d.y) (by grind) (by grind); grind
/-- segments on one line -/
theorem line_meet {a b c d p : Pt} (h1 : cr a b c = 0) (h2 : cr a b d = 0) (hp : On a b p) (hq : On c d p) : On a b c ∨ On a b d ∨ On c d a ∨ On c d b := by
  by_cases x1 : a.x < b.x; · exact line_meet_x x1 h1 h2 hp hq
  by_cases x2 : b.x < a.x
  · rcases line_meet_x x2 (by rw [cr_swap, h1]; grind) (by rw [cr_swap, h2]; grind) (on_comm hp) hq with h | h | h | h
    · exact .inl (on_comm h)
    · exact .inr (.inl (on_comm h))
    · exact .inr (.inr (.inr h))
    · exact .inr (.inr (.inl h))
  by_cases y1 : a.y < b.y; · exact line_meet_y y1 h1 h2 hp hq
  by_cases y2 : b.y < a.y
  · rcases line_meet_y y2 (by rw [cr_swap, h1]; grind) (by rw [cr_swap, h2]; grind) (on_comm hp) hq with h | h | h | h
    · exact .inl (on_comm h)
    · exact .inr (.inl (on_comm h))
    · exact .inr (.inr (.inr h))
    · exact .inr (.inr (.inl h))
  have : a = b := Pt.ext' (by grind) (by grind)
  subst this
  have := on_self hp
  subst this
  exact .inr (.inr (.inl hq))

theorem mul_neg_iff {a b : Rat} : a * b < 0 ↔ (0 < a ∧ b < 0) ∨ (a < 0 ∧ 0 < b) := by
  constructor
  · intro h
    by_cases ha : 0 < a
    · by_cases hb : b < 0; · exact .inl ⟨ha, hb⟩
      have := Rat.mul_nonneg (a := a) (b := b) (by grind) (by grind); grind
    by_cases ha2 : a < 0
    · by_cases hb : 0 < b; · exact .inr ⟨ha2, hb⟩
      have := Rat.mul_nonneg (a := -a) (b := -b) (by grind) (by grind); grind
    have : a = 0 := by grind
    subst this; grind
  · rintro (⟨h1, h2⟩ | ⟨h1, h2⟩)
    · have := Rat.mul_pos (a := a) (b := -b) h1 (by grind); grind
    · have := Rat.mul_pos (a := -a) (b := b) (by grind) h2; grind

theorem parted_of {a b c d p : Pt} (hp : cr a b p = 0) (hq : On c d p) (hc : p ≠ c) (hd : p ≠ d) : (cr a b c = 0 ∧ cr a b d = 0) ∨ cr a b c * cr a b d < 0 := by
  obtain ⟨k, k0, k1, rfl⟩ := hq
  rw [cr_lerp] at hp
  have hk0 : k ≠ 0 := fun h => hc (by rw [h, lerp_zero])
  have hk1 : k ≠ 1 := fun h => hd (by rw [h, lerp_one])
  rw [mul_neg_iff]
  by_cases s1 : cr a b c = 0
  · have : k * cr a b d = 0 := by grind
    have := (Rat.mul_eq_zero.1 this).resolve_left hk0
    exact .inl ⟨s1, this⟩
  right
  by_cases s2 : 0 < cr a b c
  · left; refine ⟨s2, ?_⟩
    by_cases s3 : cr a b d < 0; · exact s3
    have e1 := Rat.mul_pos (a := 1 - k) (b := cr a b c) (by grind) s2
    have e2 := Rat.mul_nonneg (a := k) (b := cr a b d) k0 (by grind)
    grind
  · right; refine ⟨by grind, ?_⟩
    by_cases s3 : 0 < cr a b d; · exact s3
    have e1 := Rat.mul_pos (a := 1 - k) (b := - cr a b c) (by grind) (by grind)
    have e2 := Rat.mul_nonneg (a := k) (b := - cr a b d) k0 (by grind)
    grind

/-- two segments meet exactly if an end lies on the other one, or each parts the other's ends -/
theorem meet_iff (a b c d : Pt) : (∃ p, On a b p ∧ On c d p) ↔ (On a b c ∨ On a b d ∨ On c d a ∨ On c d b ∨ (cr a b c * cr a b d < 0 ∧ cr c d a * cr c d b < 0)) := by
  constructor
  · rintro ⟨p, h1, h2⟩
    by_cases k1 : On a b c; · exact .inl k1
    by_cases k2 : On a b d; · exact .inr (.inl k2)
    by_cases k3 : On c d a; · exact .inr (.inr (.inl k3))
    by_cases k4 : On c d b; · exact .inr (.inr (.inr (.inl k4)))
    have n1 : p ≠ c := fun h => k1 (h ▸ h1)
    have n2 : p ≠ d := fun h => k2 (h ▸ h1)
    have n3 : p ≠ a := fun h => k3 (h ▸ h2)
    have n4 : p ≠ b := fun h => k4 (h ▸ h2)
    rcases parted_of (cr_on h1) h2 n1 n2 with ⟨u, v⟩ | u
    · rcases line_meet u v h1 h2 with h | h | h | h
      · exact absurd h k1
      · exact absurd h k2
      · exact absurd h k3
      · exact absurd h k4
    rcases parted_of (cr_on h2) h1 n3 n4 with ⟨u', v⟩ | u'
    · rcases line_meet u' v h2 h1 with h | h | h | h
      · exact absurd h k3
      · exact absurd h k4
      · exact absurd h k1
      · exact absurd h k2
    exact .inr (.inr (.inr (.inr ⟨u, u'⟩)))
  · rintro (h | h | h | h | ⟨h1, h2⟩)
    · exact ⟨c, h, on_left c d⟩
    · exact ⟨d, h, on_right c d⟩
    · exact ⟨a, on_left a b, h⟩
    · exact ⟨b, on_right a b, h⟩
    · rw [mul_neg_iff] at h1 h2
      have hp : ∃ p, On a b p ∧ cr c d p = 0 := by
        rcases h2 with ⟨u, v⟩ | ⟨u, v⟩
        · exact cross_zero (by grind) (by grind)
        · exact cross_zero' (by grind) (by grind)
      have hq : ∃ q, On c d q ∧ cr a b q = 0 := by
        rcases h1 with ⟨u, v⟩ | ⟨u, v⟩
        · exact cross_zero (by grind) (by grind)
        · exact cross_zero' (by grind) (by grind)
      obtain ⟨p, p1, p2⟩ := hp
      obtain ⟨q, q1, q2⟩ := hq
      have p3 := cr_on p1
      have q3 := cr_on q1
      have hD : cr a b d - cr a b c ≠ 0 := by grind
      have e1 : (cr a b d - cr a b c) * (p.x - q.x) = 0 := by unfold cr at *; grind
      have e2 : (cr a b d - cr a b c) * (p.y - q.y) = 0 := by unfold cr at *; grind
      have e : p = q := Pt.ext' (by have := (Rat.mul_eq_zero.1 e1).resolve_left hD; grind) (by have := (Rat.mul_eq_zero.1 e2).resolve_left hD; grind)
      subst e
      exact ⟨p, p1, q1⟩
end Geo
