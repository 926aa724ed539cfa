/- Plain geometry over the rationals: segments, turns and crossings of a ray. No program in sight. -/
namespace Geo

structure Pt where
  x : Rat
  y : Rat
deriving DecidableEq

theorem Pt.ext' {a b : Pt} (hx : a.x = b.x) (hy : a.y = b.y) : a = b := by
  cases a; cases b; simp_all

/-- twice the signed area of the triangle a b c -/
def cr (a b c : Pt) : Rat := (b.x - a.x) * (c.y - a.y) - (b.y - a.y) * (c.x - a.x)

theorem cr_rot (a b c : Pt) : cr b c a = cr a b c := by unfold cr; grind
theorem cr_rot2 (a b c : Pt) : cr c a b = cr a b c := by unfold cr; grind
theorem cr_swap (a b c : Pt) : cr b a c = - cr a b c := by unfold cr; grind
theorem cr_self (a b : Pt) : cr a b a = 0 := by unfold cr; grind
theorem cr_self' (a b : Pt) : cr a b b = 0 := by unfold cr; grind
theorem cr_self'' (a b : Pt) : cr a a b = 0 := by unfold cr; grind
theorem cr_four (a b c d : Pt) : cr b c d - cr a c d + cr a b d - cr a b c = 0 := by unfold cr; grind
/-- the sum of the three coordinates of a point in a triangle -/
theorem cr_sum (a b c x : Pt) : cr b c x + cr c a x + cr a b x = cr a b c := by unfold cr; grind

/-- the point a + t (b - a) -/
def lerp (a b : Pt) (t : Rat) : Pt := ⟨a.x + t * (b.x - a.x), a.y + t * (b.y - a.y)⟩

theorem cr_lerp (s t a b : Pt) (k : Rat) : cr s t (lerp a b k) = cr s t a + k * (cr s t b - cr s t a) := by
  unfold cr lerp; grind
theorem lerp_zero (a b : Pt) : lerp a b 0 = a := by apply Pt.ext' <;> simp [lerp] <;> grind
theorem lerp_one (a b : Pt) : lerp a b 1 = b := by apply Pt.ext' <;> simp [lerp] <;> grind

/-- p lies on the closed segment a b -/
def On (a b p : Pt) : Prop := ∃ t : Rat, 0 ≤ t ∧ t ≤ 1 ∧ p = lerp a b t

theorem on_left (a b : Pt) : On a b a := ⟨0, by grind, by grind, (lerp_zero a b).symm⟩
theorem on_right (a b : Pt) : On a b b := ⟨1, by grind, by grind, (lerp_one a b).symm⟩
theorem lerp_flip (a b : Pt) (t : Rat) : lerp b a t = lerp a b (1 - t) := by
  apply Pt.ext' <;> simp only [lerp] <;> grind
theorem on_comm {a b p : Pt} (h : On a b p) : On b a p := by
  obtain ⟨t, h0, h1, rfl⟩ := h
  exact ⟨1 - t, by grind, by grind, by rw [lerp_flip]⟩
theorem cr_on {a b p : Pt} (h : On a b p) : cr a b p = 0 := by
  obtain ⟨t, _, _, rfl⟩ := h
  rw [cr_lerp, cr_self, cr_self']; grind

theorem on_self {a p : Pt} (h : On a a p) : p = a := by
  obtain ⟨t, _, _, rfl⟩ := h
  apply Pt.ext' <;> simp [lerp] <;> grind

/-- affine functions between their values at the ends -/
theorem on_cr_ge {s t a b p : Pt} (h : On a b p) (ha : 0 ≤ cr s t a) (hb : 0 ≤ cr s t b) : 0 ≤ cr s t p := by
  obtain ⟨k, h0, h1, rfl⟩ := h
  rw [cr_lerp]
  have e1 : 0 ≤ (1 - k) * cr s t a := Rat.mul_nonneg (by grind) ha
  have e2 : 0 ≤ k * cr s t b := Rat.mul_nonneg h0 hb
  grind
theorem on_cr_le {s t a b p : Pt} (h : On a b p) (ha : cr s t a ≤ 0) (hb : cr s t b ≤ 0) : cr s t p ≤ 0 := by
  have := on_cr_ge (s := t) (t := s) h (by rw [cr_swap]; grind) (by rw [cr_swap]; grind)
  rw [cr_swap] at this; grind
theorem on_cr_pos {s t a b p : Pt} (h : On a b p) (ha : 0 < cr s t a) (hb : 0 < cr s t b) : 0 < cr s t p := by
  obtain ⟨k, h0, h1, rfl⟩ := h
  rw [cr_lerp]
  by_cases hk : k = 0
  · subst hk; grind
  · have e1 : 0 ≤ (1 - k) * cr s t a := Rat.mul_nonneg (by grind) (by grind)
    have e2 : 0 < k * cr s t b := Rat.mul_pos (by grind) hb
    grind
theorem on_cr_neg {s t a b p : Pt} (h : On a b p) (ha : cr s t a < 0) (hb : cr s t b < 0) : cr s t p < 0 := by
  have := on_cr_pos (s := t) (t := s) h (by rw [cr_swap]; grind) (by rw [cr_swap]; grind)
  rw [cr_swap] at this; grind

theorem on_y_ge {a b p : Pt} {m : Rat} (h : On a b p) (ha : m ≤ a.y) (hb : m ≤ b.y) : m ≤ p.y := by
  obtain ⟨k, h0, h1, rfl⟩ := h
  simp only [lerp]
  have e1 : 0 ≤ (1 - k) * (a.y - m) := Rat.mul_nonneg (by grind) (by grind)
  have e2 : 0 ≤ k * (b.y - m) := Rat.mul_nonneg h0 (by grind)
  grind
theorem on_y_le {a b p : Pt} {m : Rat} (h : On a b p) (ha : a.y ≤ m) (hb : b.y ≤ m) : p.y ≤ m := by
  obtain ⟨k, h0, h1, rfl⟩ := h
  simp only [lerp]
  have e1 : 0 ≤ (1 - k) * (m - a.y) := Rat.mul_nonneg (by grind) (by grind)
  have e2 : 0 ≤ k * (m - b.y) := Rat.mul_nonneg h0 (by grind)
  grind
theorem on_x_ge {a b p : Pt} {m : Rat} (h : On a b p) (ha : m ≤ a.x) (hb : m ≤ b.x) : m ≤ p.x := by
  obtain ⟨k, h0, h1, rfl⟩ := h
  simp only [lerp]
  have e1 : 0 ≤ (1 - k) * (a.x - m) := Rat.mul_nonneg (by grind) (by grind)
  have e2 : 0 ≤ k * (b.x - m) := Rat.mul_nonneg h0 (by grind)
  grind
theorem on_x_le {a b p : Pt} {m : Rat} (h : On a b p) (ha : a.x ≤ m) (hb : b.x ≤ m) : p.x ≤ m := by
  obtain ⟨k, h0, h1, rfl⟩ := h
  simp only [lerp]
  have e1 : 0 ≤ (1 - k) * (m - a.x) := Rat.mul_nonneg (by grind) (by grind)
  have e2 : 0 ≤ k * (m - b.x) := Rat.mul_nonneg h0 (by grind)
  grind

/-- a part of a segment -/
theorem on_sub {a b p q r : Pt} (hp : On a b p) (hq : On a b q) (hr : On p q r) : On a b r := by
  obtain ⟨s, s0, s1, rfl⟩ := hp
  obtain ⟨t, t0, t1, rfl⟩ := hq
  obtain ⟨k, k0, k1, rfl⟩ := hr
  have e1 : 0 ≤ (1 - k) * s := Rat.mul_nonneg (by grind) s0
  have e2 : 0 ≤ k * t := Rat.mul_nonneg k0 t0
  have e3 : 0 ≤ (1 - k) * (1 - s) := Rat.mul_nonneg (by grind) (by grind)
  have e4 : 0 ≤ k * (1 - t) := Rat.mul_nonneg k0 (by grind)
  refine ⟨s + k * (t - s), by grind, by grind, ?_⟩
  apply Pt.ext' <;> simp only [lerp] <;> grind

theorem div_unit {m n : Rat} (hm : 0 ≤ m) (hn : m ≤ n) (h : 0 < n) : 0 ≤ m / n ∧ m / n ≤ 1 ∧ m / n * n = m := by
  have e : m / n * n = m := by rw [Rat.div_mul_cancel (by grind)]
  refine ⟨?_, ?_, e⟩
  · by_cases hc : 0 ≤ m / n
    · exact hc
    · exfalso
      have := Rat.mul_pos (a := - (m / n)) (b := n) (by grind) h
      grind
  · by_cases hc : m / n ≤ 1
    · exact hc
    · exfalso
      have := Rat.mul_pos (a := m / n - 1) (b := n) (by grind) h
      grind

/-- where an affine function changes its sign -/
theorem cross_zero {s t a b : Pt} (ha : 0 ≤ cr s t a) (hb : cr s t b ≤ 0) : ∃ p, On a b p ∧ cr s t p = 0 := by
  by_cases h : cr s t a = 0
  · exact ⟨a, on_left a b, h⟩
  · obtain ⟨h0, h1, h2⟩ := div_unit (m := cr s t a) (n := cr s t a - cr s t b) ha (by grind) (by grind)
    refine ⟨lerp a b (cr s t a / (cr s t a - cr s t b)), ⟨_, h0, h1, rfl⟩, ?_⟩
    rw [cr_lerp]; grind
theorem cross_zero' {s t a b : Pt} (ha : cr s t a ≤ 0) (hb : 0 ≤ cr s t b) : ∃ p, On a b p ∧ cr s t p = 0 := by
  obtain ⟨p, hp, h⟩ := cross_zero (s := s) (t := t) hb ha
  exact ⟨p, on_comm hp, h⟩

/-- a point on the line whose height lies between lies on the segment -/
theorem on_of_y {a b p : Pt} (hc : cr a b p = 0) (h : a.y < b.y) (h1 : a.y ≤ p.y) (h2 : p.y ≤ b.y) : On a b p := by
  obtain ⟨t0, t1, te⟩ := div_unit (m := p.y - a.y) (n := b.y - a.y) (by grind) (by grind) (by grind)
  refine ⟨_, t0, t1, ?_⟩
  generalize hk : (p.y - a.y) / (b.y - a.y) = k at *
  apply Pt.ext' <;> simp only [lerp]
  · have : (b.y - a.y) * (p.x - (a.x + k * (b.x - a.x))) = 0 := by unfold cr at hc; grind
    rcases Rat.mul_eq_zero.1 this with h' | h' <;> grind
  · grind
theorem on_of_x {a b p : Pt} (hc : cr a b p = 0) (h : a.x < b.x) (h1 : a.x ≤ p.x) (h2 : p.x ≤ b.x) : On a b p := by
  obtain ⟨t0, t1, te⟩ := div_unit (m := p.x - a.x) (n := b.x - a.x) (by grind) (by grind) (by grind)
  refine ⟨_, t0, t1, ?_⟩
  generalize hk : (p.x - a.x) / (b.x - a.x) = k at *
  apply Pt.ext' <;> simp only [lerp]
  · grind
  · have : (b.x - a.x) * (p.y - (a.y + k * (b.y - a.y))) = 0 := by unfold cr at hc; grind
    rcases Rat.mul_eq_zero.1 this with h' | h' <;> grind

/-- the program's own test for a point of a segment -/
theorem on_iff (a b p : Pt) : On a b p ↔ cr a b p = 0 ∧ (a.x ≤ p.x ∧ p.x ≤ b.x ∨ b.x ≤ p.x ∧ p.x ≤ a.x) ∧ (a.y ≤ p.y ∧ p.y ≤ b.y ∨ b.y ≤ p.y ∧ p.y ≤ a.y) := by
  constructor
  · intro h
    refine ⟨cr_on h, ?_, ?_⟩
    · by_cases hx : a.x ≤ b.x
      · exact .inl ⟨on_x_ge h (by grind) hx, on_x_le h hx (by grind)⟩
      · exact .inr ⟨on_x_ge h (by grind) (by grind), on_x_le h (by grind) (by grind)⟩
    · by_cases hx : a.y ≤ b.y
      · exact .inl ⟨on_y_ge h (by grind) hx, on_y_le h hx (by grind)⟩
      · exact .inr ⟨on_y_ge h (by grind) (by grind), on_y_le h (by grind) (by grind)⟩
  · rintro ⟨hc, hx, hy⟩
    by_cases e1 : a.y < b.y
    · exact on_of_y hc e1 (by grind) (by grind)
    by_cases e2 : b.y < a.y
    · exact on_comm (on_of_y (by rw [cr_swap]; grind) e2 (by grind) (by grind))
    by_cases e3 : a.x < b.x
    · exact on_of_x hc e3 (by grind) (by grind)
    by_cases e4 : b.x < a.x
    · exact on_comm (on_of_x (by rw [cr_swap]; grind) e4 (by grind) (by grind))
    have : p = a := Pt.ext' (by grind) (by grind)
    subst this
    exact on_left _ _

/-- the signed crossing of the side a b with the ray from q to the right -/
def chi (a b q : Pt) : Int :=
  if a.y ≤ q.y ∧ q.y < b.y ∧ 0 < cr a b q then 1
  else if b.y ≤ q.y ∧ q.y < a.y ∧ cr a b q < 0 then -1 else 0

theorem chi_anti (a b q : Pt) : chi b a q = - chi a b q := by
  unfold chi
  have := cr_swap a b q
  grind

theorem chi_flat {a b : Pt} (h : a.y = b.y) (q : Pt) : chi a b q = 0 := by unfold chi; grind
/-- x lies in the strip between q and r (q not above r), to the right of the line from q to r -/
def phi (q r x : Pt) : Int := if q.y < x.y ∧ x.y ≤ r.y ∧ cr q r x < 0 then 1 else 0

/-- the segments have no point in common -/
def Disj (a b q r : Pt) : Prop := ∀ p, On a b p → On q r p → False

theorem Disj.symm {a b q r : Pt} (h : Disj a b q r) : Disj q r a b := fun p h1 h2 => h p h2 h1
theorem Disj.flip {a b q r : Pt} (h : Disj a b q r) : Disj b a q r := fun p h1 h2 => h p (on_comm h1) h2
theorem Disj.flip' {a b q r : Pt} (h : Disj a b q r) : Disj a b r q := fun p h1 h2 => h p h1 (on_comm h2)


/-- the point of an ascending side at a height -/
theorem at_height {a b : Pt} {m : Rat} (hab : a.y < b.y) (h1 : a.y ≤ m) (h2 : m ≤ b.y) : ∃ p, On a b p ∧ p.y = m ∧ ∀ q : Pt, q.y = m → cr a b q = (b.y - a.y) * (p.x - q.x) := by
  obtain ⟨t0, t1, te⟩ := div_unit (m := m - a.y) (n := b.y - a.y) (by grind) (by grind) (by grind)
  generalize (m - a.y) / (b.y - a.y) = k at *
  refine ⟨lerp a b k, ⟨k, t0, t1, rfl⟩, by simp only [lerp]; grind, fun q hq => ?_⟩
  unfold cr lerp; simp only; subst hq; grind

/-- points of a side within the strip lie on one side of the line q r -/
theorem same_side {a b q r x y : Pt} (h : Disj a b q r) (hqr : q.y < r.y) (hx : On a b x) (hy : On a b y) (x1 : q.y ≤ x.y) (x2 : x.y ≤ r.y) (y1 : q.y ≤ y.y) (y2 : y.y ≤ r.y) (hn : cr q r x < 0) : cr q r y < 0 := by
  by_cases hc : cr q r y < 0
  · exact hc
  · exfalso
    obtain ⟨p, hp, hz⟩ := cross_zero' (s := q) (t := r) (a := x) (b := y) (by grind) (by grind)
    exact h p (on_sub hx hy hp) (on_of_y hz hqr (on_y_ge hp x1 y1) (on_y_le hp x2 y2))

theorem pos_mul_iff {a b : Rat} (h : 0 < a) : 0 < a * b ↔ 0 < b := by
  constructor
  · intro hab
    by_cases hb : 0 < b
    · exact hb
    · exfalso
      have := Rat.mul_nonneg (a := a) (b := -b) (by grind) (by grind)
      grind
  · intro hb; exact Rat.mul_pos h hb

/-- an ascending side that avoids the segment q r: its crossings with the two rays differ by its ends' places in the strip -/
theorem chi_phi_up {a b q r : Pt} (hqr : q.y ≤ r.y) (hab : a.y ≤ b.y) (h : Disj a b q r) : chi a b q - chi a b r = phi q r b - phi q r a := by
  by_cases hab' : a.y < b.y
  case neg =>
    have eab : a.y = b.y := by grind
    by_cases hqr' : q.y < r.y
    · by_cases hs : q.y < a.y ∧ a.y ≤ r.y
      · have k1 := same_side h hqr' (on_left a b) (on_right a b) (by grind) (by grind) (by grind) (by grind)
        have k2 := same_side h hqr' (on_right a b) (on_left a b) (by grind) (by grind) (by grind) (by grind)
        rw [chi_flat eab, chi_flat eab]; unfold phi; grind
      · rw [chi_flat eab, chi_flat eab]; unfold phi; grind
    · rw [chi_flat eab, chi_flat eab]; unfold phi; grind
  -- where the ray from q meets the side
  have g1 : a.y ≤ q.y → q.y < b.y → q.y < r.y → ∃ p, On a b p ∧ p.y = q.y ∧ (0 < cr a b q ↔ cr q r p < 0) := by
    intro h1 h2 h3
    obtain ⟨p, hp, py, hc⟩ := at_height hab' h1 (by grind)
    refine ⟨p, hp, py, ?_⟩
    rw [hc q rfl, pos_mul_iff (by grind)]
    have e : cr q r p = - ((r.y - q.y) * (p.x - q.x)) := by unfold cr; grind
    have := pos_mul_iff (a := r.y - q.y) (b := p.x - q.x) (by grind)
    grind
  have g2 : a.y ≤ r.y → r.y < b.y → q.y < r.y → ∃ p, On a b p ∧ p.y = r.y ∧ (0 < cr a b r ↔ cr q r p < 0) := by
    intro h1 h2 h3
    obtain ⟨p, hp, py, hc⟩ := at_height hab' h1 (by grind)
    refine ⟨p, hp, py, ?_⟩
    rw [hc r rfl, pos_mul_iff (by grind)]
    have e : cr q r p = - ((r.y - q.y) * (p.x - r.x)) := by unfold cr; grind
    have := pos_mul_iff (a := r.y - q.y) (b := p.x - r.x) (by grind)
    grind
  by_cases hqr' : q.y < r.y
  · have ss := fun x y => same_side (x := x) (y := y) h hqr'
    -- the places of a and b
    by_cases ha : a.y ≤ q.y
    · by_cases hb : b.y ≤ q.y
      · unfold chi phi; grind
      by_cases hb2 : b.y ≤ r.y
      · obtain ⟨p, hp, py, hc⟩ := g1 ha (by grind) hqr'
        have k1 := ss p b hp (on_right a b) (by grind) (by grind) (by grind) (by grind)
        have k2 := ss b p (on_right a b) hp (by grind) (by grind) (by grind) (by grind)
        unfold chi phi; grind
      · obtain ⟨p, hp, py, hc⟩ := g1 ha (by grind) hqr'
        obtain ⟨p', hp', py', hc'⟩ := g2 (by grind) (by grind) hqr'
        have k1 := ss p p' hp hp' (by grind) (by grind) (by grind) (by grind)
        have k2 := ss p' p hp' hp (by grind) (by grind) (by grind) (by grind)
        unfold chi phi; grind
    by_cases ha2 : a.y ≤ r.y
    · by_cases hb2 : b.y ≤ r.y
      · have k1 := ss a b (on_left a b) (on_right a b) (by grind) (by grind) (by grind) (by grind)
        have k2 := ss b a (on_right a b) (on_left a b) (by grind) (by grind) (by grind) (by grind)
        unfold chi phi; grind
      · obtain ⟨p', hp', py', hc'⟩ := g2 (by grind) (by grind) hqr'
        have k1 := ss a p' (on_left a b) hp' (by grind) (by grind) (by grind) (by grind)
        have k2 := ss p' a hp' (on_left a b) (by grind) (by grind) (by grind) (by grind)
        unfold chi phi; grind
    · unfold chi phi; grind
  · have e : q.y = r.y := by grind
    by_cases ha : a.y ≤ q.y ∧ q.y < b.y
    · obtain ⟨p, hp, py, hc⟩ := at_height hab' ha.1 (by grind)
      have c1 := hc q rfl
      have c2 := hc r (by grind)
      have d1 := pos_mul_iff (a := b.y - a.y) (b := p.x - q.x) (by grind)
      have d2 := pos_mul_iff (a := b.y - a.y) (b := p.x - r.x) (by grind)
      have hno : ¬ (q.x ≤ p.x ∧ p.x ≤ r.x ∨ r.x ≤ p.x ∧ p.x ≤ q.x) := by
        intro hx
        refine h p hp ((on_iff q r p).2 ⟨?_, hx, by grind⟩)
        unfold cr; rw [py, ← e]; grind
      unfold chi phi; grind
    · have e1 : chi a b q = 0 := by unfold chi; grind
      have e2 : chi a b r = 0 := by unfold chi; grind
      unfold phi; grind

theorem chi_phi {a b q r : Pt} (hqr : q.y ≤ r.y) (h : Disj a b q r) : chi a b q - chi a b r = phi q r b - phi q r a := by
  by_cases hab : a.y ≤ b.y
  · exact chi_phi_up hqr hab h
  · have := chi_phi_up hqr (by grind) h.flip
    have e1 := chi_anti a b q
    have e2 := chi_anti a b r
    omega

/-- the same without an order of q and r -/
def Phi (q r x : Pt) : Int := if q.y ≤ r.y then phi q r x else - phi r q x
theorem chi_Phi {a b q r : Pt} (h : Disj a b q r) : chi a b q - chi a b r = Phi q r b - Phi q r a := by
  unfold Phi
  by_cases hqr : q.y ≤ r.y
  · rw [if_pos hqr, if_pos hqr]; exact chi_phi hqr h
  · rw [if_neg hqr, if_neg hqr]
    have := chi_phi (a := a) (b := b) (q := r) (r := q) (by grind) h.flip'
    omega
end Geo
