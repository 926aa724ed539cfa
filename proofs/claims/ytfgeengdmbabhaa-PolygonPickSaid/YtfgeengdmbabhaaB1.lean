
/- Plain geometry over the rationals: segments, turns and crossings of a ray. No program in sight. -/
namespace Geo

structure Pt where
  x : Rat
  y : Rat
deriving DecidableEq

theorem Pt.ext' {a b : Pt} (hx : a.x = b.x) (hy : a.y = b.y) : a = b := by
  cases a; cases b; simp_all

/-- twice the signed area of the triangle a b c -/
def cr (a b c : Pt) : Rat := (b.x - a.x) * (c.y - a.y) - (b.y - a.y) * (c.x - a.x)

theorem cr_rot (a b c : Pt) : cr b c a = cr a b c := by unfold cr; grind
theorem cr_rot2 (a b c : Pt) : cr c a b = cr a b c := by unfold cr; grind
theorem cr_swap (a b c : Pt) : cr b a c = - cr a b c := by unfold cr; grind
theorem cr_self (a b : Pt) : cr a b a = 0 := by unfold cr; grind
theorem cr_self' (a b : Pt) : cr a b b = 0 := by unfold cr; grind
theorem cr_self'' (a b : Pt) : cr a a b = 0 := by unfold cr; grind
theorem cr_four (a b c d : Pt) : cr b c d - cr a c d + cr a b d - cr a b c = 0 := by unfold cr; grind
/-- the sum of the three coordinates of a point in a triangle -/
theorem cr_sum (a b c x : Pt) : cr b c x + cr c a x + cr a b x = cr a b c := by unfold cr; grind

/-- the point a + t (b - a) -/
def lerp (a b : Pt) (t : Rat) : Pt := ⟨a.x + t * (b.x - a.x), a.y + t * (b.y - a.y)⟩

theorem cr_lerp (s t a b : Pt) (k : Rat) : cr s t (lerp a b k) = cr s t a + k * (cr s t b - cr s t a) := by
  unfold cr lerp; grind
theorem lerp_zero (a b : Pt) : lerp a b 0 = a := by apply Pt.ext' <;> simp [lerp] <;> grind
theorem lerp_one (a b : Pt) : lerp a b 1 = b := by apply Pt.ext' <;> simp [lerp] <;> grind

/-- p lies on the closed segment a b -/
def On (a b p : Pt) : Prop := ∃ t : Rat, 0 ≤ t ∧ t ≤ 1 ∧ p = lerp a b t

theorem on_left (a b : Pt) : On a b a := ⟨0, by grind, by grind, (lerp_zero a b).symm⟩
theorem on_right (a b : Pt) : On a b b := ⟨1, by grind, by grind, (lerp_one a b).symm⟩
theorem lerp_flip (a b : Pt) (t : Rat) : lerp b a t = lerp a b (1 - t) := by
  apply Pt.ext' <;> simp only [lerp] <;> grind
theorem on_comm {a b p : Pt} (h : On a b p) : On b a p := by
  obtain ⟨t, h0, h1, rfl⟩ := h
  exact ⟨1 - t, by grind, by grind, by rw [lerp_flip]⟩
theorem cr_on {a b p : Pt} (h : On a b p) : cr a b p = 0 := by
  obtain ⟨t, _, _, rfl⟩ := h
  rw [cr_lerp, cr_self, cr_self']; grind

theorem on_self {a p : Pt} (h : On a a p) : p = a := by
  obtain ⟨t, _, _, rfl⟩ := h
  apply Pt.ext' <;> simp [lerp] <;> grind

/-- affine functions between their values at the ends -/
theorem on_cr_ge {s t a b p : Pt} (h : On a b p) (ha : 0 ≤ cr s t a) (hb : 0 ≤ cr s t b) : 0 ≤ cr s t p := by
  obtain ⟨k, h0, h1, rfl⟩ := h
  rw [cr_lerp]
  have e1 : 0 ≤ (1 - k) * cr s t a := Rat.mul_nonneg (by grind) ha
  have e2 : 0 ≤ k * cr s t b := Rat.mul_nonneg h0 hb
  grind
theorem on_cr_le {s t a b p : Pt} (h : On a b p) (ha : cr s t a ≤ 0) (hb : cr s t b ≤ 0) : cr s t p ≤ 0 := by
  have := on_cr_ge (s := t) (t := s) h (by rw [cr_swap]; grind) (by rw [cr_swap]; grind)
  rw [cr_swap] at this; grind
theorem on_cr_pos {s t a b p : Pt} (h : On a b p) (ha : 0 < cr s t a) (hb : 0 < cr s t b) : 0 < cr s t p := by
  obtain ⟨k, h0, h1, rfl⟩ := h
  rw [cr_lerp]
  by_cases hk : k = 0
  · subst hk; grind
  · have e1 : 0 ≤ (1 - k) * cr s t a := Rat.mul_nonneg (by grind) (by grind)
    have e2 : 0 < k * cr s t b := Rat.mul_pos (by grind) hb
    grind
theorem on_cr_neg {s t a b p : Pt} (h : On a b p) (ha : cr s t a < 0) (hb : cr s t b < 0) : cr s t p < 0 := by
  have := on_cr_pos (s := t) (t := s) h (by rw [cr_swap]; grind) (by rw [cr_swap]; grind)
  rw [cr_swap] at this; grind

theorem on_y_ge {a b p : Pt} {m : Rat} (h : On a b p) (ha : m ≤ a.y) (hb : m ≤ b.y) : m ≤ p.y := by
  obtain ⟨k, h0, h1, rfl⟩ := h
  simp only [lerp]
  have e1 : 0 ≤ (1 - k) * (a.y - m) := Rat.mul_nonneg (by grind) (by grind)
  have e2 : 0 ≤ k * (b.y - m) := Rat.mul_nonneg h0 (by grind)
  grind
theorem on_y_le {a b p : Pt} {m : Rat} (h : On a b p) (ha : a.y ≤ m) (hb : b.y ≤ m) : p.y ≤ m := by
  obtain ⟨k, h0, h1, rfl⟩ := h
  simp only [lerp]
  have e1 : 0 ≤ (1 - k) * (m - a.y) := Rat.mul_nonneg (by grind) (by grind)
  have e2 : 0 ≤ k * (m - b.y) := Rat.mul_nonneg h0 (by grind)
  grind
theorem on_x_ge {a b p : Pt} {m : Rat} (h : On a b p) (ha : m ≤ a.x) (hb : m ≤ b.x) : m ≤ p.x := by
  obtain ⟨k, h0, h1, rfl⟩ := h
  simp only [lerp]
  have e1 : 0 ≤ (1 - k) * (a.x - m) := Rat.mul_nonneg (by grind) (by grind)
  have e2 : 0 ≤ k * (b.x - m) := Rat.mul_nonneg h0 (by grind)
  grind
theorem on_x_le {a b p : Pt} {m : Rat} (h : On a b p) (ha : a.x ≤ m) (hb : b.x ≤ m) : p.x ≤ m := by
  obtain ⟨k, h0, h1, rfl⟩ := h
  simp only [lerp]
  have e1 : 0 ≤ (1 - k) * (m - a.x) := Rat.mul_nonneg (by grind) (by grind)
  have e2 : 0 ≤ k * (m - b.x) := Rat.mul_nonneg h0 (by grind)
  grind

/-- a part of a segment -/
theorem on_sub {a b p q r : Pt} (hp : On a b p) (hq : On a b q) (hr : On p q r) : On a b r := by
  obtain ⟨s, s0, s1, rfl⟩ := hp
  obtain ⟨t, t0, t1, rfl⟩ := hq
  obtain ⟨k, k0, k1, rfl⟩ := hr
  have e1 : 0 ≤ (1 - k) * s := Rat.mul_nonneg (by grind) s0
  have e2 : 0 ≤ k * t := Rat.mul_nonneg k0 t0
  have e3 : 0 ≤ (1 - k) * (1 - s) := Rat.mul_nonneg (by grind) (by grind)
  have e4 : 0 ≤ k * (1 - t) := Rat.mul_nonneg k0 (by grind)
  refine ⟨s + k * (t - s), by grind, by grind, ?_⟩
  apply Pt.ext' <;> simp only [lerp] <;> grind

theorem div_unit {m n : Rat} (hm : 0 ≤ m) (hn : m ≤ n) (h : 0 < n) : 0 ≤ m / n ∧ m / n ≤ 1 ∧ m / n * n = m := by
  have e : m / n * n = m := by rw [Rat.div_mul_cancel (by grind)]
  refine ⟨?_, ?_, e⟩
  · by_cases hc : 0 ≤ m / n
    · exact hc
    · exfalso
      have := Rat.mul_pos (a := - (m / n)) (b := n) (by grind) h
      grind
  · by_cases hc : m / n ≤ 1
    · exact hc
    · exfalso
      have := Rat.mul_pos (a := m / n - 1) (b := n) (by grind) h
      grind

/-- where an affine function changes its sign -/
theorem cross_zero {s t a b : Pt} (ha : 0 ≤ cr s t a) (hb : cr s t b ≤ 0) : ∃ p, On a b p ∧ cr s t p = 0 := by
  by_cases h : cr s t a = 0
  · exact ⟨a, on_left a b, h⟩
  · obtain ⟨h0, h1, h2⟩ := div_unit (m := cr s t a) (n := cr s t a - cr s t b) ha (by grind) (by grind)
    refine ⟨lerp a b (cr s t a / (cr s t a - cr s t b)), ⟨_, h0, h1, rfl⟩, ?_⟩
    rw [cr_lerp]; grind
theorem cross_zero' {s t a b : Pt} (ha : cr s t a ≤ 0) (hb : 0 ≤ cr s t b) : ∃ p, On a b p ∧ cr s t p = 0 := by
  obtain ⟨p, hp, h⟩ := cross_zero (s := s) (t := t) hb ha
  exact ⟨p, on_comm hp, h⟩

/-- a point on the line whose height lies between lies on the segment -/
theorem on_of_y {a b p : Pt} (hc : cr a b p = 0) (h : a.y < b.y) (h1 : a.y ≤ p.y) (h2 : p.y ≤ b.y) : On a b p := by
  obtain ⟨t0, t1, te⟩ := div_unit (m := p.y - a.y) (n := b.y - a.y) (by grind) (by grind) (by grind)
  refine ⟨_, t0, t1, ?_⟩
  generalize hk : (p.y - a.y) / (b.y - a.y) = k at *
  apply Pt.ext' <;> simp only [lerp]
  · have : (b.y - a.y) * (p.x - (a.x + k * (b.x - a.x))) = 0 := by unfold cr at hc; grind
    rcases Rat.mul_eq_zero.1 this with h' | h' <;> grind
  · grind
theorem on_of_x {a b p : Pt} (hc : cr a b p = 0) (h : a.x < b.x) (h1 : a.x ≤ p.x) (h2 : p.x ≤ b.x) : On a b p := by
  obtain ⟨t0, t1, te⟩ := div_unit (m := p.x - a.x) (n := b.x - a.x) (by grind) (by grind) (by grind)
  refine ⟨_, t0, t1, ?_⟩
  generalize hk : (p.x - a.x) / (b.x - a.x) = k at *
  apply Pt.ext' <;> simp only [lerp]
  · grind
  · have : (b.x - a.x) * (p.y - (a.y + k * (b.y - a.y))) = 0 := by unfold cr at hc; grind
    rcases Rat.mul_eq_zero.1 this with h' | h' <;> grind

/-- the program's own test for a point of a segment -/
theorem on_iff (a b p : Pt) : On a b p ↔ cr a b p = 0 ∧ (a.x ≤ p.x ∧ p.x ≤ b.x ∨ b.x ≤ p.x ∧ p.x ≤ a.x) ∧ (a.y ≤ p.y ∧ p.y ≤ b.y ∨ b.y ≤ p.y ∧ p.y ≤ a.y) := by
  constructor
  · intro h
    refine ⟨cr_on h, ?_, ?_⟩
    · by_cases hx : a.x ≤ b.x
      · exact .inl ⟨on_x_ge h (by grind) hx, on_x_le h hx (by grind)⟩
      · exact .inr ⟨on_x_ge h (by grind) (by grind), on_x_le h (by grind) (by grind)⟩
    · by_cases hx : a.y ≤ b.y
      · exact .inl ⟨on_y_ge h (by grind) hx, on_y_le h hx (by grind)⟩
      · exact .inr ⟨on_y_ge h (by grind) (by grind), on_y_le h (by grind) (by grind)⟩
  · rintro ⟨hc, hx, hy⟩
    by_cases e1 : a.y < b.y
    · exact on_of_y hc e1 (by grind) (by grind)
    by_cases e2 : b.y < a.y
    · exact on_comm (on_of_y (by rw [cr_swap]; grind) e2 (by grind) (by grind))
    by_cases e3 : a.x < b.x
    · exact on_of_x hc e3 (by grind) (by grind)
    by_cases e4 : b.x < a.x
    · exact on_comm (on_of_x (by rw [cr_swap]; grind) e4 (by grind) (by grind))
    have : p = a := Pt.ext' (by grind) (by grind)
    subst this
    exact on_left _ _

/-- the signed crossing of the side a b with the ray from q to the right -/
def chi (a b q : Pt) : Int :=
  if a.y ≤ q.y ∧ q.y < b.y ∧ 0 < cr a b q then 1
  else if b.y ≤ q.y ∧ q.y < a.y ∧ cr a b q < 0 then -1 else 0

theorem chi_anti (a b q : Pt) : chi b a q = - chi a b q := by
  unfold chi
  have := cr_swap a b q
  grind

theorem chi_flat {a b : Pt} (h : a.y = b.y) (q : Pt) : chi a b q = 0 := by unfold chi; grind
/-- x lies in the strip between q and r (q not above r), to the right of the line from q to r -/
def phi (q r x : Pt) : Int := if q.y < x.y ∧ x.y ≤ r.y ∧ cr q r x < 0 then 1 else 0

/-- the segments have no point in common -/
def Disj (a b q r : Pt) : Prop := ∀ p, On a b p → On q r p → False

theorem Disj.symm {a b q r : Pt} (h : Disj a b q r) : Disj q r a b := fun p h1 h2 => h p h2 h1
theorem Disj.flip {a b q r : Pt} (h : Disj a b q r) : Disj b a q r := fun p h1 h2 => h p (on_comm h1) h2
theorem Disj.flip' {a b q r : Pt} (h : Disj a b q r) : Disj a b r q := fun p h1 h2 => h p h1 (on_comm h2)


/-- the point of an ascending side at a height -/
theorem at_height {a b : Pt} {m : Rat} (hab : a.y < b.y) (h1 : a.y ≤ m) (h2 : m ≤ b.y) : ∃ p, On a b p ∧ p.y = m ∧ ∀ q : Pt, q.y = m → cr a b q = (b.y - a.y) * (p.x - q.x) := by
  obtain ⟨t0, t1, te⟩ := div_unit (m := m - a.y) (n := b.y - a.y) (by grind) (by grind) (by grind)
  generalize (m - a.y) / (b.y - a.y) = k at *
  refine ⟨lerp a b k, ⟨k, t0, t1, rfl⟩, by simp only [lerp]; grind, fun q hq => ?_⟩
  unfold cr lerp; simp only; subst hq; grind

/-- points of a side within the strip lie on one side of the line q r -/
theorem same_side {a b q r x y : Pt} (h : Disj a b q r) (hqr : q.y < r.y) (hx : On a b x) (hy : On a b y) (x1 : q.y ≤ x.y) (x2 : x.y ≤ r.y) (y1 : q.y ≤ y.y) (y2 : y.y ≤ r.y) (hn : cr q r x < 0) : cr q r y < 0 := by
  by_cases hc : cr q r y < 0
  · exact hc
  · exfalso
    obtain ⟨p, hp, hz⟩ := cross_zero' (s := q) (t := r) (a := x) (b := y) (by grind) (by grind)
    exact h p (on_sub hx hy hp) (on_of_y hz hqr (on_y_ge hp x1 y1) (on_y_le hp x2 y2))

theorem pos_mul_iff {a b : Rat} (h : 0 < a) : 0 < a * b ↔ 0 < b := by
  constructor
  · intro hab
    by_cases hb : 0 < b
    · exact hb
    · exfalso
      have := Rat.mul_nonneg (a := a) (b := -b) (by grind) (by grind)
      grind
  · intro hb; exact Rat.mul_pos h hb

/-- an ascending side that avoids the segment q r: its crossings with the two rays differ by its ends' places in the strip -/
theorem chi_phi_up {a b q r : Pt} (hqr : q.y ≤ r.y) (hab : a.y ≤ b.y) (h : Disj a b q r) : chi a b q - chi a b r = phi q r b - phi q r a := by
  by_cases hab' : a.y < b.y
  case neg =>
    have eab : a.y = b.y := by grind
    by_cases hqr' : q.y < r.y
    · by_cases hs : q.y < a.y ∧ a.y ≤ r.y
      · have k1 := same_side h hqr' (on_left a b) (on_right a b) (by grind) (by grind) (by grind) (by grind)
        have k2 := same_side h hqr' (on_right a b) (on_left a b) (by grind) (by grind) (by grind) (by grind)
        rw [chi_flat eab, chi_flat eab]; unfold phi; grind
      · rw [chi_flat eab, chi_flat eab]; unfold phi; grind
    · rw [chi_flat eab, chi_flat eab]; unfold phi; grind
  -- where the ray from q meets the side
  have g1 : a.y ≤ q.y → q.y < b.y → q.y < r.y → ∃ p, On a b p ∧ p.y = q.y ∧ (0 < cr a b q ↔ cr q r p < 0) := by
    intro h1 h2 h3
    obtain ⟨p, hp, py, hc⟩ := at_height hab' h1 (by grind)
    refine ⟨p, hp, py, ?_⟩
    rw [hc q rfl, pos_mul_iff (by grind)]
    have e : cr q r p = - ((r.y - q.y) * (p.x - q.x)) := by unfold cr; grind
    have := pos_mul_iff (a := r.y - q.y) (b := p.x - q.x) (by grind)
    grind
  have g2 : a.y ≤ r.y → r.y < b.y → q.y < r.y → ∃ p, On a b p ∧ p.y = r.y ∧ (0 < cr a b r ↔ cr q r p < 0) := by
    intro h1 h2 h3
    obtain ⟨p, hp, py, hc⟩ := at_height hab' h1 (by grind)
    refine ⟨p, hp, py, ?_⟩
    rw [hc r rfl, pos_mul_iff (by grind)]
    have e : cr q r p = - ((r.y - q.y) * (p.x - r.x)) := by unfold cr; grind
    have := pos_mul_iff (a := r.y - q.y) (b := p.x - r.x) (by grind)
    grind
  by_cases hqr' : q.y < r.y
  · have ss := fun x y => same_side (x := x) (y := y) h hqr'
    -- the places of a and b
    by_cases ha : a.y ≤ q.y
    · by_cases hb : b.y ≤ q.y
      · unfold chi phi; grind
      by_cases hb2 : b.y ≤ r.y
      · obtain ⟨p, hp, py, hc⟩ := g1 ha (by grind) hqr'
        have k1 := ss p b hp (on_right a b) (by grind) (by grind) (by grind) (by grind)
        have k2 := ss b p (on_right a b) hp (by grind) (by grind) (by grind) (by grind)
        unfold chi phi; grind
      · obtain ⟨p, hp, py, hc⟩ := g1 ha (by grind) hqr'
        obtain ⟨p', hp', py', hc'⟩ := g2 (by grind) (by grind) hqr'
        have k1 := ss p p' hp hp' (by grind) (by grind) (by grind) (by grind)
        have k2 := ss p' p hp' hp (by grind) (by grind) (by grind) (by grind)
        unfold chi phi; grind
    by_cases ha2 : a.y ≤ r.y
    · by_cases hb2 : b.y ≤ r.y
      · have k1 := ss a b (on_left a b) (on_right a b) (by grind) (by grind) (by grind) (by grind)
        have k2 := ss b a (on_right a b) (on_left a b) (by grind) (by grind) (by grind) (by grind)
        unfold chi phi; grind
      · obtain ⟨p', hp', py', hc'⟩ := g2 (by grind) (by grind) hqr'
        have k1 := ss a p' (on_left a b) hp' (by grind) (by grind) (by grind) (by grind)
        have k2 := ss p' a hp' (on_left a b) (by grind) (by grind) (by grind) (by grind)
        unfold chi phi; grind
    · unfold chi phi; grind
  · have e : q.y = r.y := by grind
    by_cases ha : a.y ≤ q.y ∧ q.y < b.y
    · obtain ⟨p, hp, py, hc⟩ := at_height hab' ha.1 (by grind)
      have c1 := hc q rfl
      have c2 := hc r (by grind)
      have d1 := pos_mul_iff (a := b.y - a.y) (b := p.x - q.x) (by grind)
      have d2 := pos_mul_iff (a := b.y - a.y) (b := p.x - r.x) (by grind)
      have hno : ¬ (q.x ≤ p.x ∧ p.x ≤ r.x ∨ r.x ≤ p.x ∧ p.x ≤ q.x) := by
        intro hx
        refine h p hp ((on_iff q r p).2 ⟨?_, hx, by grind⟩)
        unfold cr; rw [py, ← e]; grind
      unfold chi phi; grind
    · have e1 : chi a b q = 0 := by unfold chi; grind
      have e2 : chi a b r = 0 := by unfold chi; grind
      unfold phi; grind

theorem chi_phi {a b q r : Pt} (hqr : q.y ≤ r.y) (h : Disj a b q r) : chi a b q - chi a b r = phi q r b - phi q r a := by
  by_cases hab : a.y ≤ b.y
  · exact chi_phi_up hqr hab h
  · have := chi_phi_up hqr (by grind) h.flip
    have e1 := chi_anti a b q
    have e2 := chi_anti a b r
    omega

/-- the same without an order of q and r -/
def Phi (q r x : Pt) : Int := if q.y ≤ r.y then phi q r x else - phi r q x
theorem chi_Phi {a b q r : Pt} (h : Disj a b q r) : chi a b q - chi a b r = Phi q r b - Phi q r a := by
  unfold Phi
  by_cases hqr : q.y ≤ r.y
  · rw [if_pos hqr, if_pos hqr]; exact chi_phi hqr h
  · rw [if_neg hqr, if_neg hqr]
    have := chi_phi (a := a) (b := b) (q := r) (r := q) (by grind) h.flip'
    omega
end Geo

/- Plain lists: the sides of a closed list, their sums, rotations and reversals. -/
namespace Geo
section
variable {α : Type}
/-- consecutive pairs -/
def chain : List α → List (α × α)
  | [] => []
  | [_] => []
  | a :: b :: l => (a, b) :: chain (b :: l)
/-- the sides of a closed list -/
def edges : List α → List (α × α)
  | [] => []
  | x :: xs => chain (x :: xs ++ [x])

theorem chain_append (l : List α) (x : α) (m : List α) : chain (l ++ x :: m) = chain (l ++ [x]) ++ chain (x :: m) := by
  induction l with
  | nil => simp [chain]
  | cons a l ih =>
    cases l with
    | nil => simp [chain]
    | cons b l => simp only [List.cons_append, chain] at ih ⊢; rw [ih]
theorem edges_rot1 (ys : List α) (x : α) : (edges (ys ++ [x])).Perm (edges (x :: ys)) := by
  cases ys with
  | nil => exact .refl _
  | cons y ys =>
    show (chain (y :: ys ++ [x] ++ [y])).Perm (chain (x :: y :: ys ++ [x]))
    have e1 : chain (y :: ys ++ [x] ++ [y]) = chain (y :: ys ++ [x]) ++ [(x, y)] := by
      have := chain_append (y :: ys) x [y]
      rw [List.append_assoc]
      simpa [chain] using this
    have e2 : chain (x :: y :: ys ++ [x]) = (x, y) :: chain (y :: ys ++ [x]) := rfl
    rw [e1, e2]
    exact List.perm_append_comm
theorem edges_rot (l m : List α) : (edges (l ++ m)).Perm (edges (m ++ l)) := by
  induction m generalizing l with
  | nil => simp
  | cons x m ih =>
    have h1 := ih (l ++ [x])
    rw [List.append_assoc] at h1
    have h2 := edges_rot1 (m ++ l) x
    rw [List.append_assoc] at h2
    exact h1.trans h2
theorem chain_reverse (l : List α) : chain l.reverse = ((chain l).map Prod.swap).reverse := by
  induction l with
  | nil => rfl
  | cons a l ih =>
    cases l with
    | nil => rfl
    | cons b l =>
      have := chain_append l.reverse b [a]
      simp only [List.reverse_cons, List.append_assoc, List.cons_append, List.nil_append] at ih ⊢
      rw [this, ih]
      simp [chain]
theorem edges_reverse (l : List α) : (edges l.reverse).Perm ((edges l).map Prod.swap) := by
  cases l with
  | nil => exact .refl _
  | cons x xs =>
    rw [List.reverse_cons]
    refine (edges_rot1 xs.reverse x).trans ?_
    have e : x :: xs.reverse ++ [x] = (x :: xs ++ [x]).reverse := by simp
    show (chain (x :: xs.reverse ++ [x])).Perm _
    rw [e, chain_reverse]
    exact List.reverse_perm _
theorem chain_map {β : Type} (f : α → β) (l : List α) : chain (l.map f) = (chain l).map (Prod.map f f) := by
  induction l with
  | nil => rfl
  | cons a l ih =>
    cases l with
    | nil => rfl
    | cons b l => simp only [List.map_cons, chain] at ih ⊢; rw [ih]; rfl
theorem edges_map {β : Type} (f : α → β) (l : List α) : edges (l.map f) = (edges l).map (Prod.map f f) := by
  cases l with
  | nil => rfl
  | cons x xs =>
    show chain (f x :: xs.map f ++ [f x]) = (chain (x :: xs ++ [x])).map _
    rw [← chain_map]; simp
theorem chain_length (l : List α) : (chain l).length = l.length - 1 := by
  induction l with
  | nil => rfl
  | cons a l ih =>
    cases l with
    | nil => rfl
    | cons b l => simp only [chain, List.length_cons] at ih ⊢; omega
theorem chain_getElem (l : List α) (i : Nat) (h : i < (chain l).length) : (chain l)[i] = (l[i]'(by have := chain_length l; omega), l[i + 1]'(by have := chain_length l; omega)) := by
  induction l generalizing i with
  | nil => simp [chain] at h
  | cons a l ih =>
    cases l with
    | nil => simp [chain] at h
    | cons b l =>
      cases i with
      | zero => rfl
      | succ i =>
        simp only [chain, List.getElem_cons_succ]
        exact ih i (by simpa [chain] using h)
theorem edges_length (l : List α) : (edges l).length = l.length := by
  cases l with
  | nil => rfl
  | cons x xs => show (chain (x :: xs ++ [x])).length = _; rw [chain_length]; simp
/-- the sides by their numbers -/
theorem edges_getElem (l : List α) (i : Nat) (h : i < l.length) : (edges l)[i]'(by rw [edges_length]; exact h) = (l[i], l[(i + 1) % l.length]'(Nat.mod_lt _ (by omega))) := by
  cases l with
  | nil => simp at h
  | cons x xs =>
    have hc := chain_getElem (x :: xs ++ [x]) i (by rw [chain_length]; simp at h ⊢; omega)
    have e : (edges (x :: xs)) = chain (x :: xs ++ [x]) := rfl
    simp only [e, hc]
    have e1 : (x :: xs ++ [x])[i]'(by simp at h ⊢; omega) = (x :: xs)[i] := List.getElem_append_left h
    rw [e1]
    by_cases hi : i + 1 < (x :: xs).length
    · have e2 : (x :: xs ++ [x])[i + 1]'(by simp at hi ⊢; omega) = (x :: xs)[i + 1] := List.getElem_append_left hi
      rw [e2]
      simp only [Nat.mod_eq_of_lt hi]
    · have hi' : i + 1 = (x :: xs).length := by simp at h hi ⊢; omega
      have e2 : (x :: xs ++ [x])[i + 1]'(by simp at h ⊢; omega) = x := by
        rw [List.getElem_append_right (by omega)]; simp
      rw [e2]
      have e3 : (i + 1) % (x :: xs).length = 0 := by rw [hi']; exact Nat.mod_self _
      simp only [e3]
      rfl
theorem mem_edges {l : List α} {e : α × α} : e ∈ edges l ↔ ∃ i, ∃ h : i < l.length, e = (l[i], l[(i + 1) % l.length]'(Nat.mod_lt _ (by omega))) := by
  constructor
  · intro he
    obtain ⟨i, hi, rfl⟩ := List.getElem_of_mem he
    rw [edges_length] at hi
    exact ⟨i, hi, edges_getElem l i hi⟩
  · rintro ⟨i, hi, rfl⟩
    rw [← edges_getElem l i hi]
    exact List.getElem_mem _
theorem edges_fst_mem {l : List α} {e : α × α} (h : e ∈ edges l) : e.1 ∈ l := by
  obtain ⟨i, hi, rfl⟩ := mem_edges.1 h; exact List.getElem_mem _
theorem edges_snd_mem {l : List α} {e : α × α} (h : e ∈ edges l) : e.2 ∈ l := by
  obtain ⟨i, hi, rfl⟩ := mem_edges.1 h; exact List.getElem_mem _
theorem edge_from {l : List α} {x : α} (h : x ∈ l) : ∃ y, (x, y) ∈ edges l := by
  obtain ⟨i, hi, rfl⟩ := List.getElem_of_mem h
  exact ⟨_, mem_edges.2 ⟨i, hi, rfl⟩⟩

/-- sums over the sides -/
def esum (f : α × α → Int) (l : List (α × α)) : Int := (l.map f).sum
theorem esum_nil (f : α × α → Int) : esum f [] = 0 := rfl
theorem esum_cons (f : α × α → Int) (e : α × α) (l : List (α × α)) : esum f (e :: l) = f e + esum f l := by simp [esum]
theorem esum_append (f : α × α → Int) (l m : List (α × α)) : esum f (l ++ m) = esum f l + esum f m := by simp [esum]
theorem esum_perm (f : α × α → Int) {l m : List (α × α)} (h : l.Perm m) : esum f l = esum f m := by
  unfold esum
  induction h with
  | nil => rfl
  | cons x _ ih => simp [ih]
  | swap x y l => simp; omega
  | trans _ _ h1 h2 => omega
theorem esum_map (f : α × α → Int) {β : Type} (g : β × β → α × α) (l : List (β × β)) : esum f (l.map g) = esum (fun e => f (g e)) l := by
  simp [esum, Function.comp_def]
theorem esum_congr {f g : α × α → Int} {l : List (α × α)} (h : ∀ e ∈ l, f e = g e) : esum f l = esum g l := by
  unfold esum; rw [List.map_congr_left h]
theorem esum_neg (f : α × α → Int) (l : List (α × α)) : esum (fun e => - f e) l = - esum f l := by
  induction l with
  | nil => rfl
  | cons e l ih => rw [esum_cons, esum_cons, ih]; omega
theorem esum_add (f g : α × α → Int) (l : List (α × α)) : esum (fun e => f e + g e) l = esum f l + esum g l := by
  induction l with
  | nil => rfl
  | cons e l ih => rw [esum_cons, esum_cons, esum_cons, ih]; omega
theorem esum_sub (f g : α × α → Int) (l : List (α × α)) : esum (fun e => f e - g e) l = esum f l - esum g l := by
  induction l with
  | nil => rfl
  | cons e l ih => rw [esum_cons, esum_cons, esum_cons, ih]; omega
theorem esum_chain (φ : α → Int) (a : α) (l : List α) (b : α) : esum (fun e => φ e.2 - φ e.1) (chain (a :: l ++ [b])) = φ b - φ a := by
  induction l generalizing a with
  | nil => simp [chain, esum]
  | cons c l ih =>
    have e : chain (a :: (c :: l) ++ [b]) = (a, c) :: chain (c :: l ++ [b]) := rfl
    rw [e, esum_cons, ih]; simp only; omega
theorem esum_closed (φ : α → Int) (l : List α) : esum (fun e => φ e.2 - φ e.1) (edges l) = 0 := by
  cases l with
  | nil => rfl
  | cons x xs => show esum _ (chain (x :: xs ++ [x])) = 0; rw [esum_chain]; omega
end
end Geo

/- Simple polygons over the rationals, and how the program's own tests over the integers say the same. -/
namespace Geo

/-- distinct sides have at most common ends in common -/
structure Simple (l : List Pt) : Prop where
  three : 3 ≤ l.length
  nodup : l.Nodup
  apart : ∀ e ∈ edges l, ∀ f ∈ edges l, e ≠ f → ∀ p, On e.1 e.2 p → On f.1 f.2 p → (p = e.1 ∧ p = f.2) ∨ (p = e.2 ∧ p = f.1)

theorem Simple.perm {l m : List Pt} (h : Simple l) (hp : l.Perm m) (he : (edges l).Perm (edges m)) : Simple m :=
  ⟨hp.length_eq ▸ h.three, hp.nodup_iff.1 h.nodup, fun e hE f hF => h.apart e (he.mem_iff.2 hE) f (he.mem_iff.2 hF)⟩
theorem Simple.rot {l m : List Pt} (h : Simple (l ++ m)) : Simple (m ++ l) := h.perm List.perm_append_comm (edges_rot l m)
theorem Simple.reverse {l : List Pt} (h : Simple l) : Simple l.reverse := by
  have hm : ∀ e, e ∈ edges l.reverse ↔ e.swap ∈ edges l := fun e => by
    rw [(edges_reverse l).mem_iff, List.mem_map]
    constructor
    · rintro ⟨x, hx, rfl⟩; simpa using hx
    · intro hx; exact ⟨e.swap, hx, by simp⟩
  refine ⟨by simpa using h.three, (List.reverse_perm l).nodup_iff.2 h.nodup, fun e hE f hF hne p h1 h2 => ?_⟩
  have := h.apart e.swap ((hm e).1 hE) f.swap ((hm f).1 hF) (fun hh => hne (by rw [← Prod.swap_swap e, hh, Prod.swap_swap])) p (on_comm h1) (on_comm h2)
  rcases this with ⟨a, b⟩ | ⟨a, b⟩
  · exact .inr ⟨a, b⟩
  · exact .inl ⟨a, b⟩

/-- a vertex on a side is one of its ends -/
theorem Simple.vertex {l : List Pt} (h : Simple l) {x : Pt} (hx : x ∈ l) {e : Pt × Pt} (he : e ∈ edges l) (hon : On e.1 e.2 x) : x = e.1 ∨ x = e.2 := by
  obtain ⟨y, hy⟩ := edge_from hx
  by_cases hne : (x, y) = e
  · left; rw [← hne]
  · rcases h.apart _ hy e he hne x (on_left x y) hon with ⟨_, h2⟩ | ⟨_, h2⟩
    · exact .inr h2
    · exact .inl h2
/-- the ends of a side differ -/
theorem Simple.ends {l : List Pt} (h : Simple l) {e : Pt × Pt} (he : e ∈ edges l) : e.1 ≠ e.2 := by
  obtain ⟨i, hi, rfl⟩ := mem_edges.1 he
  intro heq
  have h3 := h.three
  have hlt : (i + 1) % l.length < l.length := Nat.mod_lt _ (by omega)
  have hinj := (List.getElem_inj (h₀ := hi) (h₁ := hlt) h.nodup).1 heq
  by_cases hc : i + 1 < l.length
  · rw [Nat.mod_eq_of_lt hc] at hinj; omega
  · have : i + 1 = l.length := by omega
    rw [this, Nat.mod_self] at hinj; omega
/-- sides with one beginning are one -/
theorem Simple.from_eq {l : List Pt} (h : Simple l) {a b c : Pt} (h1 : (a, b) ∈ edges l) (h2 : (a, c) ∈ edges l) : b = c := by
  obtain ⟨i, hi, e1⟩ := mem_edges.1 h1
  obtain ⟨j, hj, e2⟩ := mem_edges.1 h2
  injection e1 with a1 b1
  injection e2 with a2 b2
  have := (List.getElem_inj (h₀ := hi) (h₁ := hj) h.nodup).1 (a1.symm.trans a2)
  subst this
  rw [b1, b2]
theorem Simple.to_eq {l : List Pt} (h : Simple l) {a b c : Pt} (h1 : (a, c) ∈ edges l) (h2 : (b, c) ∈ edges l) : a = b := by
  obtain ⟨i, hi, e1⟩ := mem_edges.1 h1
  obtain ⟨j, hj, e2⟩ := mem_edges.1 h2
  injection e1 with a1 b1
  injection e2 with a2 b2
  have h3 := h.three
  have hli : (i + 1) % l.length < l.length := Nat.mod_lt _ (by omega)
  have hlj : (j + 1) % l.length < l.length := Nat.mod_lt _ (by omega)
  have := (List.getElem_inj (h₀ := hli) (h₁ := hlj) h.nodup).1 (b1.symm.trans b2)
  have e : i = j := by
    by_cases ci : i + 1 < l.length
    · rw [Nat.mod_eq_of_lt ci] at this
      by_cases cj : j + 1 < l.length
      · rw [Nat.mod_eq_of_lt cj] at this; omega
      · have ej : j + 1 = l.length := by omega
        rw [ej, Nat.mod_self] at this; omega
    · have ei : i + 1 = l.length := by omega
      rw [ei, Nat.mod_self] at this
      by_cases cj : j + 1 < l.length
      · rw [Nat.mod_eq_of_lt cj] at this; omega
      · omega
  subst e
  rw [a1, a2]

theorem cr_line {a b c d : Pt} (h : a ≠ b) (h1 : cr a b c = 0) (h2 : cr a b d = 0) : cr c d a = 0 ∧ cr c d b = 0 := by
  have hne : b.x - a.x ≠ 0 ∨ b.y - a.y ≠ 0 := by
    by_cases hx : b.x - a.x = 0
    · by_cases hy : b.y - a.y = 0
      · exact absurd (Pt.ext' (by grind) (by grind)) h
      · exact .inr hy
    · exact .inl hx
  rcases hne with hn | hn
  · have e1 : (b.x - a.x) * cr c d a = 0 := by unfold cr at *; grind
    have e2 : (b.x - a.x) * cr c d b = 0 := by unfold cr at *; grind
    exact ⟨(Rat.mul_eq_zero.1 e1).resolve_left hn, (Rat.mul_eq_zero.1 e2).resolve_left hn⟩
  · have e1 : (b.y - a.y) * cr c d a = 0 := by unfold cr at *; grind
    have e2 : (b.y - a.y) * cr c d b = 0 := by unfold cr at *; grind
    exact ⟨(Rat.mul_eq_zero.1 e1).resolve_left hn, (Rat.mul_eq_zero.1 e2).resolve_left hn⟩

theorem line_meet_x {a b c d p : Pt} (hab : a.x < b.x) (h1 : cr a b c = 0) (h2 : cr a b d = 0) (hp : On a b p) (hq : On c d p) : On a b c ∨ On a b d ∨ On c d a ∨ On c d b := by
  have hl := cr_line (a := a) (b := b) (fun h => by rw [h] at hab; grind) h1 h2
  have p1 := on_x_ge hp (m := a.x) (by grind) (by grind)
  have p2 := on_x_le hp (m := b.x) (by grind) (by grind)
  by_cases k1 : On a b c; · exact .inl k1
  by_cases k2 : On a b d; · exact .inr (.inl k2)
  have c1 : c.x < a.x ∨ b.x < c.x := by
    by_cases u : c.x < a.x; · exact .inl u
    by_cases v : b.x < c.x; · exact .inr v
    exact absurd (on_of_x h1 hab (by grind) (by grind)) k1
  have d1 : d.x < a.x ∨ b.x < d.x := by
    by_cases u : d.x < a.x; · exact .inl u
    by_cases v : b.x < d.x; · exact .inr v
    exact absurd (on_of_x h2 hab (by grind) (by grind)) k2
  rcases c1 with c1 | c1 <;> rcases d1 with d1 | d1
  · have := on_x_le hq (m := max c.x d.x) (by grind) (by grind); grind
  · exact .inr (.inr (.inl (on_of_x hl.1 (by grind) (by grind) (by grind))))
  · exact .inr (.inr (.inl (on_comm (on_of_x (by rw [cr_swap, hl.1]; grind) (by grind) (by grind) (by grind)))))
  · have := on_x_ge hq (m := min c.x d.x) (by grind) (by grind); grind
theorem line_meet_y {a b c d p : Pt} (hab : a.y < b.y) (h1 : cr a b c = 0) (h2 : cr a b d = 0) (hp : On a b p) (hq : On c d p) : On a b c ∨ On a b d ∨ On c d a ∨ On c d b := by
  have hl := cr_line (a := a) (b := b) (fun h => by rw [h] at hab; grind) h1 h2
  have p1 := on_y_ge hp (m := a.y) (by grind) (by grind)
  have p2 := on_y_le hp (m := b.y) (by grind) (by grind)
  by_cases k1 : On a b c; · exact .inl k1
  by_cases k2 : On a b d; · exact .inr (.inl k2)
  have c1 : c.y < a.y ∨ b.y < c.y := by
    by_cases u : c.y < a.y; · exact .inl u
    by_cases v : b.y < c.y; · exact .inr v
    exact absurd (on_of_y h1 hab (by grind) (by grind)) k1
  have d1 : d.y < a.y ∨ b.y < d.y := by
    by_cases u : d.y < a.y; · exact .inl u
    by_cases v : b.y < d.y; · exact .inr v
    exact absurd (on_of_y h2 hab (by grind) (by grind)) k2
  rcases c1 with c1 | c1 <;> rcases d1 with d1 | d1
  · have := on_y_le hq (m := max c.y d.y) (by grind) (by grind); grind
  · exact .inr (.inr (.inl (on_of_y hl.1 (by grind) (by grind) (by grind))))
  · exact .inr (.inr (.inl (on_comm (on_of_y (by rw [cr_swap, hl.1]; grind) (by grind) (by grind) (by grind)))))
  · have := on_y_ge hq (m := min c.y d.y) (by grind) (by grind); grind
/-- segments on one line -/
theorem line_meet {a b c d p : Pt} (h1 : cr a b c = 0) (h2 : cr a b d = 0) (hp : On a b p) (hq : On c d p) : On a b c ∨ On a b d ∨ On c d a ∨ On c d b := by
  by_cases x1 : a.x < b.x; · exact line_meet_x x1 h1 h2 hp hq
  by_cases x2 : b.x < a.x
  · rcases line_meet_x x2 (by rw [cr_swap, h1]; grind) (by rw [cr_swap, h2]; grind) (on_comm hp) hq with h | h | h | h
    · exact .inl (on_comm h)
    · exact .inr (.inl (on_comm h))
    · exact .inr (.inr (.inr h))
    · exact .inr (.inr (.inl h))
  by_cases y1 : a.y < b.y; · exact line_meet_y y1 h1 h2 hp hq
  by_cases y2 : b.y < a.y
  · rcases line_meet_y y2 (by rw [cr_swap, h1]; grind) (by rw [cr_swap, h2]; grind) (on_comm hp) hq with h | h | h | h
    · exact .inl (on_comm h)
    · exact .inr (.inl (on_comm h))
    · exact .inr (.inr (.inr h))
    · exact .inr (.inr (.inl h))
  have : a = b := Pt.ext' (by grind) (by grind)
  subst this
  have := on_self hp
  subst this
  exact .inr (.inr (.inl hq))

theorem mul_neg_iff {a b : Rat} : a * b < 0 ↔ (0 < a ∧ b < 0) ∨ (a < 0 ∧ 0 < b) := by
  constructor
  · intro h
    by_cases ha : 0 < a
    · by_cases hb : b < 0; · exact .inl ⟨ha, hb⟩
      have := Rat.mul_nonneg (a := a) (b := b) (by grind) (by grind); grind
    by_cases ha2 : a < 0
    · by_cases hb : 0 < b; · exact .inr ⟨ha2, hb⟩
      have := Rat.mul_nonneg (a := -a) (b := -b) (by grind) (by grind); grind
    have : a = 0 := by grind
    subst this; grind
  · rintro (⟨h1, h2⟩ | ⟨h1, h2⟩)
    · have := Rat.mul_pos (a := a) (b := -b) h1 (by grind); grind
    · have := Rat.mul_pos (a := -a) (b := b) (by grind) h2; grind

theorem parted_of {a b c d p : Pt} (hp : cr a b p = 0) (hq : On c d p) (hc : p ≠ c) (hd : p ≠ d) : (cr a b c = 0 ∧ cr a b d = 0) ∨ cr a b c * cr a b d < 0 := by
  obtain ⟨k, k0, k1, rfl⟩ := hq
  rw [cr_lerp] at hp
  have hk0 : k ≠ 0 := fun h => hc (by rw [h, lerp_zero])
  have hk1 : k ≠ 1 := fun h => hd (by rw [h, lerp_one])
  rw [mul_neg_iff]
  by_cases s1 : cr a b c = 0
  · have : k * cr a b d = 0 := by grind
    have := (Rat.mul_eq_zero.1 this).resolve_left hk0
    exact .inl ⟨s1, this⟩
  right
  by_cases s2 : 0 < cr a b c
  · left; refine ⟨s2, ?_⟩
    by_cases s3 : cr a b d < 0; · exact s3
    have e1 := Rat.mul_pos (a := 1 - k) (b := cr a b c) (by grind) s2
    have e2 := Rat.mul_nonneg (a := k) (b := cr a b d) k0 (by grind)
    grind
  · right; refine ⟨by grind, ?_⟩
    by_cases s3 : 0 < cr a b d; · exact s3
    have e1 := Rat.mul_pos (a := 1 - k) (b := - cr a b c) (by grind) (by grind)
    have e2 := Rat.mul_nonneg (a := k) (b := - cr a b d) k0 (by grind)
    grind

/-- two segments meet exactly if an end lies on the other one, or each parts the other's ends -/
theorem meet_iff (a b c d : Pt) : (∃ p, On a b p ∧ On c d p) ↔ (On a b c ∨ On a b d ∨ On c d a ∨ On c d b ∨ (cr a b c * cr a b d < 0 ∧ cr c d a * cr c d b < 0)) := by
  constructor
  · rintro ⟨p, h1, h2⟩
    by_cases k1 : On a b c; · exact .inl k1
    by_cases k2 : On a b d; · exact .inr (.inl k2)
    by_cases k3 : On c d a; · exact .inr (.inr (.inl k3))
    by_cases k4 : On c d b; · exact .inr (.inr (.inr (.inl k4)))
    have n1 : p ≠ c := fun h => k1 (h ▸ h1)
    have n2 : p ≠ d := fun h => k2 (h ▸ h1)
    have n3 : p ≠ a := fun h => k3 (h ▸ h2)
    have n4 : p ≠ b := fun h => k4 (h ▸ h2)
    rcases parted_of (cr_on h1) h2 n1 n2 with ⟨u, v⟩ | u
    · rcases line_meet u v h1 h2 with h | h | h | h
      · exact absurd h k1
      · exact absurd h k2
      · exact absurd h k3
      · exact absurd h k4
    rcases parted_of (cr_on h2) h1 n3 n4 with ⟨u', v⟩ | u'
    · rcases line_meet u' v h2 h1 with h | h | h | h
      · exact absurd h k3
      · exact absurd h k4
      · exact absurd h k1
      · exact absurd h k2
    exact .inr (.inr (.inr (.inr ⟨u, u'⟩)))
  · rintro (h | h | h | h | ⟨h1, h2⟩)
    · exact ⟨c, h, on_left c d⟩
    · exact ⟨d, h, on_right c d⟩
    · exact ⟨a, on_left a b, h⟩
    · exact ⟨b, on_right a b, h⟩
    · rw [mul_neg_iff] at h1 h2
      have hp : ∃ p, On a b p ∧ cr c d p = 0 := by
        rcases h2 with ⟨u, v⟩ | ⟨u, v⟩
        · exact cross_zero (by grind) (by grind)
        · exact cross_zero' (by grind) (by grind)
      have hq : ∃ q, On c d q ∧ cr a b q = 0 := by
        rcases h1 with ⟨u, v⟩ | ⟨u, v⟩
        · exact cross_zero (by grind) (by grind)
        · exact cross_zero' (by grind) (by grind)
      obtain ⟨p, p1, p2⟩ := hp
      obtain ⟨q, q1, q2⟩ := hq
      have p3 := cr_on p1
      have q3 := cr_on q1
      have hD : cr a b d - cr a b c ≠ 0 := by grind
      have e1 : (cr a b d - cr a b c) * (p.x - q.x) = 0 := by unfold cr at *; grind
      have e2 : (cr a b d - cr a b c) * (p.y - q.y) = 0 := by unfold cr at *; grind
      have e : p = q := Pt.ext' (by have := (Rat.mul_eq_zero.1 e1).resolve_left hD; grind) (by have := (Rat.mul_eq_zero.1 e2).resolve_left hD; grind)
      subst e
      exact ⟨p, p1, q1⟩
end Geo

/- Winding numbers of closed lists over the rationals: moved points, triangles, separated points. -/
namespace Geo

/-- the number of turns of the closed list around q, by the crossings of the ray to the right -/
def w (l : List Pt) (q : Pt) : Int := esum (fun e => chi e.1 e.2 q) (edges l)
/-- the same sum along an open chain -/
def cw (l : List Pt) (q : Pt) : Int := esum (fun e => chi e.1 e.2 q) (chain l)

theorem w_perm {l m : List Pt} (h : (edges l).Perm (edges m)) (q : Pt) : w l q = w m q := esum_perm _ h

theorem w_const {l : List Pt} {q r : Pt} (h : ∀ e ∈ edges l, Disj e.1 e.2 q r) : w l q = w l r := by
  have e1 : w l q - w l r = esum (fun e => Phi q r e.2 - Phi q r e.1) (edges l) := by
    unfold w; rw [← esum_sub]; exact esum_congr fun e he => chi_Phi (h e he)
  have := esum_closed (Phi q r) l
  omega
theorem cw_move {a b : Pt} {l : List Pt} {q r : Pt} (h : ∀ e ∈ chain (a :: l ++ [b]), Disj e.1 e.2 q r) : cw (a :: l ++ [b]) q - cw (a :: l ++ [b]) r = Phi q r b - Phi q r a := by
  unfold cw
  rw [← esum_sub, esum_congr (g := fun e => Phi q r e.2 - Phi q r e.1) (fun e he => chi_Phi (h e he))]
  exact esum_chain (Phi q r) a l b

theorem esum_none {f : Pt × Pt → Int} {l : List (Pt × Pt)} (h : ∀ e ∈ l, f e = 0) : esum f l = 0 := by
  induction l with
  | nil => rfl
  | cons e l ih => rw [esum_cons, h e (List.mem_cons_self ..), ih (fun e he => h e (List.mem_cons_of_mem _ he))]; rfl
theorem chi_above {a b q : Pt} (h1 : a.y ≤ q.y) (h2 : b.y ≤ q.y) : chi a b q = 0 := by unfold chi; grind
theorem chi_below {a b q : Pt} (h1 : q.y < a.y) (h2 : q.y < b.y) : chi a b q = 0 := by unfold chi; grind
theorem chi_line {a b q : Pt} (h : cr a b q = 0) : chi a b q = 0 := by unfold chi; grind
theorem w_above {l : List Pt} {q : Pt} (h : ∀ x ∈ l, x.y ≤ q.y) : w l q = 0 := esum_none fun _ he => chi_above (h _ (edges_fst_mem he)) (h _ (edges_snd_mem he))
theorem w_below {l : List Pt} {q : Pt} (h : ∀ x ∈ l, q.y < x.y) : w l q = 0 := esum_none fun _ he => chi_below (h _ (edges_fst_mem he)) (h _ (edges_snd_mem he))

theorem y_bound (l : List Pt) : ∃ M : Rat, ∀ x ∈ l, x.y ≤ M := by
  induction l with
  | nil => exact ⟨0, by simp⟩
  | cons a l ih =>
    obtain ⟨M, hM⟩ := ih
    refine ⟨max a.y M, fun x hx => ?_⟩
    rcases List.mem_cons.1 hx with rfl | hx
    · grind
    · have := hM x hx; grind

theorem reach_up {q d M : Rat} (hd : 0 < d) : ∃ k : Rat, 0 ≤ k ∧ M ≤ q + k * d := by
  by_cases h : M ≤ q
  · exact ⟨0, by grind, by grind⟩
  · have e : (M - q) / d * d = M - q := Rat.div_mul_cancel (by grind)
    generalize (M - q) / d = k at *
    refine ⟨k, ?_, by grind⟩
    by_cases hc : 0 ≤ k; · exact hc
    have := Rat.mul_pos (a := -k) (b := d) (by grind) hd
    grind

theorem w_sep_up {l : List Pt} {s t q : Pt} {d : Pt} (hd : 0 < d.y) (hpar : ∀ k : Rat, cr s t ⟨q.x + k * d.x, q.y + k * d.y⟩ = cr s t q) (h : ∀ x ∈ l, 0 ≤ cr s t x) (hq : cr s t q < 0) : w l q = 0 := by
  obtain ⟨M, hM⟩ := y_bound l
  obtain ⟨k, k0, hk⟩ := reach_up (q := q.y) (M := M) hd
  have e : w l q = w l ⟨q.x + k * d.x, q.y + k * d.y⟩ := w_const fun e he p p1 p2 => by
    have a1 := on_cr_ge p1 (h _ (edges_fst_mem he)) (h _ (edges_snd_mem he))
    have a2 := on_cr_neg p2 hq (by rw [hpar]; exact hq)
    grind
  rw [e]
  exact w_above fun x hx => by have := hM x hx; simp only; grind

/-- a point strictly on the right of a line, with all vertices on its left or on it, is not turned around -/
theorem w_sep {l : List Pt} {s t q : Pt} (h : ∀ x ∈ l, 0 ≤ cr s t x) (hq : cr s t q < 0) : w l q = 0 := by
  by_cases h1 : s.y < t.y
  · exact w_sep_up (d := ⟨t.x - s.x, t.y - s.y⟩) (by simp only; grind) (fun k => by unfold cr; grind) h hq
  by_cases h2 : t.y < s.y
  · exact w_sep_up (d := ⟨s.x - t.x, s.y - t.y⟩) (by simp only; grind) (fun k => by unfold cr; grind) h hq
  have e : s.y = t.y := by grind
  have ec : ∀ x : Pt, cr s t x = (t.x - s.x) * (x.y - s.y) := fun x => by unfold cr; grind
  by_cases h3 : s.x < t.x
  · refine w_below fun x hx => ?_
    have a1 := h x hx
    rw [ec] at a1 hq
    have b1 := mul_neg_iff.1 hq
    by_cases hc : q.y < x.y; · exact hc
    have := Rat.mul_pos (a := t.x - s.x) (b := s.y - x.y) (by grind) (by grind)
    grind
  · refine w_above fun x hx => ?_
    have a1 := h x hx
    rw [ec] at a1 hq
    have b1 := mul_neg_iff.1 hq
    by_cases hc : x.y ≤ q.y; · exact hc
    have := Rat.mul_pos (a := s.x - t.x) (b := x.y - s.y) (by grind) (by grind)
    grind

/-- the closed triangle -/
def InT (a b c q : Pt) : Prop := 0 ≤ cr a b q ∧ 0 ≤ cr b c q ∧ 0 ≤ cr c a q

theorem w_tri (a b c q : Pt) : w [a, b, c] q = chi a b q + chi b c q + chi c a q := by
  simp [w, edges, chain, esum]; omega
theorem tri_bary (a b c q : Pt) : cr b c q * (a.y - q.y) + cr c a q * (b.y - q.y) + cr a b q * (c.y - q.y) = 0 := by unfold cr; grind
theorem tri_baryx (a b c q : Pt) : cr b c q * (a.x - q.x) + cr c a q * (b.x - q.x) + cr a b q * (c.x - q.x) = 0 := by unfold cr; grind

theorem chi_left {a b q : Pt} (h : 0 < cr a b q) : chi a b q = if a.y ≤ q.y ∧ q.y < b.y then 1 else 0 := by unfold chi; grind
theorem chi_right {a b q : Pt} (h : cr a b q < 0) : chi a b q = if b.y ≤ q.y ∧ q.y < a.y then -1 else 0 := by unfold chi; grind

theorem tri_in {a b c q : Pt} (h1 : 0 < cr a b q) (h2 : 0 < cr b c q) (h3 : 0 < cr c a q) : w [a, b, c] q = 1 := by
  have id := tri_bary a b c q
  have n1 : ¬ (q.y < a.y ∧ q.y < b.y ∧ q.y < c.y) := fun ⟨u, v, z⟩ => by
    have g1 := Rat.mul_pos h2 (b := a.y - q.y) (by grind)
    have g2 := Rat.mul_pos h3 (b := b.y - q.y) (by grind)
    have g3 := Rat.mul_pos h1 (b := c.y - q.y) (by grind)
    grind
  have n2 : ¬ (a.y ≤ q.y ∧ b.y ≤ q.y ∧ c.y ≤ q.y) := fun ⟨u, v, z⟩ => by
    have g1 := Rat.mul_nonneg (a := cr b c q) (b := q.y - a.y) (by grind) (by grind)
    have g2 := Rat.mul_nonneg (a := cr c a q) (b := q.y - b.y) (by grind) (by grind)
    have g3 := Rat.mul_nonneg (a := cr a b q) (b := q.y - c.y) (by grind) (by grind)
    have z1 : cr b c q * (q.y - a.y) = 0 := by grind
    have z2 : cr c a q * (q.y - b.y) = 0 := by grind
    have y1 := (Rat.mul_eq_zero.1 z1).resolve_left (by grind)
    have y2 := (Rat.mul_eq_zero.1 z2).resolve_left (by grind)
    have : cr a b q = 0 := by
      have e1 : a.y = q.y := by grind
      have e2 : b.y = q.y := by grind
      unfold cr; rw [e1, e2]; grind
    grind
  rw [w_tri, chi_left h1, chi_left h2, chi_left h3]
  grind
theorem tri_out {a b c q : Pt} (h : 0 < cr a b c) (hq : ¬ InT a b c q) : w [a, b, c] q = 0 := by
  have c1 := cr_rot a b c
  have c2 := cr_rot2 a b c
  unfold InT at hq
  by_cases h1 : 0 ≤ cr a b q
  · by_cases h2 : 0 ≤ cr b c q
    · refine w_sep (s := c) (t := a) (fun x hx => ?_) (q := q) (by grind)
      simp only [List.mem_cons, List.not_mem_nil, or_false] at hx
      rcases hx with rfl | rfl | rfl
      · rw [cr_self']; grind
      · grind
      · rw [cr_self]; grind
    · refine w_sep (s := b) (t := c) (fun x hx => ?_) (q := q) (by grind)
      simp only [List.mem_cons, List.not_mem_nil, or_false] at hx
      rcases hx with rfl | rfl | rfl
      · grind
      · rw [cr_self]; grind
      · rw [cr_self']; grind
  · refine w_sep (s := a) (t := b) (fun x hx => ?_) (q := q) (by grind)
    simp only [List.mem_cons, List.not_mem_nil, or_false] at hx
    rcases hx with rfl | rfl | rfl
    · rw [cr_self]; grind
    · rw [cr_self']; grind
    · grind

/-- what is counted at the points of a side -/
def D (a b : Pt) : Int := if b.y < a.y ∨ (b.y = a.y ∧ a.x < b.x) then 1 else 0
theorem D_swap {a b : Pt} (h : a ≠ b) : D a b + D b a = 1 := by
  have : ¬ (a.x = b.x ∧ a.y = b.y) := fun ⟨h1, h2⟩ => h (Pt.ext' h1 h2)
  unfold D; grind

/-- a point of a side that is none of its ends -/
theorem open_at {a b m : Pt} (h : On a b m) (ha : m ≠ a) (hb : m ≠ b) : ∃ t : Rat, 0 < t ∧ t < 1 ∧ m = lerp a b t := by
  obtain ⟨t, t0, t1, rfl⟩ := h
  have h0 : t ≠ 0 := fun h => ha (by rw [h, lerp_zero])
  have h1 : t ≠ 1 := fun h => hb (by rw [h, lerp_one])
  exact ⟨t, by grind, by grind, rfl⟩
theorem open_y {a b : Pt} {t : Rat} (h0 : 0 < t) (h1 : t < 1) : (a.y < b.y → a.y < (lerp a b t).y ∧ (lerp a b t).y < b.y) ∧ (b.y < a.y → b.y < (lerp a b t).y ∧ (lerp a b t).y < a.y) ∧ (a.y = b.y → (lerp a b t).y = a.y) := by
  simp only [lerp]
  refine ⟨fun h => ?_, fun h => ?_, fun h => ?_⟩
  · have g1 := Rat.mul_pos h0 (b := b.y - a.y) (by grind)
    have g2 := Rat.mul_pos (a := 1 - t) (by grind) (b := b.y - a.y) (by grind)
    grind
  · have g1 := Rat.mul_pos h0 (b := a.y - b.y) (by grind)
    have g2 := Rat.mul_pos (a := 1 - t) (by grind) (b := a.y - b.y) (by grind)
    grind
  · rw [h]; grind
theorem flat_cr {a b c : Pt} (h : a.y = b.y) : cr a b c = (b.x - a.x) * (c.y - a.y) := by unfold cr; grind

theorem mul_pos_iff' {a b : Rat} : 0 < a * b ↔ (0 < a ∧ 0 < b) ∨ (a < 0 ∧ b < 0) := by
  have := mul_neg_iff (a := a) (b := -b)
  grind

theorem tri_rim {a b c m : Pt} (h : 0 < cr a b c) (hm : On a b m) (ha : m ≠ a) (hb : m ≠ b) : w [a, b, c] m = D a b := by
  have hz := cr_on hm
  obtain ⟨t, t0, t1, rfl⟩ := open_at hm ha hb
  have e1 : cr b c (lerp a b t) = (1 - t) * cr a b c := by rw [cr_lerp, cr_self, cr_rot]; grind
  have e2 : cr c a (lerp a b t) = t * cr a b c := by rw [cr_lerp, cr_self', cr_rot2]; grind
  have p1 : 0 < cr b c (lerp a b t) := by rw [e1]; exact Rat.mul_pos (by grind) h
  have p2 : 0 < cr c a (lerp a b t) := by rw [e2]; exact Rat.mul_pos t0 h
  obtain ⟨y1, y2, y3⟩ := open_y (a := a) (b := b) t0 t1
  rw [w_tri, chi_line hz, chi_left p1, chi_left p2]
  generalize lerp a b t = m at *
  by_cases c1 : a.y < b.y
  · have := y1 c1; unfold D; grind
  by_cases c2 : b.y < a.y
  · have := y2 c2; unfold D; grind
  have c3 : a.y = b.y := by grind
  have := y3 c3
  rw [flat_cr c3, mul_pos_iff'] at h
  unfold D; grind

/-- how the sum along the chain behind a side changes from a point of the side to a point on the side's right -/
theorem G_sign {p s y m : Pt} (hm : On p s m) (hp : m ≠ p) (hs : m ≠ s) (hy : cr p s y < 0) : Phi y m p - Phi y m s = - D p s - chi p s y := by
  obtain ⟨t, t0, t1, rfl⟩ := open_at hm hp hs
  have e1 : cr y (lerp p s t) p = - (t * cr p s y) := by unfold cr lerp; grind
  have e2 : cr y (lerp p s t) s = (1 - t) * cr p s y := by unfold cr lerp; grind
  have p1 : 0 < cr y (lerp p s t) p := by
    have := Rat.mul_pos t0 (b := - cr p s y) (by grind); grind
  have p2 : cr y (lerp p s t) s < 0 := by
    have := Rat.mul_pos (a := 1 - t) (b := - cr p s y) (by grind) (by grind); grind
  have s1 := cr_swap y (lerp p s t) p
  have s2 := cr_swap y (lerp p s t) s
  obtain ⟨y1, y2, y3⟩ := open_y (a := p) (b := s) t0 t1
  rw [chi_right hy]
  generalize lerp p s t = m at *
  unfold Phi phi D
  by_cases c1 : p.y < s.y
  · have := y1 c1; grind
  by_cases c2 : s.y < p.y
  · have := y2 c2; grind
  have c3 : p.y = s.y := by grind
  have := y3 c3
  rw [flat_cr c3, mul_neg_iff] at hy
  grind
theorem G_move {p s y m : Pt} {R : List Pt} (hm : On p s m) (hp : m ≠ p) (hs : m ≠ s) (hy : cr p s y < 0) (hd : ∀ e ∈ chain (s :: R ++ [p]), Disj e.1 e.2 y m) :
    cw (s :: R ++ [p]) y = cw (s :: R ++ [p]) m - D p s - chi p s y := by
  have h1 := cw_move hd
  have h2 := G_sign hm hp hs hy
  omega
end Geo

/- A vertex cut off a simple polygon: the rest is simple, and what its triangle holds. -/
namespace Geo

theorem chain_mem {α : Type} {a b : α} {l : List α} {f : α × α} (h : f ∈ chain (a :: l ++ [b])) : f.1 ∈ a :: l ∧ f.2 ∈ l ++ [b] := by
  induction l generalizing a with
  | nil => simp [chain] at h; subst h; simp
  | cons c l ih =>
    have e : chain (a :: (c :: l) ++ [b]) = (a, c) :: chain (c :: l ++ [b]) := rfl
    rw [e] at h
    rcases List.mem_cons.1 h with rfl | h
    · simp
    · obtain ⟨h1, h2⟩ := ih h
      exact ⟨List.mem_cons_of_mem _ h1, List.mem_cons_of_mem _ h2⟩

theorem tri_side {a b c k : Pt} (h : 0 < cr a b c) (h0 : cr a b k = 0) (h1 : 0 ≤ cr b c k) (h2 : 0 ≤ cr c a k) : On a b k := by
  have hs := cr_sum a b c k
  obtain ⟨t0, t1, te⟩ := div_unit (m := cr c a k) (n := cr a b c) h2 (by grind) h
  generalize cr c a k / cr a b c = t at *
  refine ⟨t, t0, t1, ?_⟩
  have g1 : cr a b c * (k.x - (a.x + t * (b.x - a.x))) = 0 := by
    have i : cr a b c * (k.x - a.x) = cr c a k * (b.x - a.x) + cr a b k * (c.x - a.x) := by unfold cr; grind
    grind
  have g2 : cr a b c * (k.y - (a.y + t * (b.y - a.y))) = 0 := by
    have i : cr a b c * (k.y - a.y) = cr c a k * (b.y - a.y) + cr a b k * (c.y - a.y) := by unfold cr; grind
    grind
  exact Pt.ext' (by have := (Rat.mul_eq_zero.1 g1).resolve_left (by grind); simp only [lerp]; grind) (by have := (Rat.mul_eq_zero.1 g2).resolve_left (by grind); simp only [lerp]; grind)

theorem on_part {a b k k' : Pt} (h : On a b k') (hk : On a k' k) : On a b k := on_sub (on_left a b) h hk

theorem exit2 {a b c d k z : Pt} (h1 : 0 < cr a b k) (h2 : 0 < cr c d k) (hz : cr a b z < 0 ∨ cr c d z < 0) :
    ∃ k', On k z k' ∧ ((cr a b k' = 0 ∧ 0 ≤ cr c d k') ∨ (cr c d k' = 0 ∧ 0 ≤ cr a b k')) := by
  have key : ∀ a b c d : Pt, 0 < cr a b k → 0 < cr c d k → cr a b z < 0 → ∃ k', On k z k' ∧ ((cr a b k' = 0 ∧ 0 ≤ cr c d k') ∨ (cr c d k' = 0 ∧ 0 ≤ cr a b k')) := by
    intro a b c d h1 h2 hz
    obtain ⟨k1, o1, z1⟩ := cross_zero (s := a) (t := b) (a := k) (b := z) (by grind) (by grind)
    by_cases hc : 0 ≤ cr c d k1
    · exact ⟨k1, o1, .inl ⟨z1, hc⟩⟩
    · obtain ⟨k2, o2, z2⟩ := cross_zero (s := c) (t := d) (a := k) (b := k1) (by grind) (by grind)
      exact ⟨k2, on_part o1 o2, .inr ⟨z2, on_cr_ge o2 (by grind) (by grind)⟩⟩
  rcases hz with hz | hz
  · exact key a b c d h1 h2 hz
  · obtain ⟨k', o, h⟩ := key c d a b h2 h1 hz
    exact ⟨k', o, h.symm⟩

/-- a segment that leaves a triangle meets its boundary -/
theorem exit3 {a b c k z : Pt} (h : 0 < cr a b c) (h1 : 0 < cr a b k) (h2 : 0 < cr b c k) (h3 : 0 < cr c a k) (hz : ¬ InT a b c z) :
    ∃ k', On k z k' ∧ (On a b k' ∨ On b c k' ∨ On c a k') := by
  have c1 : 0 < cr b c a := by rw [cr_rot]; exact h
  have c2 : 0 < cr c a b := by rw [cr_rot2]; exact h
  have fin : ∀ k', On k z k' → InT a b c k' → (cr a b k' = 0 ∨ cr b c k' = 0 ∨ cr c a k' = 0) → ∃ k', On k z k' ∧ (On a b k' ∨ On b c k' ∨ On c a k') := by
    rintro k' ho ⟨i1, i2, i3⟩ (e | e | e)
    · exact ⟨k', ho, .inl (tri_side h e i2 i3)⟩
    · exact ⟨k', ho, .inr (.inl (tri_side c1 e i3 i1))⟩
    · exact ⟨k', ho, .inr (.inr (tri_side c2 e i1 i2))⟩
  by_cases hc : cr a b z < 0 ∨ cr b c z < 0
  · obtain ⟨k1, o1, hk⟩ := exit2 h1 h2 hc
    have hk' : 0 ≤ cr a b k1 ∧ 0 ≤ cr b c k1 ∧ (cr a b k1 = 0 ∨ cr b c k1 = 0) := by grind
    by_cases h4 : 0 ≤ cr c a k1
    · exact fin k1 o1 ⟨hk'.1, hk'.2.1, h4⟩ (by grind)
    · obtain ⟨k2, o2, z2⟩ := cross_zero (s := c) (t := a) (a := k) (b := k1) (by grind) (by grind)
      exact fin k2 (on_part o1 o2) ⟨on_cr_ge o2 (by grind) hk'.1, on_cr_ge o2 (by grind) hk'.2.1, by grind⟩ (.inr (.inr z2))
  · unfold InT at hz
    obtain ⟨k2, o2, z2⟩ := cross_zero (s := c) (t := a) (a := k) (b := z) (by grind) (by grind)
    exact fin k2 o2 ⟨on_cr_ge o2 (by grind) (by grind), on_cr_ge o2 (by grind) (by grind), by grind⟩ (.inr (.inr z2))

theorem between_end {a b k : Pt} (h1 : On a b k) (h2 : On k a b) : k = b := by
  obtain ⟨t, t0, t1, e1⟩ := h1
  obtain ⟨r, r0, r1, e2⟩ := h2
  have px : (1 - t + r * t) * (b.x - a.x) = 0 := by
    have x1 := congrArg Pt.x e1; have x2 := congrArg Pt.x e2; simp only [lerp] at x1 x2; grind
  have py : (1 - t + r * t) * (b.y - a.y) = 0 := by
    have x1 := congrArg Pt.y e1; have x2 := congrArg Pt.y e2; simp only [lerp] at x1 x2; grind
  by_cases hz : 1 - t + r * t = 0
  · have := Rat.mul_nonneg r0 t0
    have ht : t = 1 := by grind
    rw [e1, ht, lerp_one]
  · have hx := (Rat.mul_eq_zero.1 px).resolve_left hz
    have hy := (Rat.mul_eq_zero.1 py).resolve_left hz
    rw [e1]
    exact Pt.ext' (by simp only [lerp]; rw [hx]; grind) (by simp only [lerp]; rw [hy]; grind)

/-- two segments from one end: they have more in common exactly if one's other end lies on the other one -/
theorem adj_only {a b c p : Pt} (h1 : ¬ On a b c) (h2 : ¬ On b c a) (hp : On a b p) (hq : On b c p) : p = b := by
  by_cases hpb : p = b; · exact hpb
  exfalso
  obtain ⟨s, s0, s1, e1⟩ := on_comm hp
  obtain ⟨k, k0, k1, e2⟩ := hq
  have hs : s ≠ 0 := fun h => hpb (by rw [e1, h, lerp_zero])
  have hk : k ≠ 0 := fun h => hpb (by rw [e2, h, lerp_zero])
  have ex : s * (a.x - b.x) = k * (c.x - b.x) := by
    have := congrArg Pt.x (e1.symm.trans e2); simp only [lerp] at this; grind
  have ey : s * (a.y - b.y) = k * (c.y - b.y) := by
    have := congrArg Pt.y (e1.symm.trans e2); simp only [lerp] at this; grind
  by_cases hle : s ≤ k
  · obtain ⟨t0, t1, te⟩ := div_unit (m := s) (n := k) s0 hle (by grind)
    generalize s / k = t at *
    apply h1
    refine on_comm ⟨t, t0, t1, ?_⟩
    have g1 : k * (c.x - (b.x + t * (a.x - b.x))) = 0 := by grind
    have g2 : k * (c.y - (b.y + t * (a.y - b.y))) = 0 := by grind
    exact Pt.ext' (by have := (Rat.mul_eq_zero.1 g1).resolve_left hk; simp only [lerp]; grind) (by have := (Rat.mul_eq_zero.1 g2).resolve_left hk; simp only [lerp]; grind)
  · obtain ⟨t0, t1, te⟩ := div_unit (m := k) (n := s) k0 (by grind) (by grind)
    generalize k / s = t at *
    apply h2
    refine ⟨t, t0, t1, ?_⟩
    have g1 : s * (a.x - (b.x + t * (c.x - b.x))) = 0 := by grind
    have g2 : s * (a.y - (b.y + t * (c.y - b.y))) = 0 := by grind
    exact Pt.ext' (by have := (Rat.mul_eq_zero.1 g1).resolve_left hs; simp only [lerp]; grind) (by have := (Rat.mul_eq_zero.1 g2).resolve_left hs; simp only [lerp]; grind)

/-- of three points on a line one lies between the others -/
theorem mid3 {a b c : Pt} (h : cr a b c = 0) : On a b c ∨ On b c a ∨ On c a b := by
  have hx : ∀ a b c : Pt, cr a b c = 0 → a.x ≤ b.x → b.x ≤ c.x → a.x < c.x → On a c b := fun a b c h h1 h2 h3 => on_of_x (by unfold cr at *; grind) h3 h1 h2
  have hy : ∀ a b c : Pt, cr a b c = 0 → a.y ≤ b.y → b.y ≤ c.y → a.y < c.y → On a c b := fun a b c h h1 h2 h3 => on_of_y (by unfold cr at *; grind) h3 h1 h2
  have r1 : cr b c a = 0 := by rw [cr_rot]; exact h
  have r2 : cr c a b = 0 := by rw [cr_rot2]; exact h
  have r3 : cr b a c = 0 := by rw [cr_swap, h]; grind
  have r4 : cr a c b = 0 := by have := cr_swap c a b; grind
  have r5 : cr c b a = 0 := by have := cr_swap b c a; grind
  by_cases ex : a.x = b.x ∧ b.x = c.x
  · by_cases ey : a.y = b.y ∧ b.y = c.y
    · have : b = c := Pt.ext' ex.2 ey.2
      subst this; exact .inl (on_right _ _)
    · by_cases c1 : a.y ≤ b.y <;> by_cases c2 : b.y ≤ c.y <;> by_cases c3 : a.y ≤ c.y
      · exact .inr (.inr (on_comm (hy a b c h c1 c2 (by grind))))
      · exfalso; grind
      · exact .inl (hy a c b r4 c3 (by grind) (by grind))
      · exact .inr (.inl (on_comm (hy c a b r2 (by grind) c1 (by grind))))
      · exact .inr (.inl (hy b a c r3 (by grind) c3 (by grind)))
      · exact .inl (on_comm (hy b c a r1 c2 (by grind) (by grind)))
      · exfalso; grind
      · exact .inr (.inr (hy c b a r5 (by grind) (by grind) (by grind)))
  · by_cases c1 : a.x ≤ b.x <;> by_cases c2 : b.x ≤ c.x <;> by_cases c3 : a.x ≤ c.x
    · exact .inr (.inr (on_comm (hx a b c h c1 c2 (by grind))))
    · exfalso; grind
    · exact .inl (hx a c b r4 c3 (by grind) (by grind))
    · exact .inr (.inl (on_comm (hx c a b r2 (by grind) c1 (by grind))))
    · exact .inr (.inl (hx b a c r3 (by grind) c3 (by grind)))
    · exact .inl (on_comm (hx b c a r1 c2 (by grind) (by grind)))
    · exfalso; grind
    · exact .inr (.inr (hx c b a r5 (by grind) (by grind) (by grind)))

/-- a point of a segment lies on one of the parts that a point of it makes -/
theorem on_split {a b u k : Pt} (hu : On a b u) (hk : On a b k) : On a u k ∨ On u b k := by
  obtain ⟨r, r0, r1, rfl⟩ := hu
  obtain ⟨t, t0, t1, rfl⟩ := hk
  by_cases hle : t ≤ r
  · left
    by_cases hr : r = 0
    · have : t = 0 := by grind
      subst this; rw [lerp_zero]; exact on_left _ _
    · obtain ⟨q0, q1, qe⟩ := div_unit (m := t) (n := r) t0 hle (by grind)
      generalize t / r = q at *
      refine ⟨q, q0, q1, ?_⟩
      apply Pt.ext' <;> simp only [lerp] <;> grind
  · right
    obtain ⟨q0, q1, qe⟩ := div_unit (m := t - r) (n := 1 - r) (by grind) (by grind) (by grind)
    generalize (t - r) / (1 - r) = q at *
    refine ⟨q, q0, q1, ?_⟩
    apply Pt.ext' <;> simp only [lerp] <;> grind

section cut
variable {p u s : Pt} {R : List Pt}

theorem edges3 (p u s : Pt) (R : List Pt) : edges (p :: u :: s :: R) = (p, u) :: (u, s) :: chain (s :: R ++ [p]) := rfl
theorem edges2 (p s : Pt) (R : List Pt) : edges (p :: s :: R) = (p, s) :: chain (s :: R ++ [p]) := rfl

structure Dist (p u s : Pt) (R : List Pt) : Prop where
  pu : p ≠ u
  ps : p ≠ s
  us : u ≠ s
  pR : p ∉ R
  uR : u ∉ R
  sR : s ∉ R
theorem Simple.dist (h : Simple (p :: u :: s :: R)) : Dist p u s R := by
  have := h.nodup
  simp only [List.nodup_cons, List.mem_cons, not_or] at this
  exact ⟨this.1.1, this.1.2.1, this.2.1.1, this.1.2.2, this.2.1.2, this.2.2.1⟩

theorem chain_edge {f : Pt × Pt} (hf : f ∈ chain (s :: R ++ [p])) : f ∈ edges (p :: u :: s :: R) := List.mem_cons_of_mem _ (List.mem_cons_of_mem _ hf)

theorem Simple.u_off (h : Simple (p :: u :: s :: R)) {f : Pt × Pt} (hf : f ∈ chain (s :: R ++ [p])) (ho : On f.1 f.2 u) : False := by
  have hd := h.dist
  obtain ⟨m1, m2⟩ := chain_mem hf
  rcases h.vertex (x := u) (by simp) (chain_edge hf) ho with e | e
  · rw [← e] at m1
    rcases List.mem_cons.1 m1 with e | e
    · exact hd.us e
    · exact hd.uR e
  · rw [← e] at m2
    rcases List.mem_append.1 m2 with e | e
    · exact hd.uR e
    · simp at e; exact hd.pu e.symm
theorem Simple.p_end (h : Simple (p :: u :: s :: R)) {f : Pt × Pt} (hf : f ∈ chain (s :: R ++ [p])) (ho : On f.1 f.2 p) : f.2 = p := by
  have hd := h.dist
  obtain ⟨m1, m2⟩ := chain_mem hf
  rcases h.vertex (x := p) (by simp) (chain_edge hf) ho with e | e
  · rw [← e] at m1
    rcases List.mem_cons.1 m1 with e | e
    · exact absurd e hd.ps
    · exact absurd e hd.pR
  · exact e.symm
theorem Simple.s_end (h : Simple (p :: u :: s :: R)) {f : Pt × Pt} (hf : f ∈ chain (s :: R ++ [p])) (ho : On f.1 f.2 s) : f.1 = s := by
  have hd := h.dist
  obtain ⟨m1, m2⟩ := chain_mem hf
  rcases h.vertex (x := s) (by simp) (chain_edge hf) ho with e | e
  · exact e.symm
  · rw [← e] at m2
    rcases List.mem_append.1 m2 with e | e
    · exact absurd e hd.sR
    · simp at e; exact absurd e.symm hd.ps
theorem Simple.on_pu (h : Simple (p :: u :: s :: R)) {f : Pt × Pt} (hf : f ∈ chain (s :: R ++ [p])) {k : Pt} (ho : On f.1 f.2 k) (hk : On p u k) : k = p := by
  have hne : f ≠ (p, u) := fun e => h.u_off hf (by rw [e]; exact on_right _ _)
  rcases h.apart f (chain_edge hf) (p, u) (by simp [edges3]) hne k ho hk with ⟨a, b⟩ | ⟨a, b⟩
  · exact (h.u_off hf (by have : k = u := b; rw [← this]; exact ho)).elim
  · exact b
theorem Simple.on_us (h : Simple (p :: u :: s :: R)) {f : Pt × Pt} (hf : f ∈ chain (s :: R ++ [p])) {k : Pt} (ho : On f.1 f.2 k) (hk : On u s k) : k = s := by
  have hne : f ≠ (u, s) := fun e => h.u_off hf (by rw [e]; exact on_left _ _)
  rcases h.apart f (chain_edge hf) (u, s) (by simp [edges3]) hne k ho hk with ⟨a, b⟩ | ⟨a, b⟩
  · exact b
  · exact (h.u_off hf (by have : k = u := b; rw [← this]; exact ho)).elim
theorem Simple.no_sp (h : Simple (p :: u :: s :: R)) (hR : R ≠ []) (hf : (s, p) ∈ chain (s :: R ++ [p])) : False := by
  cases R with
  | nil => exact hR rfl
  | cons r R =>
    have e := h.from_eq (a := s) (b := p) (c := r) (chain_edge hf) (chain_edge (by simp [chain]))
    exact h.dist.pR (by rw [e]; simp)

theorem inT_ps (hpos : 0 < cr p u s) {x : Pt} (h : On p s x) : InT p u s x := by
  refine ⟨on_cr_ge h (by rw [cr_self]; grind) (by grind), on_cr_ge h (by rw [cr_rot]; grind) (by rw [cr_self']; grind), ?_⟩
  rw [cr_on (on_comm h)]; grind

theorem cut_A (h : Simple (p :: u :: s :: R)) (hpos : 0 < cr p u s) (hno : ∀ x ∈ R, ¬ InT p u s x) {f : Pt × Pt} (hf : f ∈ chain (s :: R ++ [p])) {k z : Pt}
    (hps : On p s k) (kp : k ≠ p) (ks : k ≠ s) (hz : z ∈ s :: R ++ [p]) (hn : cr p s z < 0) (seg : ∀ k', On k z k' → On f.1 f.2 k') : False := by
  have hzR : z ∈ R := by
    rcases List.mem_append.1 hz with hz | hz
    · rcases List.mem_cons.1 hz with rfl | hz
      · rw [cr_self'] at hn; grind
      · exact hz
    · simp at hz; subst hz; rw [cr_self] at hn; grind
  have hT := hno z hzR
  have sw := cr_swap p s z
  have e1 : cr p u z < 0 ∨ cr u s z < 0 := by unfold InT at hT; grind
  obtain ⟨t, t0, t1, et⟩ := open_at hps kp ks
  have k1 : 0 < cr p u k := by rw [et, cr_lerp, cr_self]; have := Rat.mul_pos t0 hpos; grind
  have k2 : 0 < cr u s k := by rw [et, cr_lerp, cr_self', cr_rot]; have := Rat.mul_pos (a := 1 - t) (by grind) hpos; grind
  have k3 : cr s p k = 0 := cr_on (on_comm hps)
  obtain ⟨k', o, hk'⟩ := exit2 k1 k2 e1
  have hk3 : 0 < cr s p k' := by
    obtain ⟨r, r0, r1, er⟩ := o
    have hr : r ≠ 0 := by
      intro hr; rw [hr, lerp_zero] at er; subst er; grind
    rw [er, cr_lerp, k3]
    have := Rat.mul_pos (a := r) (b := cr s p z) (by grind) (by grind)
    grind
  rcases hk' with ⟨a, b⟩ | ⟨a, b⟩
  · have := h.on_pu hf (seg k' o) (tri_side hpos a b (by grind))
    subst this; rw [cr_self'] at hk3; grind
  · have := h.on_us hf (seg k' o) (tri_side (by rw [cr_rot]; exact hpos) a (by grind) b)
    subst this; rw [cr_self] at hk3; grind

theorem cut_side (h : Simple (p :: u :: s :: R)) (hR : R ≠ []) (hpos : 0 < cr p u s) (hno : ∀ x ∈ R, ¬ InT p u s x) {f : Pt × Pt} (hf : f ∈ chain (s :: R ++ [p])) {k : Pt}
    (ho : On f.1 f.2 k) (hps : On p s k) : k = p ∨ k = s := by
  by_cases kp : k = p; · exact .inl kp
  by_cases ks : k = s; · exact .inr ks
  exfalso
  obtain ⟨m1, m2⟩ := chain_mem hf
  have hd := h.dist
  have A1 : f.2 = p → False := fun e => by
    have hx : f.1 ∈ R := by
      rcases List.mem_cons.1 m1 with e1 | e1
      · exact (h.no_sp hR (Prod.ext (x := f) (y := (s, p)) e1 e ▸ hf)).elim
      · exact e1
    refine kp (adj_only (a := f.1) (b := p) (c := s) (fun o => ?_) (fun o => hno _ hx (inT_ps hpos o)) (by rw [← e]; exact ho) hps)
    have := h.s_end hf (by rw [e]; exact o)
    rw [this] at hx; exact hd.sR hx
  have A2 : f.1 = s → False := fun e => by
    have hx : f.2 ∈ R := by
      rcases List.mem_append.1 m2 with e1 | e1
      · exact e1
      · simp at e1; exact (h.no_sp hR (Prod.ext (x := f) (y := (s, p)) e e1 ▸ hf)).elim
    refine ks (adj_only (a := p) (b := s) (c := f.2) (fun o => hno _ hx (inT_ps hpos o)) (fun o => ?_) hps (by rw [← e]; exact ho))
    have := h.p_end hf (by rw [e]; exact o)
    rw [this] at hx; exact hd.pR hx
  rcases (meet_iff p s f.1 f.2).1 ⟨k, hps, ho⟩ with o | o | o | o | ⟨o, _⟩
  · rcases List.mem_cons.1 m1 with e1 | e1
    · exact A2 e1
    · exact hno _ e1 (inT_ps hpos o)
  · rcases List.mem_append.1 m2 with e1 | e1
    · exact hno _ e1 (inT_ps hpos o)
    · simp at e1; exact A1 e1
  · exact A1 (h.p_end hf o)
  · exact A2 (h.s_end hf o)
  · rcases mul_neg_iff.1 o with ⟨_, n⟩ | ⟨n, _⟩
    · exact cut_A h hpos hno hf hps kp ks (List.mem_cons_of_mem _ m2) n (fun k' o' => on_sub ho (on_right _ _) o')
    · exact cut_A h hpos hno hf hps kp ks (List.mem_append_left _ m1) n (fun k' o' => on_sub ho (on_left _ _) o')

theorem cut_free (h : Simple (p :: u :: s :: R)) (hR : R ≠ []) (hpos : 0 < cr p u s) (hno : ∀ x ∈ R, ¬ InT p u s x) {f : Pt × Pt} (hf : f ∈ chain (s :: R ++ [p])) {k : Pt}
    (ho : On f.1 f.2 k) (hT : InT p u s k) : k = p ∨ k = s := by
  have c1 : 0 < cr u s p := by rw [cr_rot]; exact hpos
  have c2 : 0 < cr s p u := by rw [cr_rot2]; exact hpos
  obtain ⟨i1, i2, i3⟩ := hT
  by_cases e1 : cr p u k = 0
  · exact .inl (h.on_pu hf ho (tri_side hpos e1 i2 i3))
  by_cases e2 : cr u s k = 0
  · exact .inr (h.on_us hf ho (tri_side c1 e2 i3 i1))
  by_cases e3 : cr s p k = 0
  · exact cut_side h hR hpos hno hf ho (on_comm (tri_side c2 e3 i1 i2))
  exfalso
  have j1 : 0 < cr p u k := by grind
  have j2 : 0 < cr u s k := by grind
  have j3 : 0 < cr s p k := by grind
  obtain ⟨m1, m2⟩ := chain_mem hf
  have hd := h.dist
  have bd : ∀ k', On f.1 f.2 k' → (On p u k' ∨ On u s k' ∨ On s p k') → k' = p ∨ k' = s := by
    rintro k' o (q | q | q)
    · exact .inl (h.on_pu hf o q)
    · exact .inr (h.on_us hf o q)
    · exact cut_side h hR hpos hno hf o (on_comm q)
  have x1 : f.1 = s := by
    rcases List.mem_cons.1 m1 with e | e
    · exact e
    exfalso
    obtain ⟨k', o, hk'⟩ := exit3 hpos j1 j2 j3 (hno _ e)
    have of := on_sub ho (on_left _ _) o
    rcases bd k' of hk' with rfl | rfl
    · have e2 := h.p_end hf of
      have := between_end (a := f.1) (b := k') (k := k) (by rw [← e2]; exact ho) o
      subst this; rw [cr_self] at j1; grind
    · have := h.s_end hf of
      rw [this] at e; exact hd.sR e
  have x2 : f.2 = p := by
    rcases List.mem_append.1 m2 with e | e
    · exfalso
      obtain ⟨k', o, hk'⟩ := exit3 hpos j1 j2 j3 (hno _ e)
      have of := on_sub ho (on_right _ _) o
      rcases bd k' of hk' with rfl | rfl
      · have := h.p_end hf of
        rw [this] at e; exact hd.pR e
      · have e2 := h.s_end hf of
        have := between_end (a := f.2) (b := k') (k := k) (by rw [← e2]; exact on_comm ho) o
        subst this; rw [cr_self'] at j2; grind
    · simpa using e
  rw [x1, x2] at ho
  have := cr_on ho
  grind

/-- the rest of the polygon is simple -/
theorem rest_simple (h : Simple (p :: u :: s :: R)) (hR : R ≠ []) (H : ∀ f ∈ chain (s :: R ++ [p]), ∀ k, On f.1 f.2 k → On p s k → k = p ∨ k = s) : Simple (p :: s :: R) := by
  have hnd := h.nodup
  have hd := h.dist
  refine ⟨?_, ?_, ?_⟩
  · cases R with
    | nil => exact absurd rfl hR
    | cons r R => simp
  · simp only [List.nodup_cons, List.mem_cons, not_or] at hnd ⊢
    exact ⟨⟨hnd.1.2.1, hnd.1.2.2⟩, hnd.2.2⟩
  · intro e he f hf hne k ke kf
    rw [edges2] at he hf
    rcases List.mem_cons.1 he with rfl | he
    · rcases List.mem_cons.1 hf with rfl | hf
      · exact absurd rfl hne
      · rcases H f hf k kf ke with rfl | rfl
        · exact .inl ⟨rfl, (h.p_end hf kf).symm⟩
        · exact .inr ⟨rfl, (h.s_end hf kf).symm⟩
    · rcases List.mem_cons.1 hf with rfl | hf
      · rcases H e he k ke kf with rfl | rfl
        · exact .inr ⟨(h.p_end he ke).symm, rfl⟩
        · exact .inl ⟨(h.s_end he ke).symm, rfl⟩
      · exact h.apart e (chain_edge he) f (chain_edge hf) hne k ke kf
theorem ear_simple (h : Simple (p :: u :: s :: R)) (hR : R ≠ []) (hpos : 0 < cr p u s) (hno : ∀ x ∈ R, ¬ InT p u s x) : Simple (p :: s :: R) :=
  rest_simple h hR fun _ hf _ o1 o2 => cut_side h hR hpos hno hf o1 o2
theorem flat_on (h : Simple (p :: u :: s :: R)) (h0 : cr p u s = 0) : On p s u := by
  have hd := h.dist
  rcases mid3 h0 with o | o | o
  · rcases h.vertex (x := s) (by simp) (e := (p, u)) (by simp [edges3]) o with e | e
    · exact absurd e.symm hd.ps
    · exact absurd e.symm hd.us
  · rcases h.vertex (x := p) (by simp) (e := (u, s)) (by simp [edges3]) o with e | e
    · exact absurd e hd.pu
    · exact absurd e hd.ps
  · exact on_comm o
theorem flat_simple (h : Simple (p :: u :: s :: R)) (hR : R ≠ []) (h0 : cr p u s = 0) : Simple (p :: s :: R) :=
  rest_simple h hR fun f hf k o1 o2 => by
    rcases on_split (flat_on h h0) o2 with o | o
    · exact .inl (h.on_pu hf o1 o)
    · exact .inr (h.on_us hf o1 o)

theorem w3 (p u s : Pt) (R : List Pt) (q : Pt) : w (p :: u :: s :: R) q = chi p u q + chi u s q + cw (s :: R ++ [p]) q := by
  unfold w cw; rw [edges3, esum_cons, esum_cons]; simp only; omega
theorem w2 (p s : Pt) (R : List Pt) (q : Pt) : w (p :: s :: R) q = chi p s q + cw (s :: R ++ [p]) q := by
  unfold w cw; rw [edges2, esum_cons]
theorem w_cut (p u s : Pt) (R : List Pt) (q : Pt) : w (p :: u :: s :: R) q = w (p :: s :: R) q + w [p, u, s] q := by
  rw [w3, w2, w_tri, chi_anti p s q]; omega
theorem chi_flat_cut {p u s : Pt} (hu : On p s u) (q : Pt) : chi p u q + chi u s q = chi p s q := by
  obtain ⟨t, t0, t1, rfl⟩ := hu
  have e1 : cr p (lerp p s t) q = t * cr p s q := by unfold cr lerp; grind
  have e2 : cr (lerp p s t) s q = (1 - t) * cr p s q := by unfold cr lerp; grind
  by_cases h0 : t = 0
  · subst h0; rw [lerp_zero]; have : chi p p q = 0 := chi_flat rfl q; omega
  by_cases h1 : t = 1
  · subst h1; rw [lerp_one]; have : chi s s q = 0 := chi_flat rfl q; omega
  obtain ⟨y1, y2, y3⟩ := open_y (a := p) (b := s) (t := t) (by grind) (by grind)
  have g1 := mul_pos_iff' (a := t) (b := cr p s q)
  have g2 := mul_neg_iff (a := t) (b := cr p s q)
  have g3 := mul_pos_iff' (a := 1 - t) (b := cr p s q)
  have g4 := mul_neg_iff (a := 1 - t) (b := cr p s q)
  rw [← e1] at g1 g2
  rw [← e2] at g3 g4
  generalize lerp p s t = u at *
  have t0' : 0 < t := by grind
  have t1' : 0 < 1 - t := by grind
  have k1 : 0 < cr p u q ↔ 0 < cr p s q := by grind
  have k2 : cr p u q < 0 ↔ cr p s q < 0 := by grind
  have k3 : 0 < cr u s q ↔ 0 < cr p s q := by grind
  have k4 : cr u s q < 0 ↔ cr p s q < 0 := by grind
  by_cases hp : 0 < cr p s q
  · rw [chi_left (k1.2 hp), chi_left (k3.2 hp), chi_left hp]
    clear k1 k2 k3 k4 g1 g2 g3 g4 e1 e2
    grind
  by_cases hn : cr p s q < 0
  · rw [chi_right (k2.2 hn), chi_right (k4.2 hn), chi_right hn]
    clear k1 k2 k3 k4 g1 g2 g3 g4 e1 e2
    grind
  · have z : cr p s q = 0 := by grind
    rw [chi_line z, chi_line (by rw [e1, z]; grind), chi_line (by rw [e2, z]; grind)]; rfl
theorem w_flat (hu : On p s u) (q : Pt) : w (p :: u :: s :: R) q = w (p :: s :: R) q := by
  rw [w3, w2, chi_flat_cut hu]
end cut
end Geo
