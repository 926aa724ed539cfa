/- Winding numbers of closed lists over the rationals: moved points, triangles, separated points. -/
import Derived.Test.YtfgeengdmbabhaaGc
namespace Geo

/-- the number of turns of the closed list around q, by the crossings of the ray to the right -/
def w (l : List Pt) (q : Pt) : Int := esum (fun e => chi e.1 e.2 q) (edges l)
/-- the same sum along an open chain -/
def cw (l : List Pt) (q : Pt) : Int := esum (fun e => chi e.1 e.2 q) (chain l)

theorem w_perm {l m : List Pt} (h : (edges l).Perm (edges m)) (q : Pt) : w l q = w m q := esum_perm _ h

theorem w_const {l : List Pt} {q r : Pt} (h : ∀ e ∈ edges l, Disj e.1 e.2 q r) : w l q = w l r := by
  have e1 : w l q - w l r = esum (fun e => Phi q r e.2 - Phi q r e.1) (edges l) := by
    unfold w; rw [← esum_sub]; exact esum_congr fun e he => chi_Phi (h e he)
  have := esum_closed (Phi q r) l
  omega
theorem cw_move {a b : Pt} {l : List Pt} {q r : Pt} (h : ∀ e ∈ chain (a :: l ++ [b]), Disj e.1 e.2 q r) : cw (a :: l ++ [b]) q - cw (a :: l ++ [b]) r = Phi q r b - Phi q r a := by
  unfold cw
  rw [← esum_sub, esum_congr (g := fun e => Phi q r e.2 - Phi q r e.1) (fun e he => chi_Phi (h e he))]
  exact esum_chain (Phi q r) a l b

theorem esum_none {f : Pt × Pt → Int} {l : List (Pt × Pt)} (h : ∀ e ∈ l, f e = 0) : esum f l = 0 := by
  induction l with
  | nil => rfl
  | cons e l ih => rw [esum_cons, h e (List.mem_cons_self ..), ih (fun e he => h e (List.mem_cons_of_mem _ he))]; rfl
theorem chi_above {a b q : Pt} (h1 : a.y ≤ q.y) (h2 : b.y ≤ q.y) : chi a b q = 0 := by unfold chi; grind
theorem chi_below {a b q : Pt} (h1 : q.y < a.y) (h2 : q.y < b.y) : chi a b q = 0 := by unfold chi; grind
theorem chi_line {a b q : Pt} (h : cr a b q = 0) : chi a b q = 0 := by unfold chi; grind
theorem w_above {l : List Pt} {q : Pt} (h : ∀ x ∈ l, x.y ≤ q.y) : w l q = 0 := esum_none fun _ he => chi_above (h _ (edges_fst_mem he)) (h _ (edges_snd_mem he))
theorem w_below {l : List Pt} {q : Pt} (h : ∀ x ∈ l, q.y < x.y) : w l q = 0 := esum_none fun _ he => chi_below (h _ (edges_fst_mem he)) (h _ (edges_snd_mem he))

theorem y_bound (l : List Pt) : ∃ M : Rat, ∀ x ∈ l, x.y ≤ M := by
  induction l with
  | nil => exact ⟨0, by simp⟩
  | cons a l ih =>
    obtain ⟨M, hM⟩ := ih
    refine ⟨max a.y M, fun x hx => ?_⟩
    rcases List.mem_cons.1 hx with rfl | hx
    · grind
    · have := hM x hx; grind

theorem reach_up {q d M : Rat} (hd : 0 < d) : ∃ k : Rat, 0 ≤ k ∧ M ≤ q + k * d := by
  by_cases h : M ≤ q
  · exact ⟨0, by grind, by grind⟩
  · have e : (M - q) / d * d = M - q := Rat.div_mul_cancel (by grind)
    generalize (M - q) / d = k at *
    refine ⟨k, ?_, by grind⟩
    by_cases hc : 0 ≤ k; · exact hc
    have := Rat.mul_pos (a := -k) (b := d) (by grind) hd
    grind

theorem w_sep_up {l : List Pt} {s t q : Pt} {d : Pt} (hd : 0 < d.y) (hpar : ∀ k : Rat, cr s t ⟨q.x + k * d.x, q.y + k * d.y⟩ = cr s t q) (h : ∀ x ∈ l, 0 ≤ cr s t x) (hq : cr s t q < 0) : w l q = 0 := by
  obtain ⟨M, hM⟩ := y_bound l
  obtain ⟨k, k0, hk⟩ := reach_up (q := q.y) (M := M) hd
  have e : w l q = w l ⟨q.x + k * d.x, q.y + k * d.y⟩ := w_const fun e he p p1 p2 => by
    have a1 := on_cr_ge p1 (h _ (edges_fst_mem he)) (h _ (edges_snd_mem he))
    have a2 := on_cr_neg p2 hq (by rw [hpar]; exact hq)
    grind
  rw [e]
  exact w_above fun x hx => by have := hM x hx; simp only; grind

/-- a point strictly on the right of a line, with all vertices on its left or on it, is not turned around -/
theorem w_sep {l : List Pt} {s t q : Pt} (h : ∀ x ∈ l, 0 ≤ cr s t x) (hq : cr s t q < 0) : w l q = 0 := by
  by_cases h1 : s.y < t.y
  · exact w_sep_up (d := ⟨t.x - s.x, t.y - s.y⟩) (by simp only; grind) (fun k => by unfold cr; grind) h hq
  by_cases h2 : t.y < s.y
  · exact w_sep_up (d := ⟨s.x - t.x, s.y - t.y⟩) (by simp only; grind) (fun k => by unfold cr; grind) h hq
  have e : s.y = t.y := by grind
  have ec : ∀ x : Pt, cr s t x = (t.x - s.x) * (x.y - s.y) := fun x => by unfold cr; grind
  by_cases h3 : s.x < t.x
  · refine w_below fun x hx => ?_
    have a1 := h x hx
    rw [ec] at a1 hq
    have b1 := mul_neg_iff.1 hq
    by_cases hc : q.y < x.y; · exact hc
    have := Rat.mul_pos (a := t.x - s.x) (b := s.y - x.y) (by grind) (by grind)
    grind
  · refine w_above fun x hx => ?_
    have a1 := h x hx
    rw [ec] at a1 hq
    have b1 := mul_neg_iff.1 hq
    by_cases hc : x.y ≤ q.y; · exact hc
    have := Rat.mul_pos (a := s.x - t.x) (b := x.y - s.y) (by grind) (by grind)
    grind

/-- the closed triangle -/
def InT (a b c q : Pt) : Prop := 0 ≤ cr a b q ∧ 0 ≤ cr b c q ∧ 0 ≤ cr c a q

theorem w_tri (a b c q : Pt) : w [a, b, c] q = chi a b q + chi b c q + chi c a q := by
  simp [w, edges, chain, esum]; omega
theorem tri_bary (a b c q : Pt) : cr b c q * (a.y - q.y) + cr c a q * (b.y - q.y) + cr a b q * (c.y - q.y) = 0 := by unfold cr; grind
theorem tri_baryx (a b c q : Pt) : cr b c q * (a.x - q.x) + cr c a q * (b.x - q.x) + cr a b q * (c.x - q.x) = 0 := by unfold cr; grind

theorem chi_left {a b q : Pt} (h : 0 < cr a b q) : chi a b q = if a.y ≤ q.y ∧ q.y < b.y then 1 else 0 := by unfold chi; grind
theorem chi_right {a b q : Pt} (h : cr a b q < 0) : chi a b q = if b.y ≤ q.y ∧ q.y < a.y then -1 else 0 := by unfold chi; grind

theorem tri_in {a b c q : Pt} (h1 : 0 < cr a b q) (h2 : 0 < cr b c q) (h3 : 0 < cr c a q) : w [a, b, c] q = 1 := by
  have id := tri_bary a b c q
  have n1 : ¬ (q.y < a.y ∧ q.y < b.y ∧ q.y < c.y) := fun ⟨u, v, z⟩ => by
    have g1 := Rat.mul_pos h2 (b := a.y - q.y) (by grind)
    have g2 := Rat.mul_pos h3 (b := b.y - q.y) (by grind)
    have g3 := Rat.mul_pos h1 (b := c.y - q.y) (by grind)
    grind
  have n2 : ¬ (a.y ≤ q.y ∧ b.y ≤ q.y ∧ c.y ≤ q.y) := fun ⟨u, v, z⟩ => by
    have g1 := Rat.mul_nonneg (a := cr b c q) (b := q.y - a.y) (by grind) (by grind)
    have g2 := Rat.mul_nonneg (a := cr c a q) (b := q.y - b.y) (by grind) (by grind)
    have g3 := Rat.mul_nonneg (a := cr a b q) (b := q.y - c.y) (by grind) (by grind)
    have z1 : cr b c q * (q.y - a.y) = 0 := by grind
    have z2 : cr c a q * (q.y - b.y) = 0 := by grind
    have y1 := (Rat.mul_eq_zero.1 z1).resolve_left (by grind)
    have y2 := (Rat.mul_eq_zero.1 z2).resolve_left (by grind)
    have : cr a b q = 0 := by
      have e1 : a.y = q.y := by grind
      have e2 : b.y = q.y := by grind
      unfold cr; rw [e1, e2]; grind
    grind
  rw [w_tri, chi_left h1, chi_left h2, chi_left h3]
  grind
theorem tri_out {a b c q : Pt} (h : 0 < cr a b c) (hq : ¬ InT a b c q) : w [a, b, c] q = 0 := by
  have c1 := cr_rot a b c
  have c2 := cr_rot2 a b c
  unfold InT at hq
  by_cases h1 : 0 ≤ cr a b q
  · by_cases h2 : 0 ≤ cr b c q
    · refine w_sep (s := c) (t := a) (fun x hx => ?_) (q := q) (by grind)
      simp only [List.mem_cons, List.not_mem_nil, or_false] at hx
      rcases hx with rfl | rfl | rfl
      · rw [cr_self']; grind
      · grind
      · rw [cr_self]; grind
    · refine w_sep (s := b) (t := c) (fun x hx => ?_) (q := q) (by grind)
      simp only [List.mem_cons, List.not_mem_nil, or_false] at hx
      rcases hx with rfl | rfl | rfl
      · grind
      · rw [cr_self]; grind
      · rw [cr_self']; grind
  · refine w_sep (s := a) (t := b) (fun x hx => ?_) (q := q) (by grind)
    simp only [List.mem_cons, List.not_mem_nil, or_false] at hx
    rcases hx with rfl | rfl | rfl
    · rw [cr_self]; grind
    · rw [cr_self']; grind
    · grind

/-- what is counted at the points of a side -/
def D (a b : Pt) : Int := if b.y < a.y ∨ (b.y = a.y ∧ a.x < b.x) then 1 else 0
theorem D_swap {a b : Pt} (h : a ≠ b) : D a b + D b a = 1 := by
  have : ¬ (a.x = b.x ∧ a.y = b.y) := fun ⟨h1, h2⟩ => h (Pt.ext' h1 h2)
  unfold D; grind

/-- a point of a side that is none of its ends -/
theorem open_at {a b m : Pt} (h : On a b m) (ha : m ≠ a) (hb : m ≠ b) : ∃ t : Rat, 0 < t ∧ t < 1 ∧ m = lerp a b t := by
  obtain ⟨t, t0, t1, rfl⟩ := h
  have h0 : t ≠ 0 := fun h => ha (by rw [h, lerp_zero])
  have h1 : t ≠ 1 := fun h => hb (by rw [h, lerp_one])
  exact ⟨t, by grind, by grind, rfl⟩
theorem open_y {a b : Pt} {t : Rat} (h0 : 0 < t) (h1 : t < 1) : (a.y < b.y → a.y < (lerp a b t).y ∧ (lerp a b t).y < b.y) ∧ (b.y < a.y → b.y < (lerp a b t).y ∧ (lerp a b t).y < a.y) ∧ (a.y = b.y → (lerp a b t).y = a.y) := by
  simp only [lerp]
  refine ⟨fun h => ?_, fun h => ?_, fun h => ?_⟩
  · have g1 := Rat.mul_pos h0 (b := b.y - a.y) (by grind)
    have g2 := Rat.mul_pos (a := 1 - t) (by grind) (b := b.y - a.y) (by grind)
    grind
  · have g1 := Rat.mul_pos h0 (b := a.y - b.y) (by grind)
    have g2 := Rat.mul_pos (a := 1 - t) (by grind) (b := a.y - b.y) (by grind)
    grind
  · rw [h]; grind
theorem flat_cr {a b c : Pt} (h : a.y = b.y) : cr a b c = (b.x - a.x) * (c.y - a.y) := by unfold cr; grind

theorem mul_pos_iff' {a b : Rat} : 0 < a * b ↔ (0 < a ∧ 0 < b) ∨ (a < 0 ∧ b < 0) := by
  have := mul_neg_iff (a := a) (b := -b)
  grind

theorem tri_rim {a b c m : Pt} (h : 0 < cr a b c) (hm : On a b m) (ha : m ≠ a) (hb : m ≠ b) : w [a, b, c] m = D a b := by
  have hz := cr_on hm
  obtain ⟨t, t0, t1, rfl⟩ := open_at hm ha hb
  have e1 : cr b c (lerp a b t) = (1 - t) * cr a b c := by rw [cr_lerp, cr_self, cr_rot]; grind
  have e2 : cr c a (lerp a b t) = t * cr a b c := by rw [cr_lerp, cr_self', cr_rot2]; grind
  have p1 : 0 < cr b c (lerp a b t) := by rw [e1]; exact Rat.mul_pos (by grind) h
  have p2 : 0 < cr c a (lerp a b t) := by rw [e2]; exact Rat.mul_pos t0 h
  obtain ⟨y1, y2, y3⟩ := open_y (a := a) (b := b) t0 t1
  rw [w_tri, chi_line hz, chi_left p1, chi_left p2]
  generalize lerp a b t = m at *
  by_cases c1 : a.y < b.y
  · have := y1 c1; unfold D; grind
  by_cases c2 : b.y < a.y
  · have := y2 c2; unfold D; grind
  have c3 : a.y = b.y := by grind
  have := y3 c3
  rw [flat_cr c3, mul_pos_iff'] at h
  unfold D; grind

/-- how the sum along the chain behind a side changes from a point of the side to a point on the side's right -/
theorem G_sign {p s y m : Pt} (hm : On p s m) (hp : m ≠ p) (hs : m ≠ s) (hy : cr p s y < 0) : Phi y m p - Phi y m s = - D p s - chi p s y := by
  obtain ⟨t, t0, t1, rfl⟩ := open_at hm hp hs
  have e1 : cr y (lerp p s t) p = - (t * cr p s y) := by unfold cr lerp; grind
  have e2 : cr y (lerp p s t) s = (1 - t) * cr p s y := by unfold cr lerp; grind
  have p1 : 0 < cr y (lerp p s t) p := by
    have := Rat.mul_pos t0 (b := - cr p s y) (by grind); grind
  have p2 : cr y (lerp p s t) s < 0 := by
    have := Rat.mul_pos (a := 1 - t) (b := - cr p s y) (by grind) (by grind); grind
  have s1 := cr_swap y (lerp p s t) p
  have s2 := cr_swap y (lerp p s t) s
  obtain ⟨y1, y2, y3⟩ := open_y (a := p) (b := s) t0 t1
  rw [chi_right hy]
  generalize lerp p s t = m at *
  unfold Phi phi D
  by_cases c1 : p.y < s.y
  · have := y1 c1; grind
  by_cases c2 : s.y < p.y
  · have := y2 c2; grind
  have c3 : p.y = s.y := by grind
  have := y3 c3
  rw [flat_cr c3, mul_neg_iff] at hy
  grind
theorem G_move {p s y m : Pt} {R : List Pt} (hm : On p s m) (hp : m ≠ p) (hs : m ≠ s) (hy : cr p s y < 0) (hd : ∀ e ∈ chain (s :: R ++ [p]), Disj e.1 e.2 y m) :
    cw (s :: R ++ [p]) y = cw (s :: R ++ [p]) m - D p s - chi p s y := by
  have h1 := cw_move hd
  have h2 := G_sign hm hp hs hy
  omega
end Geo
