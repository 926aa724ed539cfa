import Derived.Test.YtfgeengdmbabhaaB2
/- Plain geometry: convex sets, the theorems of Radon and Helly in the plane, separating lines, and small moves. -/
namespace Geo

/-- a set that contains its segments -/
def Conv (C : Pt → Prop) : Prop := ∀ a b p, C a → C b → On a b p → C p

theorem conv_pos (a b : Pt) : Conv fun q => 0 < cr a b q := fun _ _ _ h1 h2 h => on_cr_pos h h1 h2
theorem conv_ge (a b : Pt) : Conv fun q => 0 ≤ cr a b q := fun _ _ _ h1 h2 h => on_cr_ge h h1 h2

theorem rat_cancel {t a b : Rat} (h : 0 < t) (e : t * a = t * b) : a = b := by
  have h1 : t * (a - b) = 0 := by grind
  rcases Rat.mul_eq_zero.1 h1 with h2 | h2
  · grind
  · grind
theorem conv_inT {C : Pt → Prop} (hC : Conv C) {a b c q : Pt} (h : 0 < cr a b c) (hq : InT a b c q) (ha : C a) (hb : C b) (hc : C c) : C q := by
  obtain ⟨h1, h2, h3⟩ := hq
  have hs := cr_sum a b c q
  have bx := tri_baryx a b c q
  have by' := tri_bary a b c q
  generalize cr a b c = T at *
  generalize cr a b q = u at *
  generalize cr b c q = v at *
  generalize cr c a q = z at *
  by_cases h0 : u + z = 0
  · have e1 : u = 0 := by grind
    have e2 : z = 0 := by grind
    have e3 : v = T := by grind
    subst e1 e2 e3
    have : q = a := by
      apply Pt.ext'
      · exact rat_cancel h (by grind)
      · exact rat_cancel h (by grind)
    rw [this]; exact ha
  · have hp : 0 < u + z := by grind
    obtain ⟨k0, k1, ek⟩ := div_unit (m := u) (n := u + z) h1 (by grind) hp
    obtain ⟨r0, r1, er⟩ := div_unit (m := u + z) (n := T) (by grind) (by grind) h
    generalize u / (u + z) = k at *
    generalize (u + z) / T = r at *
    have hm : C (lerp b c k) := hC b c _ hb hc ⟨k, k0, k1, rfl⟩
    refine hC a (lerp b c k) q ha hm ⟨r, r0, r1, ?_⟩
    apply Pt.ext'
    · apply rat_cancel h
      simp only [lerp]
      have e : T * (a.x + r * (b.x + k * (c.x - b.x) - a.x)) = T * a.x + (r * T) * (b.x - a.x) + (k * (r * T)) * (c.x - b.x) := by grind
      rw [e, er, ek]; grind
    · apply rat_cancel h
      simp only [lerp]
      have e : T * (a.y + r * (b.y + k * (c.y - b.y) - a.y)) = T * a.y + (r * T) * (b.y - a.y) + (k * (r * T)) * (c.y - b.y) := by grind
      rw [e, er, ek]; grind

/-- a point in the hull of any three of four points -/
def Rad (a b c d p : Pt) : Prop := ∀ C : Pt → Prop, Conv C → (C b → C c → C d → C p) ∧ (C a → C c → C d → C p) ∧ (C a → C b → C d → C p) ∧ (C a → C b → C c → C p)
theorem Rad.swap {a b c d p : Pt} (h : Rad a c b d p) : Rad a b c d p := fun C hC => by
  obtain ⟨h1, h2, h3, h4⟩ := h C hC
  exact ⟨fun x y z => h1 y x z, fun x y z => h3 x y z, fun x y z => h2 x y z, fun x y z => h4 x z y⟩
theorem Rad.rot {a b c d p : Pt} (h : Rad b c a d p) : Rad a b c d p := fun C hC => by
  obtain ⟨h1, h2, h3, h4⟩ := h C hC
  exact ⟨fun x y z => h3 x y z, fun x y z => h1 y x z, fun x y z => h2 y x z, fun x y z => h4 y z x⟩
theorem rad_cross {a b c d p : Pt} (h1 : On a b p) (h2 : On c d p) : Rad a b c d p := fun _ hC =>
  ⟨fun _ y z => hC c d p y z h2, fun _ y z => hC c d p y z h2, fun x y _ => hC a b p x y h1, fun x y _ => hC a b p x y h1⟩
theorem rad_pos {a b c d : Pt} (h : 0 < cr a b c) : ∃ p, Rad a b c d p := by
  have one : ∀ a b c : Pt, 0 < cr a b c → cr a b d < 0 → 0 ≤ cr b c d → 0 ≤ cr c a d → ∃ p, Rad a b c d p := fun a b c h n1 n2 n3 => by
    obtain ⟨p, hp, h0⟩ := cross_zero (s := a) (t := b) (a := c) (b := d) (by grind) (by grind)
    have o : On a b p := tri_side h h0 (on_cr_ge hp (by rw [cr_self']; grind) n2) (on_cr_ge hp (by rw [cr_self]; grind) n3)
    exact ⟨p, rad_cross o hp⟩
  have two : ∀ a b c : Pt, 0 < cr a b c → cr a b d < 0 → cr b c d < 0 → ∃ p, Rad a b c d p := fun a b c h n1 n2 => by
    refine ⟨b, fun C hC => ⟨fun x _ _ => x, fun x y z => ?_, fun _ x _ => x, fun _ x _ => x⟩⟩
    have hs := cr_sum a b c d
    refine conv_inT hC (a := c) (b := a) (c := d) (by grind) ⟨?_, ?_, ?_⟩ y x z
    · rw [cr_rot2]; grind
    · have := cr_rot b a d; have := cr_swap a b d; grind
    · have := cr_rot2 d c b; have := cr_rot b d c; have := cr_swap b d c; have := cr_rot c d b; have := cr_swap c d b; have := cr_rot2 b c d; grind
  have hs := cr_sum a b c d
  have r1 := cr_rot a b c
  have r2 := cr_rot2 a b c
  by_cases n1 : cr a b d < 0
  · by_cases n2 : cr b c d < 0
    · exact two a b c h n1 n2
    · by_cases n3 : cr c a d < 0
      · obtain ⟨p, hp⟩ := two c a b (by grind) n3 n1
        exact ⟨p, hp.rot.rot⟩
      · exact one a b c h n1 (by grind) (by grind)
  · by_cases n2 : cr b c d < 0
    · by_cases n3 : cr c a d < 0
      · obtain ⟨p, hp⟩ := two b c a (by grind) n2 n3
        exact ⟨p, hp.rot⟩
      · obtain ⟨p, hp⟩ := one b c a (by grind) n2 (by grind) (by grind)
        exact ⟨p, hp.rot⟩
    · by_cases n3 : cr c a d < 0
      · obtain ⟨p, hp⟩ := one c a b (by grind) n3 (by grind) (by grind)
        exact ⟨p, hp.rot.rot⟩
      · exact ⟨d, fun C hC => ⟨fun _ _ x => x, fun _ _ x => x, fun _ _ x => x, fun x y z => conv_inT hC h ⟨by grind, by grind, by grind⟩ x y z⟩⟩
theorem radon (a b c d : Pt) : ∃ p, Rad a b c d p := by
  by_cases h : 0 < cr a b c
  · exact rad_pos h
  · by_cases h' : 0 < cr a c b
    · obtain ⟨p, hp⟩ := rad_pos (d := d) h'
      exact ⟨p, hp.swap⟩
    · have h0 : cr a b c = 0 := by have := cr_rot a c b; have := cr_swap c b a; have := cr_rot2 b c a; have := cr_rot a b c; have := cr_swap b c a; grind
      rcases mid3 h0 with o | o | o
      · exact ⟨c, fun C hC => ⟨fun _ x _ => x, fun _ x _ => x, fun x y _ => hC a b c x y o, fun _ _ x => x⟩⟩
      · exact ⟨a, fun C hC => ⟨fun x y _ => hC b c a x y o, fun x _ _ => x, fun x _ _ => x, fun x _ _ => x⟩⟩
      · exact ⟨b, fun C hC => ⟨fun x _ _ => x, fun x y _ => hC c a b y x o, fun _ x _ => x, fun _ x _ => x⟩⟩

theorem helly (n : Nat) : ∀ F : List (Pt → Prop), F.length = n → (∀ C ∈ F, Conv C) → (∀ A ∈ F, ∀ B ∈ F, ∀ C ∈ F, ∃ p, A p ∧ B p ∧ C p) → ∃ p, ∀ C ∈ F, C p := by
  induction n with
  | zero => intro F hF _ _; refine ⟨⟨0, 0⟩, fun C hC => ?_⟩; rw [List.length_eq_zero_iff.1 hF] at hC; simp at hC
  | succ n ih =>
    intro F hF hC h3
    match F, hF with
    | [A], _ =>
      obtain ⟨p, h, _⟩ := h3 A (by simp) A (by simp) A (by simp)
      exact ⟨p, fun C hC => by simp at hC; subst hC; exact h⟩
    | [A, B], _ =>
      obtain ⟨p, h, h', _⟩ := h3 A (by simp) B (by simp) A (by simp)
      exact ⟨p, fun C hC => by simp at hC; rcases hC with rfl | rfl <;> assumption⟩
    | [A, B, D], _ =>
      obtain ⟨p, h, h', h''⟩ := h3 A (by simp) B (by simp) D (by simp)
      exact ⟨p, fun C hC => by simp at hC; rcases hC with rfl | rfl | rfl <;> assumption⟩
    | A :: B :: D :: E :: R, hF =>
      have hl : R.length + 3 = n := by simp at hF; omega
      have sub : ∀ G : List (Pt → Prop), G.length = n → (∀ C ∈ G, C ∈ A :: B :: D :: E :: R) → ∃ p, ∀ C ∈ G, C p := fun G hG hm =>
        ih G hG (fun C h => hC C (hm C h)) (fun X hX Y hY Z hZ => h3 X (hm X hX) Y (hm Y hY) Z (hm Z hZ))
      obtain ⟨x1, g1⟩ := sub (B :: D :: E :: R) (by simp; omega) (fun C h => by simp at h ⊢; rcases h with h | h | h | h <;> simp [h])
      obtain ⟨x2, g2⟩ := sub (A :: D :: E :: R) (by simp; omega) (fun C h => by simp at h ⊢; rcases h with h | h | h | h <;> simp [h])
      obtain ⟨x3, g3⟩ := sub (A :: B :: E :: R) (by simp; omega) (fun C h => by simp at h ⊢; rcases h with h | h | h | h <;> simp [h])
      obtain ⟨x4, g4⟩ := sub (A :: B :: D :: R) (by simp; omega) (fun C h => by simp at h ⊢; rcases h with h | h | h | h <;> simp [h])
      obtain ⟨p, hp⟩ := radon x1 x2 x3 x4
      refine ⟨p, fun C h => ?_⟩
      have hr := hp C (hC C h)
      simp only [List.mem_cons] at h
      rcases h with rfl | rfl | rfl | rfl | h
      · exact hr.1 (g2 _ (by simp)) (g3 _ (by simp)) (g4 _ (by simp))
      · exact hr.2.1 (g1 _ (by simp)) (g3 _ (by simp)) (g4 _ (by simp))
      · exact hr.2.2.1 (g1 _ (by simp)) (g2 _ (by simp)) (g4 _ (by simp))
      · exact hr.2.2.2 (g1 _ (by simp)) (g2 _ (by simp)) (g3 _ (by simp))
      · exact hr.1 (g2 _ (by simp [h])) (g3 _ (by simp [h])) (g4 _ (by simp [h]))

/-- a value above 0 stays above 0 for a while -/
theorem pos_step (u v : Rat) (hu : 0 < u) : ∃ k : Rat, 0 < k ∧ k ≤ 1 ∧ ∀ j, 0 ≤ j → j ≤ k → 0 < u + j * (v - u) := by
  by_cases hv : 0 < v
  · refine ⟨1, by grind, by grind, fun j h0 h1 => ?_⟩
    by_cases e : j = 1
    · subst e; grind
    · have e1 : 0 < (1 - j) * u := Rat.mul_pos (by grind) hu
      have e2 : 0 ≤ j * v := Rat.mul_nonneg h0 (by grind)
      grind
  · obtain ⟨k0, k1, ek⟩ := div_unit (m := u) (n := 2 * (u - v)) (by grind) (by grind) (by grind)
    generalize u / (2 * (u - v)) = k at *
    have kp : 0 < k := by
      rcases Rat.le_iff_lt_or_eq.1 k0 with h | h
      · exact h
      · rw [← h] at ek; grind
    refine ⟨k, kp, k1, fun j h0 h1 => ?_⟩
    have e1 : 0 ≤ (k - j) * (u - v) := Rat.mul_nonneg (by grind) (by grind)
    grind

/-- convex polygons by their sides and vertices -/
structure Cvx (E : List (Pt × Pt)) (V : List Pt) : Prop where
  left : ∀ e ∈ E, ∀ v ∈ V, 0 ≤ cr e.1 e.2 v
  inner : ∃ g, ∀ e ∈ E, 0 < cr e.1 e.2 g
  some : V ≠ []

theorem reach_open {E : List (Pt × Pt)} {V : List Pt} (h : Cvx E V) {f : Pt × Pt} (hf : ∃ v ∈ V, 0 < cr f.1 f.2 v) : ∃ p, (∀ e ∈ E, 0 < cr e.1 e.2 p) ∧ 0 < cr f.1 f.2 p := by
  obtain ⟨v, hv, hp⟩ := hf
  obtain ⟨g, hg⟩ := h.inner
  obtain ⟨k, k0, k1, hk⟩ := pos_step _ (cr f.1 f.2 g) hp
  refine ⟨lerp v g k, fun e he => ?_, ?_⟩
  · rw [cr_lerp]
    have e1 : 0 ≤ (1 - k) * cr e.1 e.2 v := Rat.mul_nonneg (by grind) (h.left e he v hv)
    have e2 : 0 < k * cr e.1 e.2 g := Rat.mul_pos k0 (hg e he)
    grind
  · rw [cr_lerp]; exact hk k (by grind) (by grind)

theorem sat_open {E F : List (Pt × Pt)} {V W : List Pt} (hE : Cvx E V) (hF : Cvx F W) (h1 : ∀ e ∈ E, ∃ v ∈ W, 0 < cr e.1 e.2 v) (h2 : ∀ f ∈ F, ∃ v ∈ V, 0 < cr f.1 f.2 v) :
    ∃ q, (∀ e ∈ E, 0 < cr e.1 e.2 q) ∧ ∀ f ∈ F, 0 < cr f.1 f.2 q := by
  have key := helly _ ((E ++ F).map fun e q => 0 < cr e.1 e.2 q) rfl
    (fun C hC => by simp only [List.mem_map] at hC; obtain ⟨e, _, rfl⟩ := hC; exact conv_pos e.1 e.2)
    (fun A hA B hB C hC => by
      simp only [List.mem_map, List.mem_append] at hA hB hC
      obtain ⟨a, ha, rfl⟩ := hA
      obtain ⟨b, hb, rfl⟩ := hB
      obtain ⟨c, hc, rfl⟩ := hC
      obtain ⟨g, hg⟩ := hE.inner
      obtain ⟨g', hg'⟩ := hF.inner
      rcases ha with ha | ha <;> rcases hb with hb | hb <;> rcases hc with hc | hc
      · exact ⟨g, hg a ha, hg b hb, hg c hc⟩
      · obtain ⟨p, hp, hq⟩ := reach_open hE (h2 c hc); exact ⟨p, hp a ha, hp b hb, hq⟩
      · obtain ⟨p, hp, hq⟩ := reach_open hE (h2 b hb); exact ⟨p, hp a ha, hq, hp c hc⟩
      · obtain ⟨p, hp, hq⟩ := reach_open hF (h1 a ha); exact ⟨p, hq, hp b hb, hp c hc⟩
      · obtain ⟨p, hp, hq⟩ := reach_open hE (h2 a ha); exact ⟨p, hq, hp b hb, hp c hc⟩
      · obtain ⟨p, hp, hq⟩ := reach_open hF (h1 b hb); exact ⟨p, hp a ha, hq, hp c hc⟩
      · obtain ⟨p, hp, hq⟩ := reach_open hF (h1 c hc); exact ⟨p, hp a ha, hp b hb, hq⟩
      · exact ⟨g', hg' a ha, hg' b hb, hg' c hc⟩)
  obtain ⟨q, hq⟩ := key
  refine ⟨q, fun e he => hq _ (List.mem_map.2 ⟨e, List.mem_append.2 (.inl he), rfl⟩), fun e he => hq _ (List.mem_map.2 ⟨e, List.mem_append.2 (.inr he), rfl⟩)⟩

theorem sat_closed {E F : List (Pt × Pt)} {V W : List Pt} (hE : Cvx E V) (hF : Cvx F W) (h1 : ∀ e ∈ E, ∃ v ∈ W, 0 ≤ cr e.1 e.2 v) (h2 : ∀ f ∈ F, ∃ v ∈ V, 0 ≤ cr f.1 f.2 v) :
    ∃ q, (∀ e ∈ E, 0 ≤ cr e.1 e.2 q) ∧ ∀ f ∈ F, 0 ≤ cr f.1 f.2 q := by
  have key := helly _ ((E ++ F).map fun e q => 0 ≤ cr e.1 e.2 q) rfl
    (fun C hC => by simp only [List.mem_map] at hC; obtain ⟨e, _, rfl⟩ := hC; exact conv_ge e.1 e.2)
    (fun A hA B hB C hC => by
      simp only [List.mem_map, List.mem_append] at hA hB hC
      obtain ⟨a, ha, rfl⟩ := hA
      obtain ⟨b, hb, rfl⟩ := hB
      obtain ⟨c, hc, rfl⟩ := hC
      obtain ⟨g, hg⟩ := List.exists_mem_of_ne_nil _ hE.some
      obtain ⟨g', hg'⟩ := List.exists_mem_of_ne_nil _ hF.some
      rcases ha with ha | ha <;> rcases hb with hb | hb <;> rcases hc with hc | hc
      · exact ⟨g, hE.left a ha g hg, hE.left b hb g hg, hE.left c hc g hg⟩
      · obtain ⟨p, hp, hq⟩ := h2 c hc; exact ⟨p, hE.left a ha p hp, hE.left b hb p hp, hq⟩
      · obtain ⟨p, hp, hq⟩ := h2 b hb; exact ⟨p, hE.left a ha p hp, hq, hE.left c hc p hp⟩
      · obtain ⟨p, hp, hq⟩ := h1 a ha; exact ⟨p, hq, hF.left b hb p hp, hF.left c hc p hp⟩
      · obtain ⟨p, hp, hq⟩ := h2 a ha; exact ⟨p, hq, hE.left b hb p hp, hE.left c hc p hp⟩
      · obtain ⟨p, hp, hq⟩ := h1 b hb; exact ⟨p, hF.left a ha p hp, hq, hF.left c hc p hp⟩
      · obtain ⟨p, hp, hq⟩ := h1 c hc; exact ⟨p, hF.left a ha p hp, hF.left b hb p hp, hq⟩
      · exact ⟨g', hF.left a ha g' hg', hF.left b hb g' hg', hF.left c hc g' hg'⟩)
  obtain ⟨q, hq⟩ := key
  refine ⟨q, fun e he => hq _ (List.mem_map.2 ⟨e, List.mem_append.2 (.inl he), rfl⟩), fun e he => hq _ (List.mem_map.2 ⟨e, List.mem_append.2 (.inr he), rfl⟩)⟩

/-- a set that holds, with a point, the begin of every way from it -/
def Open (O : Pt → Prop) : Prop := ∀ q r, O q → ∃ k0 : Rat, 0 < k0 ∧ k0 ≤ 1 ∧ ∀ k, 0 ≤ k → k ≤ k0 → O (lerp q r k)
theorem Open.and {O P : Pt → Prop} (h1 : Open O) (h2 : Open P) : Open fun q => O q ∧ P q := fun q r h => by
  obtain ⟨k, k0, k1, hk⟩ := h1 q r h.1
  obtain ⟨j, j0, j1, hj⟩ := h2 q r h.2
  by_cases e : k ≤ j
  · exact ⟨k, k0, k1, fun i i0 i1 => ⟨hk i i0 i1, hj i i0 (by grind)⟩⟩
  · exact ⟨j, j0, j1, fun i i0 i1 => ⟨hk i i0 (by grind), hj i i0 i1⟩⟩
theorem Open.all {α : Type} (L : List α) (P : α → Pt → Prop) (h : ∀ e ∈ L, Open (P e)) : Open fun q => ∀ e ∈ L, P e q := by
  induction L with
  | nil => exact fun q r _ => ⟨1, by grind, by grind, fun k _ _ e he => by simp at he⟩
  | cons a L ih =>
    have := (h a (by simp)).and (ih fun e he => h e (by simp [he]))
    intro q r hq
    obtain ⟨k, k0, k1, hk⟩ := this q r ⟨hq a (by simp), fun e he => hq e (by simp [he])⟩
    refine ⟨k, k0, k1, fun j j0 j1 e he => ?_⟩
    rcases List.mem_cons.1 he with rfl | he
    · exact (hk j j0 j1).1
    · exact (hk j j0 j1).2 e he
/-- a function that is affine on every way -/
theorem open_aff (f : Pt → Rat) (hf : ∀ q r k, f (lerp q r k) = f q + k * (f r - f q)) : Open fun q => 0 < f q := fun q r h => by
  obtain ⟨k, k0, k1, hk⟩ := pos_step _ (f r) h
  exact ⟨k, k0, k1, fun j j0 j1 => by show 0 < f (lerp q r j); rw [hf]; exact hk j j0 j1⟩
theorem open_pos (a b : Pt) : Open fun q => 0 < cr a b q := open_aff _ fun q r k => cr_lerp a b q r k
theorem open_neg (a b : Pt) : Open fun q => cr a b q < 0 := by
  have := open_pos b a
  intro q r h
  obtain ⟨k, k0, k1, hk⟩ := this q r (by show 0 < cr b a q; rw [cr_swap]; grind)
  refine ⟨k, k0, k1, fun j j0 j1 => ?_⟩
  have hh : 0 < cr b a (lerp q r j) := hk j j0 j1
  rw [cr_swap] at hh; show cr a b (lerp q r j) < 0; grind
theorem open_ne (a b : Pt) : Open fun q => cr a b q ≠ 0 := fun q r h => by
  by_cases hp : 0 < cr a b q
  · obtain ⟨k, k0, k1, hk⟩ := open_pos a b q r hp
    exact ⟨k, k0, k1, fun j j0 j1 => by have := hk j j0 j1; grind⟩
  · obtain ⟨k, k0, k1, hk⟩ := open_neg a b q r (by grind)
    exact ⟨k, k0, k1, fun j j0 j1 => by have := hk j j0 j1; grind⟩
theorem open_off (a b : Pt) : Open fun q => ¬ On a b q := fun q r h0 => by
  have h : ¬ On a b q := h0
  rw [on_iff] at h
  have ox : ∀ m : Rat, Open fun q => 0 < q.x - m := fun m => open_aff _ fun q r k => by simp only [lerp]; grind
  have ox' : ∀ m : Rat, Open fun q => 0 < m - q.x := fun m => open_aff _ fun q r k => by simp only [lerp]; grind
  have oy : ∀ m : Rat, Open fun q => 0 < q.y - m := fun m => open_aff _ fun q r k => by simp only [lerp]; grind
  have oy' : ∀ m : Rat, Open fun q => 0 < m - q.y := fun m => open_aff _ fun q r k => by simp only [lerp]; grind
  have fin : ∀ P : Pt → Prop, Open P → P q → (∀ p, P p → ¬ On a b p) → ∃ k0 : Rat, 0 < k0 ∧ k0 ≤ 1 ∧ ∀ k, 0 ≤ k → k ≤ k0 → ¬ On a b (lerp q r k) := fun P hP hq hn => by
    obtain ⟨k, k0, k1, hk⟩ := hP q r hq
    exact ⟨k, k0, k1, fun j j0 j1 => hn _ (hk j j0 j1)⟩
  by_cases hc : cr a b q = 0
  · by_cases hx : a.x ≤ q.x ∧ q.x ≤ b.x ∨ b.x ≤ q.x ∧ q.x ≤ a.x
    · have hy : ¬ (a.y ≤ q.y ∧ q.y ≤ b.y ∨ b.y ≤ q.y ∧ q.y ≤ a.y) := fun hy => h ⟨hc, hx, hy⟩
      by_cases c1 : a.y < q.y
      · exact fin _ ((oy a.y).and (oy b.y)) ⟨by grind, by grind⟩ (fun p hp o => by rw [on_iff] at o; grind)
      · exact fin _ ((oy' a.y).and (oy' b.y)) ⟨by grind, by grind⟩ (fun p hp o => by rw [on_iff] at o; grind)
    · by_cases c1 : a.x < q.x
      · exact fin _ ((ox a.x).and (ox b.x)) ⟨by grind, by grind⟩ (fun p hp o => by rw [on_iff] at o; grind)
      · exact fin _ ((ox' a.x).and (ox' b.x)) ⟨by grind, by grind⟩ (fun p hp o => by rw [on_iff] at o; grind)
  · exact fin _ (open_ne a b) hc (fun p hp o => hp (cr_on o))
theorem lerp_on {q r p : Pt} {k : Rat} (h0 : 0 ≤ k) (hp : On q (lerp q r k) p) : ∃ j, 0 ≤ j ∧ j ≤ k ∧ p = lerp q r j := by
  obtain ⟨t, t0, t1, rfl⟩ := hp
  have e1 : 0 ≤ (1 - t) * k := Rat.mul_nonneg (by grind) h0
  refine ⟨t * k, Rat.mul_nonneg t0 h0, by grind, ?_⟩
  apply Pt.ext' <;> simp only [lerp] <;> grind
theorem Ri_open (l : List Pt) : Open (Ri l) := fun q r h => by
  obtain ⟨k, k0, k1, hk⟩ := Open.all (edges l) (fun e q => ¬ On e.1 e.2 q) (fun e _ => open_off e.1 e.2) q r h.1
  refine ⟨k, k0, k1, fun j j0 j1 => ⟨hk j j0 j1, ?_⟩⟩
  rw [← h.2]
  symm
  apply w_const
  intro e he p h1 h2
  obtain ⟨i, i0, i1, rfl⟩ := lerp_on j0 h2
  exact hk i i0 (by grind) e he h1

/-- a point off finitely many lines -/
theorem generic {O : Pt → Prop} (hO : Open O) {q : Pt} (hq : O q) (L : List (Pt × Pt)) (hL : ∀ e ∈ L, e.1 ≠ e.2) : ∃ q', O q' ∧ ∀ e ∈ L, cr e.1 e.2 q' ≠ 0 := by
  induction L with
  | nil => exact ⟨q, hq, fun e he => by simp at he⟩
  | cons a L ih =>
    obtain ⟨q1, h1, h2⟩ := ih fun e he => hL e (by simp [he])
    by_cases h : cr a.1 a.2 q1 = 0
    · have hne : a.1 ≠ a.2 := hL a (by simp)
      have hr : cr a.1 a.2 ⟨a.1.x - (a.2.y - a.1.y), a.1.y + (a.2.x - a.1.x)⟩ ≠ 0 := fun h0 => by
        apply hne
        unfold cr at h0
        simp only at h0
        have e1 : 0 ≤ (a.2.x - a.1.x) * (a.2.x - a.1.x) := by
          by_cases c : 0 ≤ a.2.x - a.1.x
          · exact Rat.mul_nonneg c c
          · have := Rat.mul_nonneg (a := -(a.2.x - a.1.x)) (b := -(a.2.x - a.1.x)) (by grind) (by grind); grind
        have e2 : 0 ≤ (a.2.y - a.1.y) * (a.2.y - a.1.y) := by
          by_cases c : 0 ≤ a.2.y - a.1.y
          · exact Rat.mul_nonneg c c
          · have := Rat.mul_nonneg (a := -(a.2.y - a.1.y)) (b := -(a.2.y - a.1.y)) (by grind) (by grind); grind
        have e3 : (a.2.x - a.1.x) * (a.2.x - a.1.x) = 0 := by grind
        have e4 : (a.2.y - a.1.y) * (a.2.y - a.1.y) = 0 := by grind
        apply Pt.ext'
        · rcases Rat.mul_eq_zero.1 e3 with h | h <;> grind
        · rcases Rat.mul_eq_zero.1 e4 with h | h <;> grind
      generalize (⟨a.1.x - (a.2.y - a.1.y), a.1.y + (a.2.x - a.1.x)⟩ : Pt) = r at hr
      obtain ⟨k, k0, k1, hk⟩ := (hO.and (Open.all L (fun e q => cr e.1 e.2 q ≠ 0) fun e _ => open_ne e.1 e.2)) q1 r ⟨h1, h2⟩
      obtain ⟨g1, g2⟩ := hk k (by grind) (by grind)
      refine ⟨_, g1, fun e he => ?_⟩
      rcases List.mem_cons.1 he with rfl | he
      · rw [cr_lerp, h]
        intro h0
        have : k * cr e.1 e.2 r = 0 := by grind
        rcases Rat.mul_eq_zero.1 this with h | h
        · grind
        · exact hr h
      · exact g2 e he
    · refine ⟨q1, h1, fun e he => ?_⟩
      rcases List.mem_cons.1 he with rfl | he
      · exact h
      · exact h2 e he

/-- the sides of triangles -/
def sidesT (ts : List T3) : List (Pt × Pt) := ts.flatMap fun t => [(t.1, t.2.1), (t.2.1, t.2.2), (t.2.2, t.1)]
theorem sides_ne {ts : List T3} (h : ∀ t ∈ ts, 0 < cr t.1 t.2.1 t.2.2) : ∀ e ∈ sidesT ts, e.1 ≠ e.2 := fun e he => by
  unfold sidesT at he
  rw [List.mem_flatMap] at he
  obtain ⟨t, ht, he⟩ := he
  have hp := h t ht
  simp only [List.mem_cons, List.not_mem_nil, or_false] at he
  rcases he with rfl | rfl | rfl
  · intro e; simp only at e; rw [e, cr_self''] at hp; grind
  · intro e; simp only at e; rw [e, cr_self'] at hp; grind
  · intro e; simp only at e; rw [e, cr_self] at hp; grind
theorem int_of_off {ts : List T3} {t : T3} (ht : t ∈ ts) {q : Pt} (hq : InT t.1 t.2.1 t.2.2 q) (h : ∀ e ∈ sidesT ts, cr e.1 e.2 q ≠ 0) : IntT t.1 t.2.1 t.2.2 q := by
  have m : ∀ e, e ∈ [(t.1, t.2.1), (t.2.1, t.2.2), (t.2.2, t.1)] → e ∈ sidesT ts := fun e he => List.mem_flatMap.2 ⟨t, ht, he⟩
  have h1 := h _ (m (t.1, t.2.1) (by simp))
  have h2 := h _ (m (t.2.1, t.2.2) (by simp))
  have h3 := h _ (m (t.2.2, t.1) (by simp))
  obtain ⟨g1, g2, g3⟩ := hq
  exact ⟨by grind, by grind, by grind⟩

/-- a point that is inner to two polygons: there is one that is inner to a triangle of each -/
theorem inner_meet {l m : List Pt} {ts us : List T3} (h1 : Cov l ts) (h2 : Cov m us) {q : Pt} (hq : Ri l q) (hq' : Ri m q) : ∃ t ∈ ts, ∃ u ∈ us, ∃ p, IntT t.1 t.2.1 t.2.2 p ∧ IntT u.1 u.2.1 u.2.2 p := by
  obtain ⟨p, ⟨g1, g2⟩, hp⟩ := generic ((Ri_open l).and (Ri_open m)) ⟨hq, hq'⟩ (sidesT ts ++ sidesT us) (fun e he => by
    rcases List.mem_append.1 he with he | he
    · exact sides_ne h1.pos e he
    · exact sides_ne h2.pos e he)
  obtain ⟨t, ht, i1⟩ := (h1.cov p).1 (.inr g1.2)
  obtain ⟨u, hu, i2⟩ := (h2.cov p).1 (.inr g2.2)
  exact ⟨t, ht, u, hu, p, int_of_off ht i1 (fun e he => hp e (List.mem_append.2 (.inl he))), int_of_off hu i2 (fun e he => hp e (List.mem_append.2 (.inr he)))⟩

/-- the middle of a triangle -/
def mid (a b c : Pt) : Pt := ⟨(a.x + b.x + c.x) / 3, (a.y + b.y + c.y) / 3⟩
theorem mid_in {a b c : Pt} (h : 0 < cr a b c) : IntT a b c (mid a b c) := by
  have e1 : cr a b (mid a b c) = cr a b c / 3 := by unfold cr mid; grind
  have e2 : cr b c (mid a b c) = cr a b c / 3 := by unfold cr mid; grind
  have e3 : cr c a (mid a b c) = cr a b c / 3 := by unfold cr mid; grind
  exact ⟨by grind, by grind, by grind⟩
theorem int_lerp {a b c q g : Pt} (h : InT a b c q) (hg : IntT a b c g) {k : Rat} (h0 : 0 < k) (h1 : k ≤ 1) : IntT a b c (lerp q g k) := by
  have key : ∀ u v : Rat, 0 ≤ u → 0 < v → 0 < u + k * (v - u) := fun u v hu hv => by
    have e1 : 0 ≤ (1 - k) * u := Rat.mul_nonneg (by grind) hu
    have e2 : 0 < k * v := Rat.mul_pos h0 hv
    grind
  refine ⟨?_, ?_, ?_⟩
  · rw [cr_lerp]; exact key _ _ h.1 hg.1
  · rw [cr_lerp]; exact key _ _ h.2.1 hg.2.1
  · rw [cr_lerp]; exact key _ _ h.2.2 hg.2.2
/-- a point of a polygon in an open set: there are inner ones -/
theorem closure_meet {l : List Pt} {ts : List T3} (h : Cov l ts) {O : Pt → Prop} (hO : Open O) {q : Pt} (hq : Rg l q) (ho : O q) : ∃ p, Ri l p ∧ O p := by
  obtain ⟨t, ht, hi⟩ := (h.cov q).1 hq
  have hg := mid_in (h.pos t ht)
  obtain ⟨k, k0, k1, hk⟩ := hO q (mid t.1 t.2.1 t.2.2) ho
  exact ⟨_, h.int t ht _ (int_lerp hi hg k0 k1), hk k (by grind) (by grind)⟩

/-- a point in the hull of a triangle, seen from a line -/
theorem hull_pos {a b c q s t : Pt} (h : 0 < cr a b c) (hq : InT a b c q) (hp : 0 < cr s t q) : 0 < cr s t a ∨ 0 < cr s t b ∨ 0 < cr s t c := by
  by_cases h1 : 0 < cr s t a
  · exact .inl h1
  by_cases h2 : 0 < cr s t b
  · exact .inr (.inl h2)
  by_cases h3 : 0 < cr s t c
  · exact .inr (.inr h3)
  have := conv_inT (C := fun x => 0 ≤ cr t s x) (conv_ge t s) h hq (by rw [cr_swap]; grind) (by rw [cr_swap]; grind) (by rw [cr_swap]; grind)
  rw [cr_swap] at this; grind
theorem hull_ge {a b c q s t : Pt} (h : 0 < cr a b c) (hq : InT a b c q) (hp : 0 ≤ cr s t q) : 0 ≤ cr s t a ∨ 0 ≤ cr s t b ∨ 0 ≤ cr s t c := by
  by_cases h1 : 0 ≤ cr s t a
  · exact .inl h1
  by_cases h2 : 0 ≤ cr s t b
  · exact .inr (.inl h2)
  by_cases h3 : 0 ≤ cr s t c
  · exact .inr (.inr h3)
  have := conv_inT (C := fun x => 0 < cr t s x) (conv_pos t s) h hq (by rw [cr_swap]; grind) (by rw [cr_swap]; grind) (by rw [cr_swap]; grind)
  rw [cr_swap] at this; grind
theorem tri_cvx {a b c : Pt} (h : 0 < cr a b c) : Cvx [(a, b), (b, c), (c, a)] [a, b, c] := by
  have r1 := cr_rot a b c; have r2 := cr_rot2 a b c
  refine ⟨fun e he v hv => ?_, ⟨mid a b c, fun e he => ?_⟩, by simp⟩
  · simp only [List.mem_cons, List.not_mem_nil, or_false] at he hv
    rcases he with rfl | rfl | rfl <;> rcases hv with rfl | rfl | rfl <;> simp only [cr_self, cr_self'] <;> grind
  · obtain ⟨h1, h2, h3⟩ := mid_in h
    simp only [List.mem_cons, List.not_mem_nil, or_false] at he
    rcases he with rfl | rfl | rfl <;> assumption
end Geo
