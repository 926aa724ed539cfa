/- A vertex cut off a simple polygon: the rest is simple, and what its triangle holds. -/
import Derived.Test.YtfgeengdmbabhaaGd
namespace Geo

theorem chain_mem {α : Type} {a b : α} {l : List α} {f : α × α} (h : f ∈ chain (a :: l ++ [b])) : f.1 ∈ a :: l ∧ f.2 ∈ l ++ [b] := by
  induction l generalizing a with
  | nil => simp [chain] at h; subst h; simp
  | cons c l ih =>
    have e : chain (a :: (c :: l) ++ [b]) = (a, c) :: chain (c :: l ++ [b]) := rfl
    rw [e] at h
    rcases List.mem_cons.1 h with rfl | h
    · simp
    · obtain ⟨h1, h2⟩ := ih h
      exact ⟨List.mem_cons_of_mem _ h1, List.mem_cons_of_mem _ h2⟩

theorem tri_side {a b c k : Pt} (h : 0 < cr a b c) (h0 : cr a b k = 0) (h1 : 0 ≤ cr b c k) (h2 : 0 ≤ cr c a k) : On a b k := by
  have hs := cr_sum a b c k
  obtain ⟨t0, t1, te⟩ := div_unit (m := cr c a k) (n := cr a b c) h2 (by grind) h
  generalize cr c a k / cr a b c = t at *
  refine ⟨t, t0, t1, ?_⟩
  have g1 : cr a b c * (k.x - (a.x + t * (b.x - a.x))) = 0 := by
    have i : cr a b c * (k.x - a.x) = cr c a k * (b.x - a.x) + cr a b k * (c.x - a.x) := by unfold cr; grind
    grind
  have g2 : cr a b c * (k.y - (a.y + t * (b.y - a.y))) = 0 := by
    have i : cr a b c * (k.y - a.y) = cr c a k * (b.y - a.y) + cr a b k * (c.y - a.y) := by unfold cr; grind
    grind
  exact Pt.ext' (by have := (Rat.mul_eq_zero.1 g1).resolve_left (by grind); simp only [lerp]; grind) (by have := (Rat.mul_eq_zero.1 g2).resolve_left (by grind); simp only [lerp]; grind)

theorem on_part {a b k k' : Pt} (h : On a b k') (hk : On a k' k) : On a b k := on_sub (on_left a b) h hk

theorem exit2 {a b c d k z : Pt} (h1 : 0 < cr a b k) (h2 : 0 < cr c d k) (hz : cr a b z < 0 ∨ cr c d z < 0) :
    ∃ k', On k z k' ∧ ((cr a b k' = 0 ∧ 0 ≤ cr c d k') ∨ (cr c d k' = 0 ∧ 0 ≤ cr a b k')) := by
  have key : ∀ a b c d : Pt, 0 < cr a b k → 0 < cr c d k → cr a b z < 0 → ∃ k', On k z k' ∧ ((cr a b k' = 0 ∧ 0 ≤ cr c d k') ∨ (cr c d k' = 0 ∧ 0 ≤ cr a b k')) := by
    intro a b c d h1 h2 hz
    obtain ⟨k1, o1, z1⟩ := cross_zero (s := a) (t := b) (a := k) (b := z) (by grind) (by grind)
    by_cases hc : 0 ≤ cr c d k1
    · exact ⟨k1, o1, .inl ⟨z1, hc⟩⟩
    · obtain ⟨k2, o2, z2⟩ := cross_zero (s := c) (t := d) (a := k) (b := k1) (by grind) (by grind)
      exact ⟨k2, on_part o1 o2, .inr ⟨z2, on_cr_ge o2 (by grind) (by grind)⟩⟩
  rcases hz with hz | hz
  · exact key a b c d h1 h2 hz
  · obtain ⟨k', o, h⟩ := key c d a b h2 h1 hz
    exact ⟨k', o, h.symm⟩

/-- a segment that leaves a triangle meets its boundary -/
theorem exit3 {a b c k z : Pt} (h : 0 < cr a b c) (h1 : 0 < cr a b k) (h2 : 0 < cr b c k) (h3 : 0 < cr c a k) (hz : ¬ InT a b c z) :
    ∃ k', On k z k' ∧ (On a b k' ∨ On b c k' ∨ On c a k') := by
  have c1 : 0 < cr b c a := by rw [cr_rot]; exact h
  have c2 : 0 < cr c a b := by rw [cr_rot2]; exact h
  have fin : ∀ k', On k z k' → InT a b c k' → (cr a b k' = 0 ∨ cr b c k' = 0 ∨ cr c a k' = 0) → ∃ k', On k z k' ∧ (On a b k' ∨ On b c k' ∨ On c a k') := by
    rintro k' ho ⟨i1, i2, i3⟩ (e | e | e)
    · exact ⟨k', ho, .inl (tri_side h e i2 i3)⟩
    · exact ⟨k', ho, .inr (.inl (tri_side c1 e i3 i1))⟩
    · exact ⟨k', ho, .inr (.inr (tri_side c2 e i1 i2))⟩
  by_cases hc : cr a b z < 0 ∨ cr b c z < 0
  · obtain ⟨k1, o1, hk⟩ := exit2 h1 h2 hc
    have hk' : 0 ≤ cr a b k1 ∧ 0 ≤ cr b c k1 ∧ (cr a b k1 = 0 ∨ cr b c k1 = 0) := by grind
    by_cases h4 : 0 ≤ cr c a k1
    · exact fin k1 o1 ⟨hk'.1, hk'.2.1, h4⟩ (by grind)
    · obtain ⟨k2, o2, z2⟩ := cross_zero (s := c) (t := a) (a := k) (b := k1) (by grind) (by grind)
      exact fin k2 (on_part o1 o2) ⟨on_cr_ge o2 (by grind) hk'.1, on_cr_ge o2 (by grind) hk'.2.1, by grind⟩ (.inr (.inr z2))
  · unfold InT at hz
    obtain ⟨k2, o2, z2⟩ := cross_zero (s := c) (t := a) (a := k) (b := z) (by grind) (by grind)
    exact fin k2 o2 ⟨on_cr_ge o2 (by grind) (by grind), on_cr_ge o2 (by grind) (by grind), by grind⟩ (.inr (.inr z2))

theorem between_end {a b k : Pt} (h1 : On a b k) (h2 : On k a b) : k = b := by
  obtain ⟨t, t0, t1, e1⟩ := h1
  obtain ⟨r, r0, r1, e2⟩ := h2
  have px : (1 - t + r * t) * (b.x - a.x) = 0 := by
    have x1 := congrArg Pt.x e1; have x2 := congrArg Pt.x e2; simp only [lerp] at x1 x2; grind
  have py : (1 - t + r * t) * (b.y - a.y) = 0 := by
    have x1 := congrArg Pt.y e1; have x2 := congrArg Pt.y e2; simp only [lerp] at x1 x2; grind
  by_cases hz : 1 - t + r * t = 0
  · have := Rat.mul_nonneg r0 t0
    have ht : t = 1 := by grind
    rw [e1, ht, lerp_one]
  · have hx := (Rat.mul_eq_zero.1 px).resolve_left hz
    have hy := (Rat.mul_eq_zero.1 py).resolve_left hz
    rw [e1]
    exact Pt.ext' (by simp only [lerp]; rw [hx]; grind) (by simp only [lerp]; rw [hy]; grind)

/-- two segments from one end: they have more in common exactly if one's other end lies on the other one -/
theorem adj_only {a b c p : Pt} (h1 : ¬ On a b c) (h2 : ¬ On b c a) (hp : On a b p) (hq : On b c p) : p = b := by
  by_cases hpb : p = b; · exact hpb
  exfalso
  obtain ⟨s, s0, s1, e1⟩ := on_comm hp
  obtain ⟨k, k0, k1, e2⟩ := hq
  have hs : s ≠ 0 := fun h => hpb (by rw [e1, h, lerp_zero])
  have hk : k ≠ 0 := fun h => hpb (by rw [e2, h, lerp_zero])
  have ex : s * (a.x - b.x) = k * (c.x - b.x) := by
    have := congrArg Pt.x (e1.symm.trans e2); simp only [lerp] at this; grind
  have ey : s * (a.y - b.y) = k * (c.y - b.y) := by
    have := congrArg Pt.y (e1.symm.trans e2); simp only [lerp] at this; grind
  by_cases hle : s ≤ k
  · obtain ⟨t0, t1, te⟩ := div_unit (m := s) (n := k) s0 hle (by grind)
    generalize s / k = t at *
    apply h1
    refine on_comm ⟨t, t0, t1, ?_⟩
    have g1 : k * (c.x - (b.x + t * (a.x - b.x))) = 0 := by grind
    have g2 : k * (c.y - (b.y + t * (a.y - b.y))) = 0 := by grind
    exact Pt.ext' (by have := (Rat.mul_eq_zero.1 g1).resolve_left hk; simp only [lerp]; grind) (by have := (Rat.mul_eq_zero.1 g2).resolve_left hk; simp only [lerp]; grind)
  · obtain ⟨t0, t1, te⟩ := div_unit (m := k) (n := s) k0 (by grind) (by grind)
    generalize k / s = t at *
    apply h2
    refine ⟨t, t0, t1, ?_⟩
    have g1 : s * (a.x - (b.x + t * (c.x - b.x))) = 0 := by grind
    have g2 : s * (a.y - (b.y + t * (c.y - b.y))) = 0 := by grind
    exact Pt.ext' (by have := (Rat.mul_eq_zero.1 g1).resolve_left hs; simp only [lerp]; grind) (by have := (Rat.mul_eq_zero.1 g2).resolve_left hs; simp only [lerp]; grind)

/-- of three points on a line one lies between the others -/
theorem mid3 {a b c : Pt} (h : cr a b c = 0) : On a b c ∨ On b c a ∨ On c a b := by
  have hx : ∀ a b c : Pt, cr a b c = 0 → a.x ≤ b.x → b.x ≤ c.x → a.x < c.x → On a c b := fun a b c h h1 h2 h3 => on_of_x (by unfold cr at *; grind) h3 h1 h2
  have hy : ∀ a b c : Pt, cr a b c = 0 → a.y ≤ b.y → b.y ≤ c.y → a.y < c.y → On a c b := fun a b c h h1 h2 h3 => on_of_y (by unfold cr at *; grind) h3 h1 h2
  have r1 : cr b c a = 0 := by rw [cr_rot]; exact h
  have r2 : cr c a b = 0 := by rw [cr_rot2]; exact h
  have r3 : cr b a c = 0 := by rw [cr_swap, h]; grind
  have r4 : cr a c b = 0 := by have := cr_swap c a b; grind
  have r5 : cr c b a = 0 := by have := cr_swap b c a; grind
  by_cases ex : a.x = b.x ∧ b.x = c.x
  · by_cases ey : a.y = b.y ∧ b.y = c.y
    · have : b = c := Pt.ext' ex.2 ey.2
      subst this; exact .inl (on_right _ _)
    · by_cases c1 : a.y ≤ b.y <;> by_cases c2 : b.y ≤ c.y <;> by_cases c3 : a.y ≤ c.y
      · exact .inr (.inr (on_comm (hy a b c h c1 c2 (by grind))))
      · exfalso; grind
      · exact .inl (hy a c b r4 c3 (by grind) (by grind))
      · exact .inr (.inl (on_comm (hy c a b r2 (by grind) c1 (by grind))))
      · exact .inr (.inl (hy b a c r3 (by grind) c3 (by grind)))
      · exact .inl (on_comm (hy b c a r1 c2 (by grind) (by grind)))
      · exfalso; grind
      · exact .inr (.inr (hy c b a r5 (by grind) (by grind) (by grind)))
  · by_cases c1 : a.x ≤ b.x <;> by_cases c2 : b.x ≤ c.x <;> by_cases c3 : a.x ≤ c.x
    · exact .inr (.inr (on_comm (hx a b c h c1 c2 (by grind))))
    · exfalso; grind
    · exact .inl (hx a c b r4 c3 (by grind) (by grind))
    · exact .inr (.inl (on_comm (hx c a b r2 (by grind) c1 (by grind))))
    · exact .inr (.inl (hx b a c r3 (by grind) c3 (by grind)))
    · exact .inl (on_comm (hx b c a r1 c2 (by grind) (by grind)))
    · exfalso; grind
    · exact .inr (.inr (hx c b a r5 (by grind) (by grind) (by grind)))

/-- a point of a segment lies on one of the parts that a point of it makes -/
theorem on_split {a b u k : Pt} (hu : On a b u) (hk : On a b k) : On a u k ∨ On u b k := by
  obtain ⟨r, r0, r1, rfl⟩ := hu
  obtain ⟨t, t0, t1, rfl⟩ := hk
  by_cases hle : t ≤ r
  · left
    by_cases hr : r = 0
    · have : t = 0 := by grind
      subst this; rw [lerp_zero]; exact on_left _ _
    · obtain ⟨q0, q1, qe⟩ := div_unit (m := t) (n := r) t0 hle (by grind)
      generalize t / r = q at *
      refine ⟨q, q0, q1, ?_⟩
      apply Pt.ext' <;> simp only [lerp] <;> grind
  · right
    obtain ⟨q0, q1, qe⟩ := div_unit (m := t - r) (n := 1 - r) (by grind) (by grind) (by grind)
    generalize (t - r) / (1 - r) = q at *
    refine ⟨q, q0, q1, ?_⟩
    apply Pt.ext' <;> simp only [lerp] <;> grind

section cut
variable {p u s : Pt} {R : List Pt}

theorem edges3 (p u s : Pt) (R : List Pt) : edges (p :: u :: s :: R) = (p, u) :: (u, s) :: chain (s :: R ++ [p]) := rfl
theorem edges2 (p s : Pt) (R : List Pt) : edges (p :: s :: R) = (p, s) :: chain (s :: R ++ [p]) := rfl

structure Dist (p u s : Pt) (R : List Pt) : Prop where
  pu : p ≠ u
  ps : p ≠ s
  us : u ≠ s
  pR : p ∉ R
  uR : u ∉ R
  sR : s ∉ R
theorem Simple.dist (h : Simple (p :: u :: s :: R)) : Dist p u s R := by
  have := h.nodup
  simp only [List.nodup_cons, List.mem_cons, not_or] at this
  exact ⟨this.1.1, this.1.2.1, this.2.1.1, this.1.2.2, this.2.1.2, this.2.2.1⟩

theorem chain_edge {f : Pt × Pt} (hf : f ∈ chain (s :: R ++ [p])) : f ∈ edges (p :: u :: s :: R) := List.mem_cons_of_mem _ (List.mem_cons_of_mem _ hf)

theorem Simple.u_off (h : Simple (p :: u :: s :: R)) {f : Pt × Pt} (hf : f ∈ chain (s :: R ++ [p])) (ho : On f.1 f.2 u) : False := by
  have hd := h.dist
  obtain ⟨m1, m2⟩ := chain_mem hf
  rcases h.vertex (x := u) (by simp) (chain_edge hf) ho with e | e
  · rw [← e] at m1
    rcases List.mem_cons.1 m1 with e | e
    · exact hd.us e
    · exact hd.uR e
  · rw [← e] at m2
    rcases List.mem_append.1 m2 with e | e
    · exact hd.uR e
    · simp at e; exact hd.pu e.symm
theorem Simple.p_end (h : Simple (p :: u :: s :: R)) {f : Pt × Pt} (hf : f ∈ chain (s :: R ++ [p])) (ho : On f.1 f.2 p) : f.2 = p := by
  have hd := h.dist
  obtain ⟨m1, m2⟩ := chain_mem hf
  rcases h.vertex (x := p) (by simp) (chain_edge hf) ho with e | e
  · rw [← e] at m1
    rcases List.mem_cons.1 m1 with e | e
    · exact absurd e hd.ps
    · exact absurd e hd.pR
  · exact e.symm
theorem Simple.s_end (h : Simple (p :: u :: s :: R)) {f : Pt × Pt} (hf : f ∈ chain (s :: R ++ [p])) (ho : On f.1 f.2 s) : f.1 = s := by
  have hd := h.dist
  obtain ⟨m1, m2⟩ := chain_mem hf
  rcases h.vertex (x := s) (by simp) (chain_edge hf) ho with e | e
  · exact e.symm
  · rw [← e] at m2
    rcases List.mem_append.1 m2 with e | e
    · exact absurd e hd.sR
    · simp at e; exact absurd e.symm hd.ps
theorem Simple.on_pu (h : Simple (p :: u :: s :: R)) {f : Pt × Pt} (hf : f ∈ chain (s :: R ++ [p])) {k : Pt} (ho : On f.1 f.2 k) (hk : On p u k) : k = p := by
  have hne : f ≠ (p, u) := fun e => h.u_off hf (by rw [e]; exact on_right _ _)
  rcases h.apart f (chain_edge hf) (p, u) (by simp [edges3]) hne k ho hk with ⟨a, b⟩ | ⟨a, b⟩
  · exact (h.u_off hf (by have : k = u := b; rw [← this]; exact ho)).elim
  · exact b
theorem Simple.on_us (h : Simple (p :: u :: s :: R)) {f : Pt × Pt} (hf : f ∈ chain (s :: R ++ [p])) {k : Pt} (ho : On f.1 f.2 k) (hk : On u s k) : k = s := by
  have hne : f ≠ (u, s) := fun e => h.u_off hf (by rw [e]; exact on_left _ _)
  rcases h.apart f (chain_edge hf) (u, s) (by simp [edges3]) hne k ho hk with ⟨a, b⟩ | ⟨a, b⟩
  · exact b
  · exact (h.u_off hf (by have : k = u := b; rw [← this]; exact ho)).elim
theorem Simple.no_sp (h : Simple (p :: u :: s :: R)) (hR : R ≠ []) (hf : (s, p) ∈ chain (s :: R ++ [p])) : False := by
  cases R with
  | nil => exact hR rfl
  | cons r R =>
    have e := h.from_eq (a := s) (b := p) (c := r) (chain_edge hf) (chain_edge (by simp [chain]))
    exact h.dist.pR (by rw [e]; simp)

theorem inT_ps (hpos : 0 < cr p u s) {x : Pt} (h : On p s x) : InT p u s x := by
  refine ⟨on_cr_ge h (by rw [cr_self]; grind) (by grind), on_cr_ge h (by rw [cr_rot]; grind) (by rw [cr_self']; grind), ?_⟩
  rw [cr_on (on_comm h)]; grind

theorem cut_A (h : Simple (p :: u :: s :: R)) (hpos : 0 < cr p u s) (hno : ∀ x ∈ R, ¬ InT p u s x) {f : Pt × Pt} (hf : f ∈ chain (s :: R ++ [p])) {k z : Pt}
    (hps : On p s k) (kp : k ≠ p) (ks : k ≠ s) (hz : z ∈ s :: R ++ [p]) (hn : cr p s z < 0) (seg : ∀ k', On k z k' → On f.1 f.2 k') : False := by
  have hzR : z ∈ R := by
    rcases List.mem_append.1 hz with hz | hz
    · rcases List.mem_cons.1 hz with rfl | hz
      · rw [cr_self'] at hn; grind
      · exact hz
    · simp at hz; subst hz; rw [cr_self] at hn; grind
  have hT := hno z hzR
  have sw := cr_swap p s z
  have e1 : cr p u z < 0 ∨ cr u s z < 0 := by unfold InT at hT; grind
  obtain ⟨t, t0, t1, et⟩ := open_at hps kp ks
  have k1 : 0 < cr p u k := by rw [et, cr_lerp, cr_self]; have := Rat.mul_pos t0 hpos; grind
  have k2 : 0 < cr u s k := by rw [et, cr_lerp, cr_self', cr_rot]; have := Rat.mul_pos (a := 1 - t) (by grind) hpos; grind
  have k3 : cr s p k = 0 := cr_on (on_comm hps)
  obtain ⟨k', o, hk'⟩ := exit2 k1 k2 e1
  have hk3 : 0 < cr s p k' := by
    obtain ⟨r, r0, r1, er⟩ := o
    have hr : r ≠ 0 := by
      intro hr; rw [hr, lerp_zero] at er; subst er; grind
    rw [er, cr_lerp, k3]
    have := Rat.mul_pos (a := r) (b := cr s p z) (by grind) (by grind)
    grind
  rcases hk' with ⟨a, b⟩ | ⟨a, b⟩
  · have := h.on_pu hf (seg k' o) (tri_side hpos a b (by grind))
    subst this; rw [cr_self'] at hk3; grind
  · have := h.on_us hf (seg k' o) (tri_side (by rw [cr_rot]; exact hpos) a (by grind) b)
    subst this; rw [cr_self] at hk3; grind

theorem cut_side (h : Simple (p :: u :: s :: R)) (hR : R ≠ []) (hpos : 0 < cr p u s) (hno : ∀ x ∈ R, ¬ InT p u s x) {f : Pt × Pt} (hf : f ∈ chain (s :: R ++ [p])) {k : Pt}
    (ho : On f.1 f.2 k) (hps : On p s k) : k = p ∨ k = s := by
  by_cases kp : k = p; · exact .inl kp
  by_cases ks : k = s; · exact .inr ks
  exfalso
  obtain ⟨m1, m2⟩ := chain_mem hf
  have hd := h.dist
  have A1 : f.2 = p → False := fun e => by
    have hx : f.1 ∈ R := by
      rcases List.mem_cons.1 m1 with e1 | e1
      · exact (h.no_sp hR (Prod.ext (x := f) (y := (s, p)) e1 e ▸ hf)).elim
      · exact e1
    refine kp (adj_only (a := f.1) (b := p) (c := s) (fun o => ?_) (fun o => hno _ hx (inT_ps hpos o)) (by rw [← e]; exact ho) hps)
    have := h.s_end hf (by rw [e]; exact o)
    rw [this] at hx; exact hd.sR hx
  have A2 : f.1 = s → False := fun e => by
    have hx : f.2 ∈ R := by
      rcases List.mem_append.1 m2 with e1 | e1
      · exact e1
      · simp at e1; exact (h.no_sp hR (Prod.ext (x := f) (y := (s, p)) e e1 ▸ hf)).elim
    refine ks (adj_only (a := p) (b := s) (c := f.2) (fun o => hno _ hx (inT_ps hpos o)) (fun o => ?_) hps (by rw [← e]; exact ho))
    have := h.p_end hf (by rw [e]; exact o)
    rw [this] at hx; exact hd.pR hx
  rcases (meet_iff p s f.1 f.2).1 ⟨k, hps, ho⟩ with o | o | o | o | ⟨o, _⟩
  · rcases List.mem_cons.1 m1 with e1 | e1
    · exact A2 e1
    · exact hno _ e1 (inT_ps hpos o)
  · rcases List.mem_append.1 m2 with e1 | e1
    · exact hno _ e1 (inT_ps hpos o)
    · simp at e1; exact A1 e1
  · exact A1 (h.p_end hf o)
  · exact A2 (h.s_end hf o)
  · rcases mul_neg_iff.1 o with ⟨_, n⟩ | ⟨n, _⟩
    · exact cut_A h hpos hno hf hps kp ks (List.mem_cons_of_mem _ m2) n (fun k' o' => on_sub ho (on_right _ _) o')
    · exact cut_A h hpos hno hf hps kp ks (List.mem_append_left _ m1) n (fun k' o' => on_sub ho (on_left _ _) o')

theorem cut_free (h : Simple (p :: u :: s :: R)) (hR : R ≠ []) (hpos : 0 < cr p u s) (hno : ∀ x ∈ R, ¬ InT p u s x) {f : Pt × Pt} (hf : f ∈ chain (s :: R ++ [p])) {k : Pt}
    (ho : On f.1 f.2 k) (hT : InT p u s k) : k = p ∨ k = s := by
  have c1 : 0 < cr u s p := by rw [cr_rot]; exact hpos
  have c2 : 0 < cr s p u := by rw [cr_rot2]; exact hpos
  obtain ⟨i1, i2, i3⟩ := hT
  by_cases e1 : cr p u k = 0
  · exact .inl (h.on_pu hf ho (tri_side hpos e1 i2 i3))
  by_cases e2 : cr u s k = 0
  · exact .inr (h.on_us hf ho (tri_side c1 e2 i3 i1))
  by_cases e3 : cr s p k = 0
  · exact cut_side h hR hpos hno hf ho (on_comm (tri_side c2 e3 i1 i2))
  exfalso
  have j1 : 0 < cr p u k := by grind
  have j2 : 0 < cr u s k := by grind
  have j3 : 0 < cr s p k := by grind
  obtain ⟨m1, m2⟩ := chain_mem hf
  have hd := h.dist
  have bd : ∀ k', On f.1 f.2 k' → (On p u k' ∨ On u s k' ∨ On s p k') → k' = p ∨ k' = s := by
    rintro k' o (q | q | q)
    · exact .inl (h.on_pu hf o q)
    · exact .inr (h.on_us hf o q)
    · exact cut_side h hR hpos hno hf o (on_comm q)
  have x1 : f.1 = s := by
    rcases List.mem_cons.1 m1 with e | e
    · exact e
    exfalso
    obtain ⟨k', o, hk'⟩ := exit3 hpos j1 j2 j3 (hno _ e)
    have of := on_sub ho (on_left _ _) o
    rcases bd k' of hk' with rfl | rfl
    · have e2 := h.p_end hf of
      have := between_end (a := f.1) (b := k') (k := k) (by rw [← e2]; exact ho) o
      subst this; rw [cr_self] at j1; grind
    · have := h.s_end hf of
      rw [this] at e; exact hd.sR e
  have x2 : f.2 = p := by
    rcases List.mem_append.1 m2 with e | e
    · exfalso
      obtain ⟨k', o, hk'⟩ := exit3 hpos j1 j2 j3 (hno _ e)
      have of := on_sub ho (on_right _ _) o
      rcases bd k' of hk' with rfl | rfl
      · have := h.p_end hf of
        rw [this] at e; exact hd.pR e
      · have e2 := h.s_end hf of
        have := between_end (a := f.2) (b := k') (k := k) (by rw [← e2]; exact on_comm ho) o
        subst this; rw [cr_self'] at j2; grind
    · simpa using e
  rw [x1, x2] at ho
  have := cr_on ho
  grind

/-- the rest of the polygon is simple -/
theorem rest_simple (h : Simple (p :: u :: s :: R)) (hR : R ≠ []) (H : ∀ f ∈ chain (s :: R ++ [p]), ∀ k, On f.1 f.2 k → On p s k → k = p ∨ k = s) : Simple (p :: s :: R) := by
  have hnd := h.nodup
  have hd := h.dist
  refine ⟨?_, ?_, ?_⟩
  · cases R with
    | nil => exact absurd rfl hR
    | cons r R => simp
  · simp only [List.nodup_cons, List.mem_cons, not_or] at hnd ⊢
    exact ⟨⟨hnd.1.2.1, hnd.1.2.2⟩, hnd.2.2⟩
  · intro e he f hf hne k ke kf
    rw [edges2] at he hf
    rcases List.mem_cons.1 he with rfl | he
    · rcases List.mem_cons.1 hf with rfl | hf
      · exact absurd rfl hne
      · rcases H f hf k kf ke with rfl | rfl
        · exact .inl ⟨rfl, (h.p_end hf kf).symm⟩
        · exact .inr ⟨rfl, (h.s_end hf kf).symm⟩
    · rcases List.mem_cons.1 hf with rfl | hf
      · rcases H e he k ke kf with rfl | rfl
        · exact .inr ⟨(h.p_end he ke).symm, rfl⟩
        · exact .inl ⟨(h.s_end he ke).symm, rfl⟩
      · exact h.apart e (chain_edge he) f (chain_edge hf) hne k ke kf
theorem ear_simple (h : Simple (p :: u :: s :: R)) (hR : R ≠ []) (hpos : 0 < cr p u s) (hno : ∀ x ∈ R, ¬ InT p u s x) : Simple (p :: s :: R) :=
  rest_simple h hR fun f hf k o1 o2 => cut_side h hR hpos hno hf o1 o2
theorem flat_on (h : Simple (p :: u :: s :: R)) (h0 : cr p u s = 0) : On p s u := by
  have hd := h.dist
  rcases mid3 h0 with o | o | o
  · rcases h.vertex (x := s) (by simp) (e := (p, u)) (by simp [edges3]) o with e | e
    · exact absurd e.symm hd.ps
    · exact absurd e.symm hd.us
  · rcases h.vertex (x := p) (by simp) (e := (u, s)) (by simp [edges3]) o with e | e
    · exact absurd e hd.pu
    · exact absurd e hd.ps
  · exact on_comm o
theorem flat_simple (h : Simple (p :: u :: s :: R)) (hR : R ≠ []) (h0 : cr p u s = 0) : Simple (p :: s :: R) :=
  rest_simple h hR fun f hf k o1 o2 => by
    rcases on_split (flat_on h h0) o2 with o | o
    · exact .inl (h.on_pu hf o1 o)
    · exact .inr (h.on_us hf o1 o)

theorem w3 (p u s : Pt) (R : List Pt) (q : Pt) : w (p :: u :: s :: R) q = chi p u q + chi u s q + cw (s :: R ++ [p]) q := by
  unfold w cw; rw [edges3, esum_cons, esum_cons]; simp only; omega
theorem w2 (p s : Pt) (R : List Pt) (q : Pt) : w (p :: s :: R) q = chi p s q + cw (s :: R ++ [p]) q := by
  unfold w cw; rw [edges2, esum_cons]
theorem w_cut (p u s : Pt) (R : List Pt) (q : Pt) : w (p :: u :: s :: R) q = w (p :: s :: R) q + w [p, u, s] q := by
  rw [w3, w2, w_tri, chi_anti p s q]; omega
theorem chi_flat_cut {p u s : Pt} (hu : On p s u) (q : Pt) : chi p u q + chi u s q = chi p s q := by
  obtain ⟨t, t0, t1, rfl⟩ := hu
  have e1 : cr p (lerp p s t) q = t * cr p s q := by unfold cr lerp; grind
  have e2 : cr (lerp p s t) s q = (1 - t) * cr p s q := by unfold cr lerp; grind
  by_cases h0 : t = 0
  · subst h0; rw [lerp_zero]; have : chi p p q = 0 := chi_flat rfl q; omega
  by_cases h1 : t = 1
  · subst h1; rw [lerp_one]; have : chi s s q = 0 := chi_flat rfl q; omega
  obtain ⟨y1, y2, y3⟩ := open_y (a := p) (b := s) (t := t) (by grind) (by grind)
  have g1 := mul_pos_iff' (a := t) (b := cr p s q)
  have g2 := mul_neg_iff (a := t) (b := cr p s q)
  have g3 := mul_pos_iff' (a := 1 - t) (b := cr p s q)
  have g4 := mul_neg_iff (a := 1 - t) (b := cr p s q)
  rw [← e1] at g1 g2
  rw [← e2] at g3 g4
  generalize lerp p s t = u at *
  have t0' : 0 < t := by grind
  have t1' : 0 < 1 - t := by grind
  have k1 : 0 < cr p u q ↔ 0 < cr p s q := by grind
  have k2 : cr p u q < 0 ↔ cr p s q < 0 := by grind
  have k3 : 0 < cr u s q ↔ 0 < cr p s q := by grind
  have k4 : cr u s q < 0 ↔ cr p s q < 0 := by grind
  by_cases hp : 0 < cr p s q
  · rw [chi_left (k1.2 hp), chi_left (k3.2 hp), chi_left hp]
    clear k1 k2 k3 k4 g1 g2 g3 g4 e1 e2
    grind
  by_cases hn : cr p s q < 0
  · rw [chi_right (k2.2 hn), chi_right (k4.2 hn), chi_right hn]
    clear k1 k2 k3 k4 g1 g2 g3 g4 e1 e2
    grind
  · have z : cr p s q = 0 := by grind
    rw [chi_line z, chi_line (by rw [e1, z]; grind), chi_line (by rw [e2, z]; grind)]; rfl
theorem w_flat (hu : On p s u) (q : Pt) : w (p :: u :: s :: R) q = w (p :: s :: R) q := by
  rw [w3, w2, chi_flat_cut hu]
end cut
end Geo
