import Derived.Test.YtfgeengdmbabhaaB1
/- Good polygons: the winding number is 0 or 1 off the boundary, known on it, and the area is positive; cutting keeps it. -/
namespace Geo

/-- sums of rationals over sides -/
def rsum (f : Pt × Pt → Rat) : List (Pt × Pt) → Rat
  | [] => 0
  | e :: l => f e + rsum f l
theorem rsum_perm (f : Pt × Pt → Rat) {l m : List (Pt × Pt)} (h : l.Perm m) : rsum f l = rsum f m := by
  induction h with
  | nil => rfl
  | cons x _ ih => simp only [rsum, ih]
  | swap x y l => simp only [rsum]; grind
  | trans _ _ h1 h2 => exact h1.trans h2
/-- twice the signed area -/
def ar (l : List Pt) : Rat := rsum (fun e => e.1.x * e.2.y - e.1.y * e.2.x) (edges l)
theorem ar_perm {l m : List Pt} (h : (edges l).Perm (edges m)) : ar l = ar m := rsum_perm _ h
theorem ar_cut (p u s : Pt) (R : List Pt) : ar (p :: u :: s :: R) = ar (p :: s :: R) + cr p u s := by
  unfold ar; rw [edges3, edges2]; simp only [rsum]; unfold cr; grind
theorem ar_tri (a b c : Pt) : ar [a, b, c] = cr a b c := by
  simp only [ar, edges, chain, List.cons_append, List.nil_append, rsum]; unfold cr; grind

structure Good (l : List Pt) : Prop where
  win : ∀ q, (∀ e ∈ edges l, ¬ On e.1 e.2 q) → w l q = 0 ∨ w l q = 1
  rim : ∀ e ∈ edges l, ∀ m, On e.1 e.2 m → m ≠ e.1 → m ≠ e.2 → w l m = D e.1 e.2
  area : 0 < ar l
theorem Good.perm {l m : List Pt} (h : Good l) (he : (edges l).Perm (edges m)) : Good m :=
  ⟨fun q hq => by rw [← w_perm he]; exact h.win q fun e hE => hq e (he.mem_iff.1 hE), fun e hE k h1 h2 h3 => by rw [← w_perm he]; exact h.rim e (he.mem_iff.2 hE) k h1 h2 h3, by rw [← ar_perm he]; exact h.area⟩

theorem w_rot3 (a b c q : Pt) : w [b, c, a] q = w [a, b, c] q := by rw [w_tri, w_tri]; omega
theorem w_rot3' (a b c q : Pt) : w [c, a, b] q = w [a, b, c] q := by rw [w_tri, w_tri]; omega

/-- a point of the closed triangle off its sides lies inside -/
theorem inT_pos {a b c q : Pt} (h : 0 < cr a b c) (hq : InT a b c q) (h1 : ¬ On a b q) (h2 : ¬ On b c q) (h3 : ¬ On c a q) : 0 < cr a b q ∧ 0 < cr b c q ∧ 0 < cr c a q := by
  obtain ⟨i1, i2, i3⟩ := hq
  have n1 : cr a b q ≠ 0 := fun e => h1 (tri_side h e i2 i3)
  have n2 : cr b c q ≠ 0 := fun e => h2 (tri_side (by rw [cr_rot]; exact h) e i3 i1)
  have n3 : cr c a q ≠ 0 := fun e => h3 (tri_side (by rw [cr_rot2]; exact h) e i1 i2)
  exact ⟨by grind, by grind, by grind⟩
theorem tri_good {a b c : Pt} (h : 0 < cr a b c) : Good [a, b, c] := by
  have he : edges [a, b, c] = [(a, b), (b, c), (c, a)] := rfl
  refine ⟨fun q hq => ?_, fun e hE m h1 h2 h3 => ?_, by rw [ar_tri]; exact h⟩
  · rw [he] at hq
    by_cases hT : InT a b c q
    · obtain ⟨i1, i2, i3⟩ := inT_pos h hT (hq (a, b) (by simp)) (hq (b, c) (by simp)) (hq (c, a) (by simp))
      exact .inr (tri_in i1 i2 i3)
    · exact .inl (tri_out h hT)
  · rw [he] at hE
    simp only [List.mem_cons, List.not_mem_nil, or_false] at hE
    rcases hE with rfl | rfl | rfl
    · exact tri_rim h h1 h2 h3
    · rw [← w_rot3]; exact tri_rim (by rw [cr_rot]; exact h) h1 h2 h3
    · rw [← w_rot3']; exact tri_rim (by rw [cr_rot2]; exact h) h1 h2 h3

/-- the middle of a segment -/
theorem mid_open {p s : Pt} (h : p ≠ s) : ∃ m, On p s m ∧ m ≠ p ∧ m ≠ s := by
  refine ⟨lerp p s (1/2), ⟨1/2, by grind, by grind, rfl⟩, fun e => h ?_, fun e => h ?_⟩
  · have x := congrArg Pt.x e; have y := congrArg Pt.y e
    simp only [lerp] at x y
    exact Pt.ext' (by grind) (by grind)
  · have x := congrArg Pt.x e; have y := congrArg Pt.y e
    simp only [lerp] at x y
    exact Pt.ext' (by grind) (by grind)
theorem inT_conv {a b c x y k : Pt} (hx : InT a b c x) (hy : InT a b c y) (hk : On x y k) : InT a b c k :=
  ⟨on_cr_ge hk hx.1 hy.1, on_cr_ge hk hx.2.1 hy.2.1, on_cr_ge hk hx.2.2 hy.2.2⟩

section ear
variable {p u s : Pt} {R : List Pt}
/-- the sum along the rest at a point of the ear -/
theorem ear_rest (h : Simple (p :: u :: s :: R)) (hR : R ≠ []) (hpos : 0 < cr p u s) (hno : ∀ x ∈ R, ¬ InT p u s x) {y m : Pt} (hy : InT p u s y) (hys : 0 < cr s p y)
    (hm : On p s m) (mp : m ≠ p) (ms : m ≠ s) : cw (s :: R ++ [p]) y = w (p :: s :: R) m - D p s - chi p s y := by
  have sw := cr_swap s p y
  have e := G_move (R := R) hm mp ms (y := y) (by grind) fun f hf k k1 k2 => by
    have hk := inT_conv hy (inT_ps hpos hm) k2
    have key : cr s p k = 0 → k = m := fun z => by
      obtain ⟨t, t0, t1, rfl⟩ := k2
      rw [cr_lerp, cr_on (on_comm hm)] at z
      have : (1 - t) * cr s p y = 0 := by grind
      have := (Rat.mul_eq_zero.1 this).resolve_right (by grind)
      have : t = 1 := by grind
      rw [this, lerp_one]
    rcases cut_free h hR hpos hno hf k1 hk with rfl | rfl
    · exact mp (key (cr_self' _ _)).symm
    · exact ms (key (cr_self _ _)).symm
  rw [e, w2, chi_line (cr_on hm)]
  omega
theorem ear_in (h : Simple (p :: u :: s :: R)) (hR : R ≠ []) (hpos : 0 < cr p u s) (hno : ∀ x ∈ R, ¬ InT p u s x) (hg : Good (p :: s :: R)) {y : Pt} (hy : InT p u s y) (hys : 0 < cr s p y) :
    w (p :: u :: s :: R) y = w [p, u, s] y := by
  obtain ⟨m, hm, mp, ms⟩ := mid_open h.dist.ps
  have e := ear_rest h hR hpos hno hy hys hm mp ms
  have r := hg.rim (p, s) (by simp [edges2]) m hm mp ms
  rw [w3, e, w_tri, chi_anti p s y]
  simp only at r
  omega
theorem ear_on (h : Simple (p :: u :: s :: R)) (hpos : 0 < cr p u s) (hg : Good (p :: s :: R)) {y : Pt} (hy : On p s y) (yp : y ≠ p) (ys : y ≠ s) : w (p :: u :: s :: R) y = 1 := by
  have r := hg.rim (p, s) (by simp [edges2]) y hy yp ys
  have t := tri_rim (a := s) (b := p) (c := u) (by rw [cr_rot2]; exact hpos) (on_comm hy) ys yp
  have d := D_swap h.dist.ps
  have z := chi_anti p s y
  rw [w_cut, r, ← w_rot3', t]
  exact d
/-- at every point of the ear that lies on no side the number is 1 -/
theorem ear_one (h : Simple (p :: u :: s :: R)) (hR : R ≠ []) (hpos : 0 < cr p u s) (hno : ∀ x ∈ R, ¬ InT p u s x) (hg : Good (p :: s :: R)) {y : Pt} (hy : InT p u s y) (hoff : ∀ e ∈ edges (p :: u :: s :: R), ¬ On e.1 e.2 y) :
    w (p :: u :: s :: R) y = 1 := by
  have o1 : ¬ On p u y := hoff (p, u) (by simp [edges3])
  have o2 : ¬ On u s y := hoff (u, s) (by simp [edges3])
  by_cases o3 : On s p y
  · exact ear_on h hpos hg (on_comm o3) (fun e => o1 (by rw [e]; exact on_left _ _)) (fun e => o2 (by rw [e]; exact on_right _ _))
  · obtain ⟨i1, i2, i3⟩ := inT_pos hpos hy o1 o2 o3
    rw [ear_in h hR hpos hno hg hy i3]
    exact tri_in i1 i2 i3
theorem ear_good (h : Simple (p :: u :: s :: R)) (hR : R ≠ []) (hpos : 0 < cr p u s) (hno : ∀ x ∈ R, ¬ InT p u s x) (hg : Good (p :: s :: R)) : Good (p :: u :: s :: R) := by
  refine ⟨fun q hq => ?_, fun e hE m h1 h2 h3 => ?_, ?_⟩
  · by_cases hT : InT p u s q
    · exact .inr (ear_one h hR hpos hno hg hT hq)
    · rw [w_cut, tri_out hpos hT, Int.add_zero]
      refine hg.win q fun e hE ho => ?_
      rw [edges2] at hE
      rcases List.mem_cons.1 hE with rfl | hE
      · exact hT (inT_ps hpos ho)
      · exact hq e (chain_edge hE) ho
  · rw [edges3] at hE
    rcases List.mem_cons.1 hE with rfl | hE
    · have t := inT_conv (a := p) (b := u) (c := s) (x := p) (y := u) ⟨by rw [cr_self]; grind, by rw [cr_rot]; grind, by rw [cr_self']; grind⟩ ⟨by rw [cr_self']; grind, by rw [cr_self]; grind, by rw [cr_rot2]; grind⟩ h1
      have c : 0 < cr s p m := by
        by_cases z : cr s p m = 0
        · exfalso
          have o := tri_side (a := s) (b := p) (c := u) (by rw [cr_rot2]; exact hpos) z t.1 t.2.1
          apply h2
          refine adj_only (a := u) (b := p) (c := s) (fun o' => ?_) (fun o' => ?_) (on_comm h1) (on_comm o)
          · rcases h.vertex (x := s) (by simp) (e := (p, u)) (by simp [edges3]) (on_comm o') with e | e
            · exact h.dist.ps e.symm
            · exact h.dist.us e.symm
          · have := cr_on o'
            have := cr_rot2 p u s
            have := cr_swap p s u
            grind
        · have := t.2.2; grind
      rw [ear_in h hR hpos hno hg t c]
      exact tri_rim hpos h1 h2 h3
    · rcases List.mem_cons.1 hE with rfl | hE
      · have t := inT_conv (a := p) (b := u) (c := s) (x := u) (y := s) ⟨by rw [cr_self']; grind, by rw [cr_self]; grind, by rw [cr_rot2]; grind⟩ ⟨by grind, by rw [cr_self']; grind, by rw [cr_self]; grind⟩ h1
        have c : 0 < cr s p m := by
          by_cases z : cr s p m = 0
          · exfalso
            have o := tri_side (a := s) (b := p) (c := u) (by rw [cr_rot2]; exact hpos) z t.1 t.2.1
            apply h3
            refine adj_only (a := u) (b := s) (c := p) (fun o' => ?_) (fun o' => ?_) h1 o
            · rcases h.vertex (x := p) (by simp) (e := (u, s)) (by simp [edges3]) o' with e | e
              · exact h.dist.pu e
              · exact h.dist.ps e
            · have := cr_on o'
              have := cr_rot2 p u s
              grind
          · have := t.2.2; grind
        rw [ear_in h hR hpos hno hg t c, ← w_rot3]
        exact tri_rim (by rw [cr_rot]; exact hpos) h1 h2 h3
      · have nT : ¬ InT p u s m := fun t => by
          rcases cut_free h hR hpos hno hE h1 t with rfl | rfl
          · exact h3 (h.p_end hE h1).symm
          · exact h2 (h.s_end hE h1).symm
        rw [w_cut, tri_out hpos nT, Int.add_zero]
        exact hg.rim e (by rw [edges2]; exact List.mem_cons_of_mem _ hE) m h1 h2 h3
  · rw [ar_cut]; have := hg.area; grind
theorem D_part {a b c d : Pt} {t : Rat} (ht : 0 < t) (hx : d.x - c.x = t * (b.x - a.x)) (hy : d.y - c.y = t * (b.y - a.y)) : D c d = D a b := by
  have y1 := mul_pos_iff' (a := t) (b := b.y - a.y)
  have y2 := mul_neg_iff (a := t) (b := b.y - a.y)
  have x1 := mul_pos_iff' (a := t) (b := b.x - a.x)
  have k1 : d.y < c.y ↔ b.y < a.y := by grind
  have k2 : d.y = c.y ↔ b.y = a.y := by grind
  have k3 : c.x < d.x ↔ a.x < b.x := by grind
  unfold D
  simp only [k1, k2, k3]
theorem flat_good (h : Simple (p :: u :: s :: R)) (h0 : cr p u s = 0) (hg : Good (p :: s :: R)) : Good (p :: u :: s :: R) := by
  have hu := flat_on h h0
  obtain ⟨t, t0, t1, et⟩ := open_at hu h.dist.pu.symm h.dist.us
  refine ⟨fun q hq => ?_, fun e hE m h1 h2 h3 => ?_, ?_⟩
  · rw [w_flat hu]
    refine hg.win q fun e hE ho => ?_
    rw [edges2] at hE
    rcases List.mem_cons.1 hE with rfl | hE
    · rcases on_split hu ho with o | o
      · exact hq (p, u) (by simp [edges3]) o
      · exact hq (u, s) (by simp [edges3]) o
    · exact hq e (chain_edge hE) ho
  · rw [w_flat hu]
    rw [edges3] at hE
    rcases List.mem_cons.1 hE with rfl | hE
    · have o := on_sub (on_left p s) hu h1
      have e := hg.rim (p, s) (by simp [edges2]) m o h2 (fun e => by
        subst e
        rcases h.vertex (x := m) (by simp) (e := (p, u)) (by simp [edges3]) h1 with e | e
        · exact h.dist.ps e.symm
        · exact h.dist.us e.symm)
      rw [e]
      simp only
      exact (D_part t0 (by rw [et]; simp only [lerp]; grind) (by rw [et]; simp only [lerp]; grind)).symm
    · rcases List.mem_cons.1 hE with rfl | hE
      · have o := on_sub hu (on_right p s) h1
        have e := hg.rim (p, s) (by simp [edges2]) m o (fun e => by
          subst e
          rcases h.vertex (x := m) (by simp) (e := (u, s)) (by simp [edges3]) h1 with e | e
          · exact h.dist.pu e
          · exact h.dist.ps e) h3
        rw [e]
        simp only
        exact (D_part (t := 1 - t) (by grind) (by rw [et]; simp only [lerp]; grind) (by rw [et]; simp only [lerp]; grind)).symm
      · exact hg.rim e (by rw [edges2]; exact List.mem_cons_of_mem _ hE) m h1 h2 h3
  · rw [ar_cut, h0]; have := hg.area; grind
end ear
end Geo

/- The turn at the top vertex; what a cut keeps of it. -/
namespace Geo

/-- the same closed list, begun elsewhere -/
def Rot (l m : List Pt) : Prop := l.Perm m ∧ (edges l).Perm (edges m)
theorem Rot.refl (l : List Pt) : Rot l l := ⟨.refl _, .refl _⟩
theorem Rot.symm {l m : List Pt} (h : Rot l m) : Rot m l := ⟨h.1.symm, h.2.symm⟩
theorem Rot.trans {l m n : List Pt} (h : Rot l m) (k : Rot m n) : Rot l n := ⟨h.1.trans k.1, h.2.trans k.2⟩
theorem Rot.simple {l m : List Pt} (h : Rot l m) (hs : Simple l) : Simple m := hs.perm h.1 h.2
theorem Rot.good {l m : List Pt} (h : Rot l m) (hs : Good l) : Good m := hs.perm h.2
theorem rot_app (l m : List Pt) : Rot (l ++ m) (m ++ l) := ⟨List.perm_append_comm, edges_rot l m⟩

theorem rot3 {l : List Pt} (h : Simple l) {p u s : Pt} (h1 : (p, u) ∈ edges l) (h2 : (u, s) ∈ edges l) : ∃ R, Rot l (p :: u :: s :: R) := by
  obtain ⟨l1, l2, rfl⟩ := List.append_of_mem (edges_fst_mem h2)
  have r1 := rot_app l1 (u :: l2)
  rw [List.cons_append] at r1
  have hl := h.three
  generalize hM : l2 ++ l1 = M at r1
  have hlen : M.length + 1 = (l1 ++ u :: l2).length := by rw [← hM]; simp; omega
  match M, r1, hlen with
  | [], _, hlen => simp at hlen hl; omega
  | [x], _, hlen => simp at hlen hl; omega
  | s' :: y :: M', r1, _ =>
    have e1 : s' = s := h.from_eq (r1.2.mem_iff.2 (by rw [show edges (u :: s' :: y :: M') = (u, s') :: chain (s' :: (y :: M') ++ [u]) from rfl]; simp)) h2
    subst e1
    obtain ⟨N, p', hN⟩ : ∃ N p', y :: M' = N ++ [p'] := by
      rcases List.eq_nil_or_concat (y :: M') with h | ⟨N, p', h⟩
      · simp at h
      · exact ⟨N, p', by simpa using h⟩
    rw [hN] at r1
    have r2 := r1.trans (rot_app (u :: s' :: N) [p'])
    have e2 : p' = p := h.to_eq (r2.2.mem_iff.2 (by simp [edges3])) h1
    subst e2
    exact ⟨N, r2⟩

/-- the highest vertex, of these the rightmost one -/
def Low (x v : Pt) : Prop := x.y < v.y ∨ (x.y = v.y ∧ x.x ≤ v.x)
def Top (l : List Pt) (v : Pt) : Prop := v ∈ l ∧ ∀ x ∈ l, Low x v
theorem top_exists {l : List Pt} (h : l ≠ []) : ∃ v, Top l v := by
  induction l with
  | nil => exact absurd rfl h
  | cons a l ih =>
    by_cases hl : l = []
    · subst hl; exact ⟨a, by simp, fun x hx => by simp at hx; subst hx; unfold Low; grind⟩
    · obtain ⟨v, hv, ht⟩ := ih hl
      by_cases hc : Low a v
      · exact ⟨v, List.mem_cons_of_mem _ hv, fun x hx => by rcases List.mem_cons.1 hx with rfl | hx; exact hc; exact ht x hx⟩
      · refine ⟨a, List.mem_cons_self .., fun x hx => ?_⟩
        rcases List.mem_cons.1 hx with rfl | hx
        · unfold Low; grind
        · have := ht x hx; unfold Low at *; grind
theorem top_unique {l : List Pt} {v v' : Pt} (h : Top l v) (h' : Top l v') : v = v' := by
  have h1 := h.2 _ h'.1
  have h2 := h'.2 _ h.1
  unfold Low at *
  exact Pt.ext' (by grind) (by grind)
theorem Top.perm {l m : List Pt} (h : l.Perm m) {v : Pt} (ht : Top l v) : Top m v := ⟨h.mem_iff.1 ht.1, fun x hx => ht.2 x (h.mem_iff.2 hx)⟩

theorem off_top {a c v : Pt} (ha : Low a v) (hc : Low c v) (na : a ≠ v) (nc : c ≠ v) : ¬ On a c v := by
  intro h
  have na' : ¬ (a.x = v.x ∧ a.y = v.y) := fun ⟨h1, h2⟩ => na (Pt.ext' h1 h2)
  have nc' : ¬ (c.x = v.x ∧ c.y = v.y) := fun ⟨h1, h2⟩ => nc (Pt.ext' h1 h2)
  obtain ⟨t, t0, t1, e⟩ := open_at h na.symm nc.symm
  unfold Low at ha hc
  have ex := congrArg Pt.x e; have ey := congrArg Pt.y e
  simp only [lerp] at ex ey
  have y1 := Rat.mul_nonneg (a := 1 - t) (b := v.y - a.y) (by grind) (by grind)
  have y2 := Rat.mul_nonneg (a := t) (b := v.y - c.y) (by grind) (by grind)
  have z1 : (1 - t) * (v.y - a.y) = 0 := by grind
  have z2 : t * (v.y - c.y) = 0 := by grind
  have ya := (Rat.mul_eq_zero.1 z1).resolve_left (by grind)
  have yc := (Rat.mul_eq_zero.1 z2).resolve_left (by grind)
  have x1 := Rat.mul_pos (a := 1 - t) (b := v.x - a.x) (by grind) (by grind)
  have x2 := Rat.mul_pos (a := t) (b := v.x - c.x) (by grind) (by grind)
  grind
/-- the top vertex lies in no triangle of other vertices -/
theorem top_out {p u s v : Pt} (hpos : 0 < cr p u s) (hp : Low p v) (hu : Low u v) (hs : Low s v) (np : p ≠ v) (nu : u ≠ v) (ns : s ≠ v) : ¬ InT p u s v := by
  rintro ⟨i1, i2, i3⟩
  have np' : ¬ (p.x = v.x ∧ p.y = v.y) := fun ⟨h1, h2⟩ => np (Pt.ext' h1 h2)
  have nu' : ¬ (u.x = v.x ∧ u.y = v.y) := fun ⟨h1, h2⟩ => nu (Pt.ext' h1 h2)
  have ns' : ¬ (s.x = v.x ∧ s.y = v.y) := fun ⟨h1, h2⟩ => ns (Pt.ext' h1 h2)
  have hsum := cr_sum p u s v
  have by1 := tri_bary p u s v
  have bx1 := tri_baryx p u s v
  unfold Low at hp hu hs
  generalize cr p u v = A at *
  generalize cr u s v = B at *
  generalize cr s p v = C at *
  have g1 := Rat.mul_nonneg (a := B) (b := v.y - p.y) i2 (by grind)
  have g2 := Rat.mul_nonneg (a := C) (b := v.y - u.y) i3 (by grind)
  have g3 := Rat.mul_nonneg (a := A) (b := v.y - s.y) i1 (by grind)
  have z1 : B * (v.y - p.y) = 0 := by grind
  have z2 : C * (v.y - u.y) = 0 := by grind
  have z3 : A * (v.y - s.y) = 0 := by grind
  have k1 : 0 ≤ B * (v.x - p.x) ∧ (B ≠ 0 → 0 < B * (v.x - p.x)) := by
    rcases Rat.mul_eq_zero.1 z1 with h | h
    · subst h; exact ⟨by grind, fun h => absurd rfl h⟩
    · exact ⟨Rat.mul_nonneg i2 (by grind), fun h' => Rat.mul_pos (by grind) (by grind)⟩
  have k2 : 0 ≤ C * (v.x - u.x) ∧ (C ≠ 0 → 0 < C * (v.x - u.x)) := by
    rcases Rat.mul_eq_zero.1 z2 with h | h
    · subst h; exact ⟨by grind, fun h => absurd rfl h⟩
    · exact ⟨Rat.mul_nonneg i3 (by grind), fun h' => Rat.mul_pos (by grind) (by grind)⟩
  have k3 : 0 ≤ A * (v.x - s.x) ∧ (A ≠ 0 → 0 < A * (v.x - s.x)) := by
    rcases Rat.mul_eq_zero.1 z3 with h | h
    · subst h; exact ⟨by grind, fun h => absurd rfl h⟩
    · exact ⟨Rat.mul_nonneg i1 (by grind), fun h' => Rat.mul_pos (by grind) (by grind)⟩
  by_cases hB : B = 0
  · by_cases hC : C = 0
    · have := k3.2 (by grind); grind
    · have := k2.2 hC; grind
  · have := k1.2 hB; grind

theorem low_of {l : List Pt} {v x : Pt} (h : Top l v) (hx : x ∈ l) : Low x v := h.2 x hx

theorem top_bend {l : List Pt} (h : Simple l) {a v c : Pt} (h1 : (a, v) ∈ edges l) (h2 : (v, c) ∈ edges l) (ht : Top l v) : cr a v c ≠ 0 := by
  intro h0
  obtain ⟨R, r⟩ := rot3 h h1 h2
  have hs := r.simple h
  have hd := hs.dist
  exact off_top (ht.2 _ (edges_fst_mem h1)) (ht.2 _ (edges_snd_mem h2)) hd.pu hd.us.symm (flat_on hs h0)

/-- a turn to the left at the top vertex -/
def LT (l : List Pt) : Prop := ∀ a v c, (a, v) ∈ edges l → (v, c) ∈ edges l → Top l v → 0 < cr a v c
theorem LT.rot {l m : List Pt} (h : LT l) (r : Rot l m) : LT m := fun a v c h1 h2 ht => h a v c (r.2.mem_iff.2 h1) (r.2.mem_iff.2 h2) (ht.perm r.1.symm)
theorem mem_edges_rev {l : List Pt} {a b : Pt} : (a, b) ∈ edges l.reverse ↔ (b, a) ∈ edges l := by
  rw [(edges_reverse l).mem_iff, List.mem_map]
  constructor
  · rintro ⟨x, hx, he⟩
    have : x = (b, a) := by rw [← Prod.swap_swap x, he]; rfl
    rw [← this]; exact hx
  · intro hx; exact ⟨(b, a), hx, rfl⟩
theorem LT_rev {l : List Pt} (h : Simple l) (hn : ¬ LT l) : LT l.reverse := by
  intro a v c h1 h2 ht
  rw [mem_edges_rev] at h1 h2
  have ht' : Top l v := ht.perm (List.reverse_perm l)
  have hb := top_bend h h2 h1 ht'
  by_cases hc : 0 < cr a v c; · exact hc
  exfalso
  apply hn
  intro a' v' c' h1' h2' ht''
  have := top_unique ht' ht''
  subst this
  have e1 := h.to_eq h1' h2
  have e2 := h.from_eq h2' h1
  subst e1 e2
  unfold cr at *
  grind
theorem w_rev (l : List Pt) (q : Pt) : w l.reverse q = - w l q := by
  unfold w
  rw [esum_perm _ (edges_reverse l), esum_map, ← esum_neg]
  exact esum_congr fun e _ => by simp only [Prod.fst_swap, Prod.snd_swap]; exact chi_anti _ _ _
theorem rsum_swap (l : List (Pt × Pt)) : rsum (fun e => e.1.x * e.2.y - e.1.y * e.2.x) (l.map Prod.swap) = - rsum (fun e => e.1.x * e.2.y - e.1.y * e.2.x) l := by
  induction l with
  | nil => simp [rsum]
  | cons e l ih => simp only [List.map_cons, rsum, ih, Prod.fst_swap, Prod.snd_swap]; grind
theorem ar_rev (l : List Pt) : ar l.reverse = - ar l := by
  unfold ar; rw [rsum_perm _ (edges_reverse l), rsum_swap]

section cut
variable {p u s : Pt} {R : List Pt}
theorem cw_top {l : List Pt} {v : Pt} (h : ∀ x ∈ l, x.y ≤ v.y) : cw l v = 0 := by
  refine esum_none fun e he => ?_
  have hm : e.1 ∈ l ∧ e.2 ∈ l := by
    obtain ⟨i, hi, rfl⟩ := List.getElem_of_mem he
    rw [chain_getElem]
    exact ⟨List.getElem_mem _, List.getElem_mem _⟩
  exact chi_above (h _ hm.1) (h _ hm.2)
theorem low_y {x v : Pt} (h : Low x v) : x.y ≤ v.y := by unfold Low at h; grind

/-- what may be cut off -/
def Cuttable (p u s : Pt) (R : List Pt) : Prop := cr p u s = 0 ∨ (0 < cr p u s ∧ ∀ x ∈ R, ¬ InT p u s x)
theorem cut_rest (h : Simple (p :: u :: s :: R)) (hR : R ≠ []) (hc : Cuttable p u s R) : Simple (p :: s :: R) := by
  rcases hc with h0 | ⟨hpos, hno⟩
  · exact flat_simple h hR h0
  · exact ear_simple h hR hpos hno
theorem cut_good (h : Simple (p :: u :: s :: R)) (hR : R ≠ []) (hc : Cuttable p u s R) (hg : Good (p :: s :: R)) : Good (p :: u :: s :: R) := by
  rcases hc with h0 | ⟨hpos, hno⟩
  · exact flat_good h h0 hg
  · exact ear_good h hR hpos hno hg

theorem cut_LT (h : Simple (p :: u :: s :: R)) (hR : R ≠ []) (hc : Cuttable p u s R) (hL : LT (p :: u :: s :: R)) (ih : ∀ l : List Pt, l.length = R.length + 2 → Simple l → LT l → Good l) : LT (p :: s :: R) := by
  have hs := cut_rest h hR hc
  have hd := h.dist
  by_cases hu : Top (p :: u :: s :: R) u
  · by_cases hn : LT (p :: s :: R); · exact hn
    exfalso
    rcases hc with h0 | ⟨hpos, hno⟩
    · exact top_bend h (by simp [edges3]) (by simp [edges3]) hu h0
    have hg := ih (p :: s :: R).reverse (by simp) hs.reverse (LT_rev hs hn)
    obtain ⟨m, hm, mp, ms⟩ := mid_open hd.ps
    have r := hg.rim (s, p) (mem_edges_rev.2 (by simp [edges2])) m (on_comm hm) ms mp
    rw [w_rev] at r
    have e := ear_rest h hR hpos hno (y := u) ⟨by rw [cr_self']; grind, by rw [cr_self]; grind, by rw [cr_rot2]; grind⟩ (by rw [cr_rot2]; exact hpos) hm mp ms
    have z1 : cw (s :: R ++ [p]) u = 0 := cw_top fun x hx => low_y (hu.2 x (by
      simp only [List.cons_append, List.mem_cons, List.mem_append, List.not_mem_nil, or_false] at hx ⊢
      grind))
    have z2 : chi p s u = 0 := chi_above (low_y (hu.2 p (by simp))) (low_y (hu.2 s (by simp)))
    have d := D_swap hd.ps
    simp only at r
    omega
  · intro a v c h1 h2 ht
    obtain ⟨v0, hv0⟩ := top_exists (l := p :: u :: s :: R) (by simp)
    have hv : v0 = v := by
      have n : v0 ≠ u := fun e => hu (e ▸ hv0)
      refine top_unique (l := p :: s :: R) ⟨?_, fun x hx => hv0.2 x ?_⟩ ht
      · have := hv0.1
        simp only [List.mem_cons] at this ⊢
        grind
      · simp only [List.mem_cons] at hx ⊢
        grind
    subst hv
    have hb := top_bend hs h1 h2 ht
    rw [edges2] at h1 h2
    rcases List.mem_cons.1 h1 with e1 | h1
    · injection e1 with e1 e1'
      subst e1 e1'
      rcases List.mem_cons.1 h2 with e2 | h2
      · injection e2 with e2 _; exact absurd e2.symm hd.ps
      have l := hL u v0 c (by simp [edges3]) (chain_edge h2) hv0
      rcases hc with h0 | ⟨hpos, hno⟩
      · obtain ⟨t, t0, t1, et⟩ := open_at (flat_on h h0) hd.pu.symm hd.us
        have e : cr u v0 c = (1 - t) * cr a v0 c := by rw [et]; unfold cr lerp; grind
        rw [e, mul_pos_iff'] at l
        grind
      · by_cases hp : 0 < cr a v0 c; · exact hp
        exfalso
        have hcR : c ∈ R := by
          rcases List.mem_append.1 (chain_mem h2).2 with x | x
          · exact x
          · simp at x; subst x; exact (h.no_sp hR h2).elim
        have n1 : ¬ InT a u v0 c := hno c hcR
        have n2 : cr a u c < 0 := by
          have := cr_swap a v0 c
          unfold InT at n1; grind
        obtain ⟨k, o, z⟩ := cross_zero (s := a) (t := u) (a := v0) (b := c) (by grind) (by grind)
        have ok := tri_side hpos z (on_cr_ge o (by rw [cr_self']; grind) (by grind)) (on_cr_ge o (by rw [cr_self]; grind) (by have := cr_swap a v0 c; grind))
        have := h.on_pu h2 o ok
        subst this
        have := h.p_end h2 o
        simp only at this
        subst this
        exact hd.pR hcR
    · rcases List.mem_cons.1 h2 with e2 | h2
      · injection e2 with e2 e2'
        subst e2 e2'
        have l := hL a v0 u (chain_edge h1) (by simp [edges3]) hv0
        rcases hc with h0 | ⟨hpos, hno⟩
        · obtain ⟨t, t0, t1, et⟩ := open_at (flat_on h h0) hd.pu.symm hd.us
          have e : cr a v0 u = t * cr a v0 c := by rw [et]; unfold cr lerp; grind
          rw [e, mul_pos_iff'] at l
          grind
        · by_cases hp : 0 < cr a v0 c; · exact hp
          exfalso
          have haR : a ∈ R := by
            rcases List.mem_cons.1 (chain_mem h1).1 with x | x
            · simp only at x; subst x; exact (h.no_sp hR h1).elim
            · exact x
          have n1 : ¬ InT v0 u c a := hno a haR
          have r1 := cr_rot a v0 u
          have r2 := cr_rot2 a v0 c
          have r3 := cr_swap v0 c a
          have r4 := cr_rot a v0 c
          have n2 : cr u c a < 0 := by unfold InT at n1; grind
          obtain ⟨k, o, z⟩ := cross_zero (s := u) (t := c) (a := v0) (b := a) (by rw [cr_rot]; grind) (by grind)
          have ok := tri_side (a := u) (b := c) (c := v0) (by rw [cr_rot]; exact hpos) z (on_cr_ge o (by rw [cr_self']; grind) (by grind)) (on_cr_ge o (by rw [cr_self]; grind) (by grind))
          have := h.on_us h1 (on_comm o) ok
          subst this
          have := h.s_end h1 (on_comm o)
          simp only at this
          subst this
          exact hd.sR haR
      · exact hL a v0 c (chain_edge h1) (chain_edge h2) hv0
end cut
end Geo

/- A simple polygon with a left turn at its top vertex is good, and has vertices that may be cut off, away from any given side. -/
namespace Geo

def CutAt (l : List Pt) (u : Pt) : Prop := ∃ p s, (p, u) ∈ edges l ∧ (u, s) ∈ edges l ∧ (cr p u s = 0 ∨ (0 < cr p u s ∧ ∀ x ∈ l, x ≠ p → x ≠ u → x ≠ s → ¬ InT p u s x))
theorem CutAt.rot {l m : List Pt} (r : Rot l m) {u : Pt} (h : CutAt l u) : CutAt m u := by
  obtain ⟨p, s, h1, h2, h3⟩ := h
  refine ⟨p, s, r.2.mem_iff.1 h1, r.2.mem_iff.1 h2, h3.imp id fun ⟨a, b⟩ => ⟨a, fun x hx => b x (r.1.mem_iff.2 hx)⟩⟩
/-- in the form with the vertex in the second place -/
theorem CutAt.form {l : List Pt} (hs : Simple l) {u : Pt} (h : CutAt l u) : ∃ p s R, Rot l (p :: u :: s :: R) ∧ Cuttable p u s R := by
  obtain ⟨p, s, h1, h2, h3⟩ := h
  obtain ⟨R, r⟩ := rot3 hs h1 h2
  have hd := (r.simple hs).dist
  refine ⟨p, s, R, r, h3.imp id fun ⟨a, b⟩ => ⟨a, fun x hx => b x (r.1.mem_iff.2 (by simp [hx])) (fun e => hd.pR (e ▸ hx)) (fun e => hd.uR (e ▸ hx)) (fun e => hd.sR (e ▸ hx))⟩⟩
def Ears (l : List Pt) : Prop := ∀ e ∈ edges l, ∃ u, u ≠ e.1 ∧ u ≠ e.2 ∧ CutAt l u
theorem Ears.rot {l m : List Pt} (r : Rot l m) (h : Ears l) : Ears m := fun e he => by
  obtain ⟨u, h1, h2, h3⟩ := h e (r.2.mem_iff.2 he)
  exact ⟨u, h1, h2, h3.rot r⟩

/-- an inner point of an ear, off the sides -/
theorem cut_one {l : List Pt} (hs : Simple l) (hL : LT l) (ih : ∀ m : List Pt, m.length < l.length → Simple m → LT m → Good m) {p u s : Pt} (h1 : (p, u) ∈ edges l) (h2 : (u, s) ∈ edges l) (hpos : 0 < cr p u s)
    (hno : ∀ x ∈ l, x ≠ p → x ≠ u → x ≠ s → ¬ InT p u s x) {y : Pt} (hy : InT p u s y) (hoff : ∀ e ∈ edges l, ¬ On e.1 e.2 y) : w l y = 1 := by
  obtain ⟨R, r⟩ := rot3 hs h1 h2
  have hs' := r.simple hs
  have hd := hs'.dist
  have hoff' : ∀ e ∈ edges (p :: u :: s :: R), ¬ On e.1 e.2 y := fun e he => hoff e (r.2.mem_iff.2 he)
  have hno' : ∀ x ∈ R, ¬ InT p u s x := fun x hx => hno x (r.1.mem_iff.2 (by simp [hx])) (fun e => hd.pR (e ▸ hx)) (fun e => hd.uR (e ▸ hx)) (fun e => hd.sR (e ▸ hx))
  rw [w_perm r.2]
  by_cases hR : R = []
  · subst hR
    obtain ⟨i1, i2, i3⟩ := inT_pos hpos hy (hoff' (p, u) (by simp [edges3])) (hoff' (u, s) (by simp [edges3])) (hoff' (s, p) (by simp [edges3, chain]))
    exact tri_in i1 i2 i3
  · have hc : Cuttable p u s R := .inr ⟨hpos, hno'⟩
    have hlen := r.1.length_eq
    have ih' : ∀ m : List Pt, m.length = R.length + 2 → Simple m → LT m → Good m := fun m hm => ih m (by simp at hlen; omega)
    exact ear_one hs' hR hpos hno' (ih' _ (by simp) (cut_rest hs' hR hc) (cut_LT hs' hR hc (hL.rot r) ih')) hy hoff'

theorem arg_max {l : List Pt} {P : Pt → Prop} {f : Pt → Rat} (h : ∃ x ∈ l, P x) : ∃ z ∈ l, P z ∧ ∀ x ∈ l, P x → f x ≤ f z := by
  induction l with
  | nil => obtain ⟨x, hx, _⟩ := h; simp at hx
  | cons a l ih =>
    by_cases hl : ∃ x ∈ l, P x
    · obtain ⟨z, hz, pz, mz⟩ := ih hl
      by_cases ha : P a ∧ f z < f a
      · refine ⟨a, List.mem_cons_self .., ha.1, fun x hx px => ?_⟩
        rcases List.mem_cons.1 hx with rfl | hx
        · grind
        · have := mz x hx px; grind
      · refine ⟨z, List.mem_cons_of_mem _ hz, pz, fun x hx px => ?_⟩
        rcases List.mem_cons.1 hx with rfl | hx
        · grind
        · exact mz x hx px
    · obtain ⟨x, hx, px⟩ := h
      rcases List.mem_cons.1 hx with rfl | hx
      · refine ⟨x, List.mem_cons_self .., px, fun y hy py => ?_⟩
        rcases List.mem_cons.1 hy with rfl | hy
        · grind
        · exact absurd ⟨y, hy, py⟩ hl
      · exact absurd ⟨x, hx, px⟩ hl

theorem chain_const {f : Pt → Int} {l : List Pt} (h : ∀ e ∈ chain l, f e.1 = f e.2) : ∀ x ∈ l, ∀ y ∈ l, f x = f y := by
  induction l with
  | nil => intro x hx; simp at hx
  | cons a l ih =>
    cases l with
    | nil => intro x hx y hy; simp at hx hy; rw [hx, hy]
    | cons b l =>
      have h1 : f a = f b := h (a, b) (by simp [chain])
      have h2 := ih (fun e he => h e (by simp only [chain]; exact List.mem_cons_of_mem _ he))
      have h3 : ∀ x ∈ a :: b :: l, f x = f b := fun x hx => by
        rcases List.mem_cons.1 hx with rfl | hx
        · exact h1
        · exact h2 x hx b (List.mem_cons_self ..)
      intro x hx y hy
      rw [h3 x hx, h3 y hy]

section diag
variable {a v c z : Pt} {R1 R2 : List Pt}
theorem C_split (a c z : Pt) (R1 R2 : List Pt) : chain (c :: (R1 ++ z :: R2) ++ [a]) = chain (c :: R1 ++ [z]) ++ chain (z :: R2 ++ [a]) := by
  have := chain_append (c :: R1) z (R2 ++ [a])
  simpa using this
theorem E1 (v c z : Pt) (R1 : List Pt) : edges (v :: c :: R1 ++ [z]) = (v, c) :: (chain (c :: R1 ++ [z]) ++ [(z, v)]) := by
  have := chain_append (v :: c :: R1) z [v]
  show chain (v :: c :: R1 ++ [z] ++ [v]) = _
  rw [List.append_assoc]
  simpa [chain] using this
/-- the nearest vertex in the triangle at the top -/
structure Near (a v c z : Pt) (R : List Pt) : Prop where
  pos : 0 < cr a v c
  mem : z ∈ R
  inT : InT a v c z
  far : ∀ x ∈ R, InT a v c x → cr c a x ≤ cr c a z
variable {R : List Pt}
theorem Near.left (n : Near a v c z R) (h : Simple (a :: v :: c :: R)) : 0 < cr a v z := by
  have i := n.inT
  have hd := h.dist
  by_cases e : cr a v z = 0
  · exfalso
    rcases h.vertex (x := z) (by simp [n.mem]) (e := (a, v)) (by simp [edges3]) (tri_side n.pos e i.2.1 i.2.2) with e | e
    · simp only at e; exact hd.pR (e ▸ n.mem)
    · simp only at e; exact hd.uR (e ▸ n.mem)
  · have := i.1; grind
theorem Near.right (n : Near a v c z R) (h : Simple (a :: v :: c :: R)) : 0 < cr v c z := by
  have i := n.inT
  have hd := h.dist
  by_cases e : cr v c z = 0
  · exfalso
    rcases h.vertex (x := z) (by simp [n.mem]) (e := (v, c)) (by simp [edges3]) (tri_side (by rw [cr_rot]; exact n.pos) e i.2.2 i.1) with e | e
    · simp only at e; exact hd.uR (e ▸ n.mem)
    · simp only at e; exact hd.sR (e ▸ n.mem)
  · have := i.2.1; grind

/-- the diagonal meets the sides in its ends alone -/
theorem Near.free (n : Near a v c z R) (h : Simple (a :: v :: c :: R)) {f : Pt × Pt} (hf : f ∈ edges (a :: v :: c :: R)) {k : Pt} (hk : On f.1 f.2 k) (hd : On v z k) : k = v ∨ k = z := by
  by_cases kv : k = v; · exact .inl kv
  by_cases kz : k = z; · exact .inr kz
  exfalso
  have l := n.left h
  have r := n.right h
  have hpos := n.pos
  obtain ⟨t, t0, t1, et⟩ := open_at hd kv kz
  have k1 : 0 < cr a v k := by rw [et, cr_lerp, cr_self']; have := Rat.mul_pos t0 l; grind
  have k2 : 0 < cr v c k := by rw [et, cr_lerp, cr_self]; have := Rat.mul_pos t0 r; grind
  have hz := cr_sum a v c z
  have k3 : cr c a z < cr c a k := by
    have r2 := cr_rot2 a v c
    rw [et, cr_lerp, r2]
    have := Rat.mul_pos (a := 1 - t) (b := cr a v c - cr c a z) (by grind) (by grind)
    grind
  rw [edges3] at hf
  rcases List.mem_cons.1 hf with rfl | hf
  · have := cr_on hk; grind
  rcases List.mem_cons.1 hf with rfl | hf
  · have := cr_on hk; grind
  obtain ⟨m1, m2⟩ := chain_mem hf
  have key : ∀ x, x ∈ c :: R ++ [a] → (∀ k', On k x k' → On f.1 f.2 k') → cr c a k ≤ cr c a x → False := by
    intro x hx seg hle
    have i := n.inT
    have i3 := i.2.2
    have hxR : x ∈ R := by
      rcases List.mem_append.1 hx with hx | hx
      · rcases List.mem_cons.1 hx with rfl | hx
        · rw [cr_self] at hle; grind
        · exact hx
      · simp at hx; subst hx; rw [cr_self'] at hle; grind
    have nT : ¬ InT a v c x := fun hT => by have := n.far x hxR hT; grind
    have e1 : cr a v x < 0 ∨ cr v c x < 0 := by unfold InT at nT; grind
    obtain ⟨k', o, hk'⟩ := exit2 k1 k2 e1
    have p3 := on_cr_pos (s := c) (t := a) o (by grind) (by grind)
    rcases hk' with ⟨e, g⟩ | ⟨e, g⟩
    · have := h.on_pu hf (seg k' o) (tri_side hpos e g (by grind))
      subst this; rw [cr_self'] at p3; grind
    · have := h.on_us hf (seg k' o) (tri_side (by rw [cr_rot]; exact hpos) e (by grind) g)
      subst this; rw [cr_self] at p3; grind
  by_cases c1 : cr c a k ≤ cr c a f.1
  · exact key f.1 (List.mem_append_left _ m1) (fun k' o => on_sub hk (on_left _ _) o) c1
  by_cases c2 : cr c a k ≤ cr c a f.2
  · exact key f.2 (List.mem_cons_of_mem _ m2) (fun k' o => on_sub hk (on_right _ _) o) c2
  obtain ⟨q, q0, q1, eq⟩ := hk
  have e := cr_lerp c a f.1 f.2 q
  rw [← eq] at e
  have g1 := Rat.mul_nonneg (a := 1 - q) (b := cr c a k - cr c a f.1) (by grind) (by grind)
  have g2 := Rat.mul_nonneg (a := q) (b := cr c a k - cr c a f.2) (by grind) (by grind)
  by_cases hq : q = 0
  · subst hq; grind
  · have g3 := Rat.mul_pos (a := q) (b := cr c a k - cr c a f.2) (by grind) (by grind)
    grind

/-- the places of the vertices -/
structure Parts (a v c z : Pt) (R1 R2 : List Pt) : Prop where
  a1 : a ∉ R1
  a2 : a ∉ R2
  v1 : v ∉ R1
  v2 : v ∉ R2
  c1 : c ∉ R1
  c2 : c ∉ R2
  z1 : z ∉ R1
  z2 : z ∉ R2
  av : a ≠ v
  ac : a ≠ c
  vc : v ≠ c
  za : z ≠ a
  zv : z ≠ v
  zc : z ≠ c
  dis : ∀ x ∈ R1, x ∉ R2
  n1 : R1.Nodup
  n2 : R2.Nodup
theorem Simple.parts (h : Simple (a :: v :: c :: (R1 ++ z :: R2))) : Parts a v c z R1 R2 := by
  have hn := h.nodup
  have hd := h.dist
  have h1 := hd.pR; have h2 := hd.uR; have h3 := hd.sR
  simp only [List.mem_append, List.mem_cons, not_or] at h1 h2 h3
  simp only [List.nodup_cons] at hn
  have hn' := hn.2.2.2
  rw [List.nodup_append] at hn'
  obtain ⟨g1, g2, g3⟩ := hn'
  rw [List.nodup_cons] at g2
  exact ⟨h1.1, h1.2.2, h2.1, h2.2.2, h3.1, h3.2.2, fun hz => g3 z hz z (by simp) rfl, g2.1, hd.pu, hd.ps, hd.us, fun e => h1.2.1 e.symm, fun e => h2.2.1 e.symm, fun e => h3.2.1 e.symm, fun x hx hx2 => g3 x hx x (by simp [hx2]) rfl, g1, g2.2⟩
theorem in_C1 {f : Pt × Pt} (hf : f ∈ chain (c :: R1 ++ [z])) : f ∈ edges (a :: v :: c :: (R1 ++ z :: R2)) := by
  rw [edges3, C_split]; exact List.mem_cons_of_mem _ (List.mem_cons_of_mem _ (List.mem_append_left _ hf))
theorem in_C2 {f : Pt × Pt} (hf : f ∈ chain (z :: R2 ++ [a])) : f ∈ edges (a :: v :: c :: (R1 ++ z :: R2)) := by
  rw [edges3, C_split]; exact List.mem_cons_of_mem _ (List.mem_cons_of_mem _ (List.mem_append_right _ hf))

theorem P1_simple (n : Near a v c z (R1 ++ z :: R2)) (h : Simple (a :: v :: c :: (R1 ++ z :: R2))) : Simple (v :: c :: R1 ++ [z]) := by
  have P := h.parts
  have inP : ∀ f, f ∈ (v, c) :: chain (c :: R1 ++ [z]) → f ∈ edges (a :: v :: c :: (R1 ++ z :: R2)) := fun f hf => by
    rcases List.mem_cons.1 hf with rfl | hf
    · simp [edges3]
    · exact in_C1 hf
  -- a side and the diagonal
  have key : ∀ f, f ∈ (v, c) :: chain (c :: R1 ++ [z]) → ∀ k, On f.1 f.2 k → On v z k → (k = v ∧ k = f.1) ∨ (k = z ∧ k = f.2) := by
    intro f hf k k1 k2
    have hv : f.1 ≠ z := by
      rcases List.mem_cons.1 hf with rfl | hf
      · exact P.zv.symm
      · intro e
        rcases List.mem_cons.1 (chain_mem hf).1 with e' | e'
        · exact P.zc (e.symm.trans e')
        · exact P.z1 (e ▸ e')
    have hz : f.2 ≠ v := by
      rcases List.mem_cons.1 hf with rfl | hf
      · exact P.vc.symm
      · intro e
        rcases List.mem_append.1 (chain_mem hf).2 with e' | e'
        · exact P.v1 (e ▸ e')
        · simp at e'; exact P.zv (e'.symm.trans e)
    rcases n.free h (inP f hf) k1 k2 with rfl | rfl
    · rcases h.vertex (x := k) (by simp) (inP f hf) k1 with e | e
      · exact .inl ⟨rfl, e⟩
      · exact absurd e.symm hz
    · rcases h.vertex (x := k) (by simp) (inP f hf) k1 with e | e
      · exact absurd e.symm hv
      · exact .inr ⟨rfl, e⟩
  refine ⟨by simp, ?_, ?_⟩
  · have e : v :: c :: R1 ++ [z] = v :: c :: (R1 ++ [z]) := rfl
    rw [e]
    simp only [List.nodup_cons, List.mem_cons, List.mem_append, List.not_mem_nil, or_false, not_or, List.nodup_append]
    exact ⟨⟨P.vc, P.v1, P.zv.symm⟩, ⟨P.c1, P.zc.symm⟩, P.n1, ⟨by simp, List.nodup_nil⟩, fun x hx y hy e => P.z1 (by rw [← hy, ← e]; exact hx)⟩
  · intro e he f hf hne k k1 k2
    rw [E1, ← List.cons_append] at he hf
    rcases List.mem_append.1 he with he | he <;> rcases List.mem_append.1 hf with hf | hf
    · exact h.apart e (inP e he) f (inP f hf) hne k k1 k2
    · simp at hf; subst hf
      rcases key e he k k1 (on_comm k2) with ⟨x, y⟩ | ⟨x, y⟩
      · exact .inl ⟨y, x⟩
      · exact .inr ⟨y, x⟩
    · simp at he; subst he
      rcases key f hf k k2 (on_comm k1) with ⟨x, y⟩ | ⟨x, y⟩
      · exact .inr ⟨x, y⟩
      · exact .inl ⟨x, y⟩
    · simp at he hf; subst he hf; exact absurd rfl hne

theorem P2_simple (n : Near a v c z (R1 ++ z :: R2)) (h : Simple (a :: v :: c :: (R1 ++ z :: R2))) : Simple (v :: z :: R2 ++ [a]) := by
  have P := h.parts
  have inP : ∀ f, f ∈ chain (z :: R2 ++ [a]) ++ [(a, v)] → f ∈ edges (a :: v :: c :: (R1 ++ z :: R2)) := fun f hf => by
    rcases List.mem_append.1 hf with hf | hf
    · exact in_C2 hf
    · simp at hf; subst hf; simp [edges3]
  have key : ∀ f, f ∈ chain (z :: R2 ++ [a]) ++ [(a, v)] → ∀ k, On f.1 f.2 k → On v z k → (k = v ∧ k = f.2) ∨ (k = z ∧ k = f.1) := by
    intro f hf k k1 k2
    have hv : f.1 ≠ v := by
      rcases List.mem_append.1 hf with hf | hf
      · intro e
        rcases List.mem_cons.1 (chain_mem hf).1 with e' | e'
        · exact P.zv (e'.symm.trans e)
        · exact P.v2 (e ▸ e')
      · simp at hf; subst hf; exact P.av
    have hz : f.2 ≠ z := by
      rcases List.mem_append.1 hf with hf | hf
      · intro e
        rcases List.mem_append.1 (chain_mem hf).2 with e' | e'
        · exact P.z2 (e ▸ e')
        · simp at e'; exact P.za (e.symm.trans e')
      · simp at hf; subst hf; exact P.zv.symm
    rcases n.free h (inP f hf) k1 k2 with rfl | rfl
    · rcases h.vertex (x := k) (by simp) (inP f hf) k1 with e | e
      · exact absurd e.symm hv
      · exact .inl ⟨rfl, e⟩
    · rcases h.vertex (x := k) (by simp) (inP f hf) k1 with e | e
      · exact .inr ⟨rfl, e⟩
      · exact absurd e.symm hz
  refine ⟨by simp, ?_, ?_⟩
  · have e : v :: z :: R2 ++ [a] = v :: z :: (R2 ++ [a]) := rfl
    rw [e]
    simp only [List.nodup_cons, List.mem_cons, List.mem_append, List.not_mem_nil, or_false, not_or, List.nodup_append]
    exact ⟨⟨P.zv.symm, P.v2, P.av.symm⟩, ⟨P.z2, P.za⟩, P.n2, ⟨by simp, List.nodup_nil⟩, fun x hx y hy e => P.a2 (by rw [← hy, ← e]; exact hx)⟩
  · intro e he f hf hne k k1 k2
    rw [E1] at he hf
    rcases List.mem_cons.1 he with rfl | he <;> rcases List.mem_cons.1 hf with rfl | hf
    · exact absurd rfl hne
    · rcases key f hf k k2 k1 with ⟨x, y⟩ | ⟨x, y⟩
      · exact .inl ⟨x, y⟩
      · exact .inr ⟨x, y⟩
    · rcases key e he k k1 k2 with ⟨x, y⟩ | ⟨x, y⟩
      · exact .inr ⟨y, x⟩
      · exact .inl ⟨y, x⟩
    · exact h.apart e (inP e he) f (inP f hf) hne k k1 k2

theorem P1_LT (n : Near a v c z (R1 ++ z :: R2)) (h : Simple (a :: v :: c :: (R1 ++ z :: R2))) (ht : Top (a :: v :: c :: (R1 ++ z :: R2)) v) : LT (v :: c :: R1 ++ [z]) := by
  have hs := P1_simple n h
  intro a' v' c' h1 h2 ht'
  have e : v = v' := top_unique ⟨by simp, fun x hx => ht.2 x (by simp only [List.cons_append, List.mem_cons, List.mem_append, List.not_mem_nil, or_false] at hx ⊢; grind)⟩ ht'
  subst e
  have e1 := hs.to_eq h1 (show (z, v) ∈ _ by rw [E1]; simp)
  have e2 := hs.from_eq h2 (show (v, c) ∈ _ by rw [E1]; simp)
  subst e1 e2
  have := n.right h
  rw [← cr_rot]; exact this
theorem P2_LT (n : Near a v c z (R1 ++ z :: R2)) (h : Simple (a :: v :: c :: (R1 ++ z :: R2))) (ht : Top (a :: v :: c :: (R1 ++ z :: R2)) v) : LT (v :: z :: R2 ++ [a]) := by
  have hs := P2_simple n h
  intro a' v' c' h1 h2 ht'
  have e : v = v' := top_unique ⟨by simp, fun x hx => ht.2 x (by simp only [List.cons_append, List.mem_cons, List.mem_append, List.not_mem_nil, or_false] at hx ⊢; grind)⟩ ht'
  subst e
  have e1 := hs.to_eq h1 (show (a, v) ∈ _ by rw [E1]; simp)
  have e2 := hs.from_eq h2 (show (v, z) ∈ _ by rw [E1]; simp)
  subst e1 e2
  exact n.left h
end diag
end Geo

/- The main induction: simple polygons with a left turn at the top vertex are good and have ears. -/
namespace Geo
section diag
variable {a v c z : Pt} {R1 R2 : List Pt}

theorem w_E1 (v c z : Pt) (R1 : List Pt) (q : Pt) : w (v :: c :: R1 ++ [z]) q = chi v c q + cw (c :: R1 ++ [z]) q + chi z v q := by
  unfold w cw; rw [E1, esum_cons, esum_append, esum_cons, esum_nil]; simp only; omega

theorem chain_sub_left {α : Type} {l : List α} {x : α} {f : α × α} (hf : f ∈ chain l) : f ∈ chain (l ++ [x]) := by
  cases l with
  | nil => simp [chain] at hf
  | cons a l =>
    induction l generalizing a with
    | nil => simp [chain] at hf
    | cons b l ih =>
      simp only [List.cons_append, chain, List.mem_cons] at hf ⊢
      exact hf.imp id (ih b)
theorem chain_ends {α : Type} {l : List α} {f : α × α} (hf : f ∈ chain l) : f.1 ∈ l ∧ f.2 ∈ l := by
  obtain ⟨i, hi, rfl⟩ := List.getElem_of_mem hf
  rw [chain_getElem]
  exact ⟨List.getElem_mem _, List.getElem_mem _⟩
theorem chain_sub_right {α : Type} {l : List α} {x : α} {f : α × α} (hf : f ∈ chain l) : f ∈ chain (x :: l) := by
  cases l with
  | nil => simp [chain] at hf
  | cons b l => simp only [chain]; exact List.mem_cons_of_mem _ hf

theorem P1_at (n : Near a v c z (R1 ++ z :: R2)) (h : Simple (a :: v :: c :: (R1 ++ z :: R2))) (ht : Top (a :: v :: c :: (R1 ++ z :: R2)) v) : w (v :: c :: R1 ++ [z]) a = 0 := by
  have P := h.parts
  have l := n.left h
  have hpos := n.pos
  have la := low_y (ht.2 a (by simp))
  have lz := low_y (ht.2 z (by simp))
  have lc := low_y (ht.2 c (by simp))
  have e := cw_move (a := c) (b := z) (l := R1) (q := a) (r := v) fun f hf k k1 k2 => by
    have hne : f ≠ (a, v) := fun e => by
      have := (chain_mem hf).2
      rw [e] at this
      rcases List.mem_append.1 this with x | x
      · exact P.v1 x
      · simp at x; exact P.zv x.symm
    obtain ⟨m1, m2⟩ := chain_mem hf
    rcases h.apart f (in_C1 hf) (a, v) (by simp [edges3]) hne k k1 k2 with ⟨x, y⟩ | ⟨x, y⟩
    · simp only at y
      rw [← x, y] at m1
      rcases List.mem_cons.1 m1 with m | m
      · exact P.vc m
      · exact P.v1 m
    · simp only at y
      rw [← x, y] at m2
      rcases List.mem_append.1 m2 with m | m
      · exact P.a1 m
      · simp at m; exact P.za m.symm
  have z0 : cw (c :: R1 ++ [z]) v = 0 := cw_top fun x hx => low_y (ht.2 x (by simp only [List.cons_append, List.mem_cons, List.mem_append, List.not_mem_nil, or_false] at hx ⊢; grind))
  have r1 := cr_rot a v c
  have r2 : cr z v a = - cr a v z := by unfold cr; grind
  rw [w_E1, chi_left (by rw [r1]; exact hpos), chi_right (a := z) (b := v) (by grind)]
  unfold Phi phi at e
  grind
theorem P2_at (n : Near a v c z (R1 ++ z :: R2)) (h : Simple (a :: v :: c :: (R1 ++ z :: R2))) (ht : Top (a :: v :: c :: (R1 ++ z :: R2)) v) : w (v :: z :: R2 ++ [a]) c = 0 := by
  have P := h.parts
  have l := n.right h
  have hpos := n.pos
  have la := low_y (ht.2 a (by simp))
  have lz := low_y (ht.2 z (by simp))
  have lc := low_y (ht.2 c (by simp))
  have e := cw_move (a := z) (b := a) (l := R2) (q := c) (r := v) fun f hf k k1 k2 => by
    have hne : f ≠ (v, c) := fun e => by
      have := (chain_mem hf).1
      rw [e] at this
      rcases List.mem_cons.1 this with x | x
      · exact P.zv x.symm
      · exact P.v2 x
    obtain ⟨m1, m2⟩ := chain_mem hf
    rcases h.apart f (in_C2 hf) (v, c) (by simp [edges3]) hne k k1 (on_comm k2) with ⟨x, y⟩ | ⟨x, y⟩
    · simp only at y
      rw [← x, y] at m1
      rcases List.mem_cons.1 m1 with m | m
      · exact P.zc m.symm
      · exact P.c2 m
    · simp only at y
      rw [← x, y] at m2
      rcases List.mem_append.1 m2 with m | m
      · exact P.v2 m
      · simp at m; exact P.av m.symm
  have z0 : cw (z :: R2 ++ [a]) v = 0 := cw_top fun x hx => low_y (ht.2 x (by simp only [List.cons_append, List.mem_cons, List.mem_append, List.not_mem_nil, or_false] at hx ⊢; grind))
  have r2 : cr v z c = - cr v c z := by unfold cr; grind
  have r3 : cr c v a = - cr a v c := by unfold cr; grind
  have r4 : cr c v z = - cr v c z := by unfold cr; grind
  rw [w_E1, chi_right (a := v) (b := z) (by grind), chi_left hpos]
  unfold Phi phi at e
  rw [if_pos lc, if_pos lc] at e
  have d1 : cr c v a < 0 := by grind
  have d2 : cr c v z < 0 := by grind
  simp only [d1, d2, and_true] at e
  grind

/-- the vertices of the other part lie outside -/
theorem P1_out (n : Near a v c z (R1 ++ z :: R2)) (h : Simple (a :: v :: c :: (R1 ++ z :: R2))) (ht : Top (a :: v :: c :: (R1 ++ z :: R2)) v) {x : Pt} (hx : x ∈ R2 ++ [a]) : w (v :: c :: R1 ++ [z]) x = 0 := by
  have P := h.parts
  rw [chain_const (f := w (v :: c :: R1 ++ [z])) (l := R2 ++ [a]) (fun e he => w_const fun f hf k k1 k2 => ?_) x hx a (by simp)]
  · exact P1_at n h ht
  · have heP : e ∈ edges (a :: v :: c :: (R1 ++ z :: R2)) := in_C2 (chain_sub_right he)
    obtain ⟨m1, m2⟩ := chain_ends he
    have no : ∀ y, y ∈ R2 ++ [a] → y ≠ v ∧ y ≠ c ∧ y ∉ R1 ∧ y ≠ z := fun y hy => by
      rcases List.mem_append.1 hy with m | m
      · exact ⟨fun e => P.v2 (e ▸ m), fun e => P.c2 (e ▸ m), fun e => P.dis y e m, fun e => P.z2 (e ▸ m)⟩
      · simp at m; subst m; exact ⟨P.av, P.ac, P.a1, P.za.symm⟩
    have n1 := no _ m1
    have n2 := no _ m2
    have fin : ∀ f ∈ edges (a :: v :: c :: (R1 ++ z :: R2)), (f.1 = v ∨ f.1 ∈ c :: R1) → (f.2 = c ∨ f.2 ∈ R1 ++ [z]) → On f.1 f.2 k → False := by
      intro f hf g1 g2 k1
      have hne : e ≠ f := fun e' => by
        rw [e'] at n1
        simp only [List.mem_cons] at g1
        grind
      rcases h.apart e heP f hf hne k k2 k1 with ⟨x, y⟩ | ⟨x, y⟩
      · rw [← x, y] at n1
        simp only [List.mem_append, List.mem_cons, List.not_mem_nil, or_false] at g2
        grind
      · rw [← x, y] at n2
        simp only [List.mem_cons] at g1
        grind
    rw [E1] at hf
    rcases List.mem_cons.1 hf with rfl | hf
    · exact fin (v, c) (by simp [edges3]) (.inl rfl) (.inl rfl) k1
    rcases List.mem_append.1 hf with hf | hf
    · obtain ⟨g1, g2⟩ := chain_mem hf
      exact fin f (in_C1 hf) (.inr g1) (.inr g2) k1
    · simp at hf; subst hf
      rcases n.free h heP k2 (on_comm k1) with rfl | rfl
      · rcases h.vertex (x := k) (by simp) heP k2 with e' | e'
        · exact n1.1 e'.symm
        · exact n2.1 e'.symm
      · rcases h.vertex (x := k) (by simp) heP k2 with e' | e'
        · exact n1.2.2.2 e'.symm
        · exact n2.2.2.2 e'.symm
theorem P2_out (n : Near a v c z (R1 ++ z :: R2)) (h : Simple (a :: v :: c :: (R1 ++ z :: R2))) (ht : Top (a :: v :: c :: (R1 ++ z :: R2)) v) {x : Pt} (hx : x ∈ c :: R1) : w (v :: z :: R2 ++ [a]) x = 0 := by
  have P := h.parts
  rw [chain_const (f := w (v :: z :: R2 ++ [a])) (l := c :: R1) (fun e he => w_const fun f hf k k1 k2 => ?_) x hx c (by simp)]
  · exact P2_at n h ht
  · have heP : e ∈ edges (a :: v :: c :: (R1 ++ z :: R2)) := in_C1 (chain_sub_left he)
    obtain ⟨m1, m2⟩ := chain_ends he
    have no : ∀ y, y ∈ c :: R1 → y ≠ v ∧ y ≠ a ∧ y ∉ R2 ∧ y ≠ z := fun y hy => by
      rcases List.mem_cons.1 hy with m | m
      · subst m; exact ⟨P.vc.symm, P.ac.symm, P.c2, P.zc.symm⟩
      · exact ⟨fun e => P.v1 (e ▸ m), fun e => P.a1 (e ▸ m), fun e => P.dis y m e, fun e => P.z1 (e ▸ m)⟩
    have n1 := no _ m1
    have n2 := no _ m2
    have fin : ∀ f ∈ edges (a :: v :: c :: (R1 ++ z :: R2)), (f.1 = a ∨ f.1 ∈ z :: R2) → (f.2 = v ∨ f.2 ∈ R2 ++ [a]) → On f.1 f.2 k → False := by
      intro f hf g1 g2 k1
      have hne : e ≠ f := fun e' => by
        rw [e'] at n1
        simp only [List.mem_cons] at g1
        grind
      rcases h.apart e heP f hf hne k k2 k1 with ⟨x, y⟩ | ⟨x, y⟩
      · rw [← x, y] at n1
        simp only [List.mem_append, List.mem_cons, List.not_mem_nil, or_false] at g2
        grind
      · rw [← x, y] at n2
        simp only [List.mem_cons] at g1
        grind
    rw [E1] at hf
    rcases List.mem_cons.1 hf with rfl | hf
    · rcases n.free h heP k2 k1 with rfl | rfl
      · rcases h.vertex (x := k) (by simp) heP k2 with e' | e'
        · exact n1.1 e'.symm
        · exact n2.1 e'.symm
      · rcases h.vertex (x := k) (by simp) heP k2 with e' | e'
        · exact n1.2.2.2 e'.symm
        · exact n2.2.2.2 e'.symm
    rcases List.mem_append.1 hf with hf | hf
    · obtain ⟨g1, g2⟩ := chain_mem hf
      exact fin f (in_C2 hf) (.inr g1) (.inr g2) k1
    · simp at hf; subst hf
      exact fin (a, v) (by simp [edges3]) (.inl rfl) (.inl rfl) k1

/-- a vertex that is off a part lies on none of its sides -/
theorem P1_off (n : Near a v c z (R1 ++ z :: R2)) (h : Simple (a :: v :: c :: (R1 ++ z :: R2))) {x : Pt} (hx : x ∈ R2 ++ [a]) : ∀ f ∈ edges (v :: c :: R1 ++ [z]), ¬ On f.1 f.2 x := by
  have P := h.parts
  intro f hf ho
  have hxP : x ∈ a :: v :: c :: (R1 ++ z :: R2) := by
    simp only [List.mem_append, List.mem_cons, List.not_mem_nil, or_false] at hx ⊢
    grind
  have nx : x ≠ v ∧ x ≠ c ∧ x ∉ R1 ∧ x ≠ z := by
    rcases List.mem_append.1 hx with m | m
    · exact ⟨fun e => P.v2 (e ▸ m), fun e => P.c2 (e ▸ m), fun e => P.dis x e m, fun e => P.z2 (e ▸ m)⟩
    · simp at m; subst m; exact ⟨P.av, P.ac, P.a1, P.za.symm⟩
  rw [E1] at hf
  rcases List.mem_cons.1 hf with rfl | hf
  · rcases h.vertex hxP (e := (v, c)) (by simp [edges3]) ho with e | e
    · exact nx.1 e
    · exact nx.2.1 e
  rcases List.mem_append.1 hf with hf | hf
  · obtain ⟨g1, g2⟩ := chain_mem hf
    rcases h.vertex hxP (in_C1 hf) ho with e | e
    · rw [← e] at g1; simp only [List.mem_cons] at g1; grind
    · rw [← e] at g2; simp only [List.mem_append, List.mem_cons, List.not_mem_nil, or_false] at g2; grind
  · simp at hf; subst hf
    obtain ⟨y, hy⟩ := edge_from hxP
    rcases n.free h hy (on_left x y) (on_comm ho) with e | e
    · exact nx.1 e
    · exact nx.2.2.2 e
theorem P2_off (n : Near a v c z (R1 ++ z :: R2)) (h : Simple (a :: v :: c :: (R1 ++ z :: R2))) {x : Pt} (hx : x ∈ c :: R1) : ∀ f ∈ edges (v :: z :: R2 ++ [a]), ¬ On f.1 f.2 x := by
  have P := h.parts
  intro f hf ho
  have hxP : x ∈ a :: v :: c :: (R1 ++ z :: R2) := by
    simp only [List.mem_append, List.mem_cons] at hx ⊢
    grind
  have nx : x ≠ v ∧ x ≠ a ∧ x ∉ R2 ∧ x ≠ z := by
    rcases List.mem_cons.1 hx with m | m
    · subst m; exact ⟨P.vc.symm, P.ac.symm, P.c2, P.zc.symm⟩
    · exact ⟨fun e => P.v1 (e ▸ m), fun e => P.a1 (e ▸ m), fun e => P.dis x m e, fun e => P.z1 (e ▸ m)⟩
  rw [E1] at hf
  rcases List.mem_cons.1 hf with rfl | hf
  · obtain ⟨y, hy⟩ := edge_from hxP
    rcases n.free h hy (on_left x y) ho with e | e
    · exact nx.1 e
    · exact nx.2.2.2 e
  rcases List.mem_append.1 hf with hf | hf
  · obtain ⟨g1, g2⟩ := chain_mem hf
    rcases h.vertex hxP (in_C2 hf) ho with e | e
    · rw [← e] at g1; simp only [List.mem_cons] at g1; grind
    · rw [← e] at g2; simp only [List.mem_append, List.mem_cons, List.not_mem_nil, or_false] at g2; grind
  · simp at hf; subst hf
    rcases h.vertex hxP (e := (a, v)) (by simp [edges3]) ho with e | e
    · exact nx.2.1 e
    · exact nx.1 e

/-- what may be cut off a part, away from the diagonal, may be cut off the whole -/
theorem P1_lift (n : Near a v c z (R1 ++ z :: R2)) (h : Simple (a :: v :: c :: (R1 ++ z :: R2))) (ht : Top (a :: v :: c :: (R1 ++ z :: R2)) v)
    (ih : ∀ m : List Pt, m.length < (v :: c :: R1 ++ [z]).length → Simple m → LT m → Good m) {u : Pt} (uv : u ≠ v) (uz : u ≠ z) (hu : CutAt (v :: c :: R1 ++ [z]) u) : CutAt (a :: v :: c :: (R1 ++ z :: R2)) u := by
  have hs := P1_simple n h
  have hL := P1_LT n h ht
  obtain ⟨p, s, h1, h2, h3⟩ := hu
  have g1 : (p, u) ∈ edges (a :: v :: c :: (R1 ++ z :: R2)) := by
    have h1' := h1
    rw [E1] at h1'
    rcases List.mem_cons.1 h1' with e | e
    · rw [e]; simp [edges3]
    rcases List.mem_append.1 e with e | e
    · exact in_C1 e
    · simp at e; exact absurd e.2 uv
  have g2 : (u, s) ∈ edges (a :: v :: c :: (R1 ++ z :: R2)) := by
    have h2' := h2
    rw [E1] at h2'
    rcases List.mem_cons.1 h2' with e | e
    · injection e with e _; exact absurd e uv
    rcases List.mem_append.1 e with e | e
    · exact in_C1 e
    · simp at e; exact absurd e.1 uz
  refine ⟨p, s, g1, g2, h3.imp id fun ⟨hpos, hno⟩ => ⟨hpos, fun x hx xp xu xs hT => ?_⟩⟩
  by_cases hx1 : x ∈ v :: c :: R1 ++ [z]
  · exact hno x hx1 xp xu xs hT
  · have hx2 : x ∈ R2 ++ [a] := by
      simp only [List.cons_append, List.mem_append, List.mem_cons, List.not_mem_nil, or_false] at hx hx1 ⊢
      grind
    have w1 := cut_one hs hL ih h1 h2 hpos hno hT (P1_off n h hx2)
    have w0 := P1_out n h ht hx2
    omega
theorem P2_lift (n : Near a v c z (R1 ++ z :: R2)) (h : Simple (a :: v :: c :: (R1 ++ z :: R2))) (ht : Top (a :: v :: c :: (R1 ++ z :: R2)) v)
    (ih : ∀ m : List Pt, m.length < (v :: z :: R2 ++ [a]).length → Simple m → LT m → Good m) {u : Pt} (uv : u ≠ v) (uz : u ≠ z) (hu : CutAt (v :: z :: R2 ++ [a]) u) : CutAt (a :: v :: c :: (R1 ++ z :: R2)) u := by
  have hs := P2_simple n h
  have hL := P2_LT n h ht
  obtain ⟨p, s, h1, h2, h3⟩ := hu
  have g1 : (p, u) ∈ edges (a :: v :: c :: (R1 ++ z :: R2)) := by
    have h1' := h1
    rw [E1] at h1'
    rcases List.mem_cons.1 h1' with e | e
    · injection e with _ e; exact absurd e uz
    rcases List.mem_append.1 e with e | e
    · exact in_C2 e
    · simp at e; exact absurd e.2 uv
  have g2 : (u, s) ∈ edges (a :: v :: c :: (R1 ++ z :: R2)) := by
    have h2' := h2
    rw [E1] at h2'
    rcases List.mem_cons.1 h2' with e | e
    · injection e with e _; exact absurd e uv
    rcases List.mem_append.1 e with e | e
    · exact in_C2 e
    · simp at e; rw [e.1, e.2]; simp [edges3]
  refine ⟨p, s, g1, g2, h3.imp id fun ⟨hpos, hno⟩ => ⟨hpos, fun x hx xp xu xs hT => ?_⟩⟩
  by_cases hx1 : x ∈ v :: z :: R2 ++ [a]
  · exact hno x hx1 xp xu xs hT
  · have hx2 : x ∈ c :: R1 := by
      simp only [List.cons_append, List.mem_append, List.mem_cons, List.not_mem_nil, or_false] at hx hx1 ⊢
      grind
    have w1 := cut_one hs hL ih h1 h2 hpos hno hT (P2_off n h hx2)
    have w0 := P2_out n h ht hx2
    omega
end diag

theorem edge_to {l : List Pt} {x : Pt} (h : x ∈ l) : ∃ y, (y, x) ∈ edges l := by
  have : x ∈ l.reverse := by simpa using h
  obtain ⟨y, hy⟩ := edge_from this
  exact ⟨y, mem_edges_rev.1 hy⟩

theorem LT_tri {a b c : Pt} (hL : LT [a, b, c]) : 0 < cr a b c := by
  obtain ⟨v, hv⟩ := top_exists (l := [a, b, c]) (by simp)
  have he : edges [a, b, c] = [(a, b), (b, c), (c, a)] := rfl
  have := hv.1
  simp only [List.mem_cons, List.not_mem_nil, or_false] at this
  rcases this with rfl | rfl | rfl
  · rw [← cr_rot2]; exact hL c v b (by simp [he]) (by simp [he]) hv
  · exact hL a v c (by simp [he]) (by simp [he]) hv
  · rw [← cr_rot]; exact hL b v a (by simp [he]) (by simp [he]) hv

theorem tri_ears {a b c : Pt} (h : 0 < cr a b c) (hn : [a, b, c].Nodup) : Ears [a, b, c] := by
  have he : edges [a, b, c] = [(a, b), (b, c), (c, a)] := rfl
  simp only [List.nodup_cons, List.mem_cons, List.not_mem_nil, or_false, not_or] at hn
  intro e hE
  rw [he] at hE
  simp only [List.mem_cons, List.not_mem_nil, or_false] at hE
  rcases hE with rfl | rfl | rfl
  · exact ⟨c, fun e => hn.1.2 e.symm, fun e => hn.2.1 e.symm, b, a, by simp [he], by simp [he], .inr ⟨by rw [cr_rot]; exact h, fun x hx => by simp only [List.mem_cons, List.not_mem_nil, or_false] at hx; grind⟩⟩
  · exact ⟨a, fun e => hn.1.1 e, fun e => hn.1.2 e, c, b, by simp [he], by simp [he], .inr ⟨by rw [cr_rot2]; exact h, fun x hx => by simp only [List.mem_cons, List.not_mem_nil, or_false] at hx; grind⟩⟩
  · exact ⟨b, fun e => hn.2.1 e, fun e => hn.1.1 e.symm, a, c, by simp [he], by simp [he], .inr ⟨h, fun x hx => by simp only [List.mem_cons, List.not_mem_nil, or_false] at hx; grind⟩⟩

theorem ears_step {a v c : Pt} {R : List Pt} (hR : R ≠ []) (h : Simple (a :: v :: c :: R)) (hL : LT (a :: v :: c :: R)) (ht : Top (a :: v :: c :: R) v)
    (ih : ∀ m : List Pt, m.length < R.length + 3 → Simple m → LT m → Good m ∧ Ears m) : Ears (a :: v :: c :: R) := by
  have hd := h.dist
  have hpos := hL a v c (by simp [edges3]) (by simp [edges3]) ht
  by_cases hno : ∀ x ∈ R, ¬ InT a v c x
  · have hc : Cuttable a v c R := .inr ⟨hpos, hno⟩
    have hv : CutAt (a :: v :: c :: R) v := ⟨a, c, by simp [edges3], by simp [edges3], .inr ⟨hpos, fun x hx xa xv xc => hno x (by simp only [List.mem_cons] at hx; grind)⟩⟩
    have hs := cut_rest h hR hc
    have hL' := cut_LT h hR hc hL (fun l hl h1 h2 => (ih l (by omega) h1 h2).1)
    obtain ⟨u, ua, uc, p, s, h1, h2, h3⟩ := (ih (a :: c :: R) (by simp) hs hL').2 (a, c) (by simp [edges2])
    simp only at ua uc
    have uv : u ≠ v := fun e => by
      have := edges_snd_mem h1
      simp only [e, List.mem_cons] at this
      rcases this with e | e | e
      · exact hd.pu e.symm
      · exact hd.us e
      · exact hd.uR e
    have g1 : (p, u) ∈ chain (c :: R ++ [a]) := by
      rw [edges2] at h1
      rcases List.mem_cons.1 h1 with e | e
      · injection e with _ e; exact absurd e uc
      · exact e
    have g2 : (u, s) ∈ chain (c :: R ++ [a]) := by
      rw [edges2] at h2
      rcases List.mem_cons.1 h2 with e | e
      · injection e with e _; exact absurd e ua
      · exact e
    have hcut : CutAt (a :: v :: c :: R) u := by
      refine ⟨p, s, chain_edge g1, chain_edge g2, h3.imp id fun ⟨ps, hn⟩ => ⟨ps, fun x hx xp xu xs => ?_⟩⟩
      by_cases xv : x = v
      · subst xv
        exact top_out ps (ht.2 p (edges_fst_mem (chain_edge (u := x) g1))) (ht.2 u (edges_snd_mem (chain_edge (u := x) g1))) (ht.2 s (edges_snd_mem (chain_edge (u := x) g2))) xp.symm xu.symm xs.symm
      · exact hn x (by simp only [List.mem_cons] at hx ⊢; grind) xp xu xs
    intro e hE
    by_cases e1 : v = e.1
    · have e2 : e.2 = c := h.from_eq (a := v) (b := e.2) (c := c) (Prod.ext (x := (v, e.2)) (y := e) e1 rfl ▸ hE) (by simp [edges3])
      exact ⟨u, by rw [← e1]; exact uv, by rw [e2]; exact uc, hcut⟩
    by_cases e2 : v = e.2
    · have e3 : e.1 = a := h.to_eq (a := e.1) (b := a) (c := v) (Prod.ext (x := (e.1, v)) (y := e) rfl e2 ▸ hE) (by simp [edges3])
      exact ⟨u, by rw [e3]; exact ua, by rw [← e2]; exact uv, hcut⟩
    exact ⟨v, e1, e2, hv⟩
  · have hex : ∃ x ∈ R, InT a v c x := by
      by_cases hx : ∃ x ∈ R, InT a v c x
      · exact hx
      · exact absurd (fun x hx' hT => hx ⟨x, hx', hT⟩) hno
    obtain ⟨z, hz, zT, zm⟩ := arg_max (f := cr c a) hex
    obtain ⟨R1, R2, rfl⟩ := List.append_of_mem hz
    have n : Near a v c z (R1 ++ z :: R2) := ⟨hpos, hz, zT, zm⟩
    have P := h.parts
    have len1 : (v :: c :: R1 ++ [z]).length < (R1 ++ z :: R2).length + 3 := by simp only [List.length_cons, List.length_append, List.length_nil]; omega
    have len2 : (v :: z :: R2 ++ [a]).length < (R1 ++ z :: R2).length + 3 := by simp only [List.length_cons, List.length_append, List.length_nil]; omega
    obtain ⟨u1, a1, b1, c1⟩ := (ih _ len1 (P1_simple n h) (P1_LT n h ht)).2 (z, v) (by rw [E1]; simp)
    obtain ⟨u2, a2, b2, c2⟩ := (ih _ len2 (P2_simple n h) (P2_LT n h ht)).2 (v, z) (by rw [E1]; simp)
    have m1 : u1 ∈ v :: c :: R1 ++ [z] := by obtain ⟨p, s, h1, _⟩ := c1; exact edges_snd_mem h1
    have m2 : u2 ∈ v :: z :: R2 ++ [a] := by obtain ⟨p, s, h1, _⟩ := c2; exact edges_snd_mem h1
    have k1 := P1_lift n h ht (fun m hm h1 h2 => (ih m (by omega) h1 h2).1) b1 a1 c1
    have k2 := P2_lift n h ht (fun m hm h1 h2 => (ih m (by omega) h1 h2).1) a2 b2 c2
    simp only at a1 b1 a2 b2
    simp only [List.cons_append, List.mem_append, List.mem_cons, List.not_mem_nil, or_false] at m1 m2
    have d := P.dis
    intro e hE
    rw [edges3, C_split] at hE
    rcases List.mem_cons.1 hE with rfl | hE
    · refine ⟨u1, ?_, b1, k1⟩
      have := P.a1; have := P.ac; have := P.av; have := P.za
      grind
    rcases List.mem_cons.1 hE with rfl | hE
    · refine ⟨u2, a2, ?_, k2⟩
      have := P.c2; have := P.ac; have := P.vc; have := P.zc
      grind
    rcases List.mem_append.1 hE with hE | hE
    · obtain ⟨g1, g2⟩ := chain_mem hE
      simp only [List.mem_append, List.mem_cons, List.not_mem_nil, or_false] at g1 g2
      have := P.c2; have := P.ac; have := P.a1; have := P.za
      exact ⟨u2, by grind, by grind, k2⟩
    · obtain ⟨g1, g2⟩ := chain_mem hE
      simp only [List.mem_append, List.mem_cons, List.not_mem_nil, or_false] at g1 g2
      have := P.c2; have := P.ac; have := P.a1; have := P.za; have := P.zc
      exact ⟨u1, by grind, by grind, k1⟩

theorem main_aux (n : Nat) : ∀ l : List Pt, l.length < n → Simple l → LT l → Good l ∧ Ears l := by
  induction n with
  | zero => intro l hl; omega
  | succ n ih =>
    intro l hl hs hL
    have h3 := hs.three
    match l, h3 with
    | [a, b, c], _ =>
      have hp := LT_tri hL
      exact ⟨tri_good hp, tri_ears hp hs.nodup⟩
    | x :: y :: z :: t :: l', _ =>
      generalize hll : x :: y :: z :: t :: l' = l at *
      have hlen : 4 ≤ l.length := by rw [← hll]; simp
      obtain ⟨v, hv⟩ := top_exists (l := l) (by rw [← hll]; simp)
      obtain ⟨a, ha⟩ := edge_to hv.1
      obtain ⟨c, hc⟩ := edge_from hv.1
      obtain ⟨R, r⟩ := rot3 hs ha hc
      have e1 := r.1.length_eq
      have hR : R ≠ [] := fun e => by rw [e] at e1; simp at e1; omega
      have ears : Ears l := Ears.rot r.symm (ears_step hR (r.simple hs) (hL.rot r) (hv.perm r.1) (fun m hm => ih m (by simp at e1; omega)))
      refine ⟨?_, ears⟩
      obtain ⟨u, _, _, hu⟩ := ears (a, v) ha
      obtain ⟨p, s, R', r', hcut⟩ := hu.form hs
      have e2 := r'.1.length_eq
      have hR' : R' ≠ [] := fun e => by rw [e] at e2; simp at e2; omega
      have ih' : ∀ m : List Pt, m.length = R'.length + 2 → Simple m → LT m → Good m := fun m hm h1 h2 => (ih m (by simp at e2; omega) h1 h2).1
      have hs' := r'.simple hs
      exact r'.symm.good (cut_good hs' hR' hcut (ih' _ (by simp) (cut_rest hs' hR' hcut) (cut_LT hs' hR' hcut (hL.rot r') ih')))

theorem LT.good {l : List Pt} (h : Simple l) (hL : LT l) : Good l := (main_aux _ l (Nat.lt_succ_self _) h hL).1
theorem LT.ears {l : List Pt} (h : Simple l) (hL : LT l) : Ears l := (main_aux _ l (Nat.lt_succ_self _) h hL).2
/-- the turn at the top vertex is the area's sign -/
theorem LT_iff {l : List Pt} (h : Simple l) : LT l ↔ 0 < ar l := by
  constructor
  · intro hL; exact (hL.good h).area
  · intro ha
    by_cases hL : LT l; · exact hL
    have := ((LT_rev h hL).good h.reverse).area
    rw [ar_rev] at this
    grind
theorem ar_ne {l : List Pt} (h : Simple l) : ar l ≠ 0 := by
  by_cases hL : LT l
  · have := (hL.good h).area; grind
  · have := ((LT_rev h hL).good h.reverse).area
    rw [ar_rev] at this
    grind
end Geo

/- Straight vertices dropped from a simple polygon. -/
namespace Geo

/-- a vertex on the line through its neighbours -/
def Flat (l : List Pt) (v : Pt) : Prop := ∃ p s, (p, v) ∈ edges l ∧ (v, s) ∈ edges l ∧ cr p v s = 0
theorem Flat.rot {l m : List Pt} (r : Rot l m) {v : Pt} : Flat l v ↔ Flat m v :=
  ⟨fun ⟨p, s, h1, h2, h3⟩ => ⟨p, s, r.2.mem_iff.1 h1, r.2.mem_iff.1 h2, h3⟩, fun ⟨p, s, h1, h2, h3⟩ => ⟨p, s, r.2.mem_iff.2 h1, r.2.mem_iff.2 h2, h3⟩⟩
/-- a list cut open at a vertex -/
theorem rotAt {A B N : List Pt} {p u s : Pt} (h : B ++ A = s :: N ++ [p]) : Rot (A ++ u :: B) (p :: u :: s :: N) ∧ Rot (A ++ B) (p :: s :: N) := by
  constructor
  · have r1 := rot_app A (u :: B)
    rw [List.cons_append, h] at r1
    exact r1.trans (rot_app (u :: s :: N) [p])
  · have r1 := rot_app A B
    rw [h] at r1
    exact r1.trans (rot_app (s :: N) [p])
theorem split_at {A B : List Pt} {u : Pt} (h : 3 ≤ (A ++ u :: B).length) : ∃ p s N, B ++ A = s :: N ++ [p] := by
  have hl : 2 ≤ (B ++ A).length := by simp at h ⊢; omega
  generalize B ++ A = M at *
  match M, hl with
  | s :: y :: M', _ =>
    rcases List.eq_nil_or_concat (y :: M') with h | ⟨N, p, h⟩
    · simp at h
    · exact ⟨p, s, N, by rw [h]; simp⟩

section
variable {p u s : Pt} {R : List Pt}
theorem flat_rest (h : Simple (p :: u :: s :: R)) (hR : R ≠ []) (h0 : cr p u s = 0) {x : Pt} (hx : x ∈ p :: s :: R) : Flat (p :: s :: R) x ↔ Flat (p :: u :: s :: R) x := by
  have hd := h.dist
  have hs := flat_simple h hR h0
  obtain ⟨t, t0, t1, et⟩ := open_at (flat_on h h0) hd.pu.symm hd.us
  have xu : x ≠ u := fun e => by
    simp only [e, List.mem_cons] at hx
    rcases hx with e | e | e
    · exact hd.pu e.symm
    · exact hd.us e
    · exact hd.uR e
  constructor
  · rintro ⟨a, c, h1, h2, h3⟩
    rw [edges2] at h1 h2
    rcases List.mem_cons.1 h1 with e1 | h1 <;> rcases List.mem_cons.1 h2 with e2 | h2
    · injection e1 with e1 e1'; injection e2 with e2 e2'
      exact absurd (e2.symm.trans e1') hd.ps
    · injection e1 with e1 e1'
      subst e1 e1'
      refine ⟨u, c, by simp [edges3], chain_edge h2, ?_⟩
      have e : cr u x c = (1 - t) * cr a x c := by rw [et]; unfold cr lerp; grind
      rw [e, h3]; grind
    · injection e2 with e2 e2'
      subst e2 e2'
      refine ⟨a, u, chain_edge h1, by simp [edges3], ?_⟩
      have e : cr a x u = t * cr a x c := by rw [et]; unfold cr lerp; grind
      rw [e, h3]; grind
    · exact ⟨a, c, chain_edge h1, chain_edge h2, h3⟩
  · rintro ⟨a, c, h1, h2, h3⟩
    rw [edges3] at h1 h2
    rcases List.mem_cons.1 h1 with e1 | g1
    · injection e1 with _ e; exact absurd e xu
    rcases List.mem_cons.1 g1 with e1 | k1
    · injection e1 with e1 e1'
      rcases List.mem_cons.1 h2 with e2 | g2
      · injection e2 with e2 _; exact absurd (e2.symm.trans e1') hd.ps
      rcases List.mem_cons.1 g2 with e2 | k2
      · injection e2 with e2 _; exact absurd e2 xu
      refine ⟨p, c, by rw [edges2, e1']; simp, by rw [edges2]; exact List.mem_cons_of_mem _ k2, ?_⟩
      have e : cr a x c = (1 - t) * cr p x c := by rw [e1, e1', et]; unfold cr lerp; grind
      rw [e] at h3
      exact (Rat.mul_eq_zero.1 h3).resolve_left (by grind)
    · rcases List.mem_cons.1 h2 with e2 | g2
      · injection e2 with e2 e2'
        refine ⟨a, s, by rw [edges2]; exact List.mem_cons_of_mem _ k1, by rw [edges2, e2]; simp, ?_⟩
        have e : cr a x c = t * cr a x s := by rw [e2, e2', et]; unfold cr lerp; grind
        rw [e] at h3
        exact (Rat.mul_eq_zero.1 h3).resolve_left (by grind)
      rcases List.mem_cons.1 g2 with e2 | k2
      · injection e2 with e2 _; exact absurd e2 xu
      exact ⟨a, c, by rw [edges2]; exact List.mem_cons_of_mem _ k1, by rw [edges2]; exact List.mem_cons_of_mem _ k2, h3⟩
end

/-- a triangle has no straight vertex -/
theorem no_flat3 {l : List Pt} (h : Simple l) (hl : l.length = 3) {v : Pt} : ¬ Flat l v := by
  rintro ⟨p, s, h1, h2, h0⟩
  obtain ⟨R, r⟩ := rot3 h h1 h2
  have hR : R = [] := by
    have := r.1.length_eq
    simp at this
    exact List.eq_nil_of_length_eq_zero (by omega)
  subst hR
  have hs := r.simple h
  have hd := hs.dist
  have ho := flat_on hs h0
  rcases hs.vertex (x := v) (by simp) (e := (s, p)) (by simp [edges3, chain]) (on_comm ho) with e | e
  · exact hd.us e
  · exact hd.pu e.symm

/-- what dropping one straight vertex keeps -/
theorem drop_one {A B : List Pt} {u : Pt} (h : Simple (A ++ u :: B)) (hf : Flat (A ++ u :: B) u) :
    Simple (A ++ B) ∧ (∀ x ∈ A ++ B, Flat (A ++ B) x ↔ Flat (A ++ u :: B) x) ∧ (∀ q, w (A ++ u :: B) q = w (A ++ B) q) ∧ ar (A ++ u :: B) = ar (A ++ B) ∧ (∀ q, (∃ e ∈ edges (A ++ B), On e.1 e.2 q) ↔ ∃ e ∈ edges (A ++ u :: B), On e.1 e.2 q) := by
  have h4 : 4 ≤ (A ++ u :: B).length := by
    have h3 := h.three
    by_cases e : (A ++ u :: B).length = 3
    · exact absurd hf (no_flat3 h e)
    · omega
  obtain ⟨p, s, N, hN⟩ := split_at (A := A) (B := B) (u := u) (by omega)
  obtain ⟨r1, r2⟩ := rotAt (u := u) hN
  have hR : N ≠ [] := by
    rintro rfl
    have := r1.1.length_eq
    rw [this] at h4
    simp at h4
  have hs := r1.simple h
  have h0 : cr p u s = 0 := by
    obtain ⟨a, c, g1, g2, g3⟩ := (Flat.rot r1).1 hf
    have e1 := hs.to_eq g1 (show (p, u) ∈ _ by simp [edges3])
    have e2 := hs.from_eq g2 (show (u, s) ∈ _ by simp [edges3])
    subst e1 e2; exact g3
  have hu := flat_on hs h0
  refine ⟨r2.symm.simple (flat_simple hs hR h0), fun x hx => ?_, fun q => ?_, ?_, fun q => ?_⟩
  · rw [Flat.rot r2, Flat.rot r1]
    exact flat_rest hs hR h0 (r2.1.mem_iff.1 hx)
  · rw [w_perm r1.2, w_perm r2.2, w_flat hu]
  · rw [ar_perm r1.2, ar_perm r2.2, ar_cut, h0]; grind
  · constructor
    · rintro ⟨e, he, ho⟩
      have he' := r2.2.mem_iff.1 he
      rw [edges2] at he'
      rcases List.mem_cons.1 he' with rfl | he'
      · rcases on_split hu ho with o | o
        · exact ⟨(p, u), r1.2.mem_iff.2 (by simp [edges3]), o⟩
        · exact ⟨(u, s), r1.2.mem_iff.2 (by simp [edges3]), o⟩
      · exact ⟨e, r1.2.mem_iff.2 (chain_edge he'), ho⟩
    · rintro ⟨e, he, ho⟩
      have he' := r1.2.mem_iff.1 he
      rw [edges3] at he'
      rcases List.mem_cons.1 he' with rfl | he'
      · exact ⟨(p, s), r2.2.mem_iff.2 (by simp [edges2]), on_sub (on_left p s) hu ho⟩
      rcases List.mem_cons.1 he' with rfl | he'
      · exact ⟨(p, s), r2.2.mem_iff.2 (by simp [edges2]), on_sub hu (on_right p s) ho⟩
      · exact ⟨e, r2.2.mem_iff.2 (by rw [edges2]; exact List.mem_cons_of_mem _ he'), ho⟩

def flatB (l : List Pt) (v : Pt) : Bool := (edges l).any fun e => (edges l).any fun f => decide (e.2 = v ∧ f.1 = v ∧ cr e.1 v f.2 = 0)
theorem flatB_iff (l : List Pt) (v : Pt) : flatB l v = true ↔ Flat l v := by
  unfold flatB Flat
  simp only [List.any_eq_true, decide_eq_true_eq]
  constructor
  · rintro ⟨⟨p, v1⟩, h1, ⟨v2, s⟩, h2, h3, h4, h5⟩
    simp only at h3 h4 h5
    subst h3 h4
    exact ⟨p, s, h1, h2, h5⟩
  · rintro ⟨p, s, h1, h2, h3⟩
    exact ⟨_, h1, _, h2, rfl, rfl, h3⟩
/-- the vertices that are not straight -/
def keepF (l : List Pt) : List Pt := l.filter fun v => !flatB l v

theorem keepF_all (n : Nat) : ∀ l : List Pt, l.length = n → Simple l → Simple (keepF l) ∧ (∀ x ∈ keepF l, ¬ Flat (keepF l) x) ∧ (∀ q, w l q = w (keepF l) q) ∧ ar l = ar (keepF l) ∧ (∀ q, (∃ e ∈ edges (keepF l), On e.1 e.2 q) ↔ ∃ e ∈ edges l, On e.1 e.2 q) := by
  induction n with
  | zero => intro l hl hs; have := hs.three; omega
  | succ n ih =>
    intro l hl hs
    by_cases hf : ∃ u ∈ l, Flat l u
    · obtain ⟨u, hu, hfu⟩ := hf
      obtain ⟨A, B, rfl⟩ := List.append_of_mem hu
      obtain ⟨d1, d2, d3, d4, d5⟩ := drop_one hs hfu
      have e : keepF (A ++ u :: B) = keepF (A ++ B) := by
        unfold keepF
        have e1 : (A ++ u :: B).filter (fun v => !flatB (A ++ u :: B) v) = (A ++ B).filter (fun v => !flatB (A ++ u :: B) v) := by
          rw [List.filter_append, List.filter_append, List.filter_cons]
          simp [(flatB_iff _ _).2 hfu]
        rw [e1]
        refine List.filter_congr fun x hx => ?_
        have : flatB (A ++ B) x = flatB (A ++ u :: B) x := by rw [Bool.eq_iff_iff, flatB_iff, flatB_iff]; exact d2 x hx
        rw [this]
      obtain ⟨k1, k2, k3, k4, k5⟩ := ih (A ++ B) (by simp at hl ⊢; omega) d1
      rw [e]
      exact ⟨k1, k2, fun q => (d3 q).trans (k3 q), d4.trans k4, fun q => (k5 q).trans (d5 q)⟩
    · have e : keepF l = l := by
        unfold keepF
        rw [List.filter_eq_self]
        intro x hx
        cases hb : flatB l x with
        | false => rfl
        | true => exact absurd ⟨x, hx, (flatB_iff _ _).1 hb⟩ hf
      rw [e]
      exact ⟨hs, fun x hx h => hf ⟨x, hx, h⟩, fun q => rfl, rfl, fun q => Iff.rfl⟩
theorem keepF_simple {l : List Pt} (h : Simple l) : Simple (keepF l) := (keepF_all _ l rfl h).1
theorem keepF_strict {l : List Pt} (h : Simple l) : ∀ x ∈ keepF l, ¬ Flat (keepF l) x := (keepF_all _ l rfl h).2.1
theorem keepF_w {l : List Pt} (h : Simple l) (q : Pt) : w (keepF l) q = w l q := ((keepF_all _ l rfl h).2.2.1 q).symm
theorem keepF_ar {l : List Pt} (h : Simple l) : ar (keepF l) = ar l := (keepF_all _ l rfl h).2.2.2.1.symm
theorem keepF_on {l : List Pt} (h : Simple l) (q : Pt) : (∃ e ∈ edges (keepF l), On e.1 e.2 q) ↔ ∃ e ∈ edges l, On e.1 e.2 q := (keepF_all _ l rfl h).2.2.2.2 q
end Geo

/- A polygon, covered by triangles. -/
namespace Geo

/-- the closed region, and its inner part -/
def Rg (l : List Pt) (q : Pt) : Prop := (∃ e ∈ edges l, On e.1 e.2 q) ∨ w l q = 1
def Ri (l : List Pt) (q : Pt) : Prop := (∀ e ∈ edges l, ¬ On e.1 e.2 q) ∧ w l q = 1
def IntT (a b c q : Pt) : Prop := 0 < cr a b q ∧ 0 < cr b c q ∧ 0 < cr c a q
theorem Rg.rot {l m : List Pt} (r : Rot l m) (q : Pt) : Rg l q ↔ Rg m q := by
  unfold Rg; rw [w_perm r.2]
  exact or_congr ⟨fun ⟨e, h, o⟩ => ⟨e, r.2.mem_iff.1 h, o⟩, fun ⟨e, h, o⟩ => ⟨e, r.2.mem_iff.2 h, o⟩⟩ Iff.rfl
theorem Ri.rot {l m : List Pt} (r : Rot l m) (q : Pt) : Ri l q ↔ Ri m q := by
  unfold Ri; rw [w_perm r.2]
  exact and_congr ⟨fun h e he => h e (r.2.mem_iff.2 he), fun h e he => h e (r.2.mem_iff.1 he)⟩ Iff.rfl

abbrev T3 := Pt × Pt × Pt
def tsum : List T3 → Rat
  | [] => 0
  | t :: ts => cr t.1 t.2.1 t.2.2 + tsum ts
structure Cov (l : List Pt) (ts : List T3) : Prop where
  pos : ∀ t ∈ ts, 0 < cr t.1 t.2.1 t.2.2
  mem : ∀ t ∈ ts, t.1 ∈ l ∧ t.2.1 ∈ l ∧ t.2.2 ∈ l
  cov : ∀ q, Rg l q ↔ ∃ t ∈ ts, InT t.1 t.2.1 t.2.2 q
  int : ∀ t ∈ ts, ∀ q, IntT t.1 t.2.1 t.2.2 q → Ri l q
  uniq : ts.Pairwise fun t t' => ∀ q, (IntT t.1 t.2.1 t.2.2 q → ¬ InT t'.1 t'.2.1 t'.2.2 q) ∧ (IntT t'.1 t'.2.1 t'.2.2 q → ¬ InT t.1 t.2.1 t.2.2 q)
  sum : ar l = tsum ts
  one : ts ≠ []
  len : ts.length + 2 ≤ l.length
theorem Cov.rot {l m : List Pt} {ts : List T3} (r : Rot l m) (h : Cov l ts) : Cov m ts :=
  ⟨h.pos, fun t ht => by obtain ⟨a, b, c⟩ := h.mem t ht; exact ⟨r.1.mem_iff.1 a, r.1.mem_iff.1 b, r.1.mem_iff.1 c⟩, fun q => by rw [← Rg.rot r]; exact h.cov q, fun t ht q hq => (Ri.rot r q).1 (h.int t ht q hq), h.uniq, by rw [← ar_perm r.2]; exact h.sum, h.one, by rw [← r.1.length_eq]; exact h.len⟩

theorem inT_of_side {a b c q : Pt} (h : 0 < cr a b c) (ho : On a b q ∨ On b c q ∨ On c a q) : InT a b c q := by
  have c1 := cr_rot a b c; have c2 := cr_rot2 a b c
  have va : InT a b c a := ⟨by rw [cr_self]; grind, by grind, by rw [cr_self']; grind⟩
  have vb : InT a b c b := ⟨by rw [cr_self']; grind, by rw [cr_self]; grind, by grind⟩
  have vc : InT a b c c := ⟨by grind, by rw [cr_self']; grind, by rw [cr_self]; grind⟩
  rcases ho with o | o | o
  · exact inT_conv va vb o
  · exact inT_conv vb vc o
  · exact inT_conv vc va o
theorem int_off {a b c q : Pt} (hq : IntT a b c q) : ¬ On a b q ∧ ¬ On b c q ∧ ¬ On c a q := by
  obtain ⟨h1, h2, h3⟩ := hq
  refine ⟨fun o => ?_, fun o => ?_, fun o => ?_⟩
  · have := cr_on o; grind
  · have := cr_on o; grind
  · have := cr_on o; grind
theorem IntT.inT {a b c q : Pt} (h : IntT a b c q) : InT a b c q := ⟨by have := h.1; grind, by have := h.2.1; grind, by have := h.2.2; grind⟩

theorem cov_tri {a b c : Pt} (h : 0 < cr a b c) : Cov [a, b, c] [(a, b, c)] := by
  have he : edges [a, b, c] = [(a, b), (b, c), (c, a)] := rfl
  have hon : ∀ q, (∃ e ∈ edges [a, b, c], On e.1 e.2 q) ↔ (On a b q ∨ On b c q ∨ On c a q) := fun q => by rw [he]; simp
  refine ⟨?_, ?_, ?_, ?_, ?_, ?_, by simp, by simp⟩
  · intro t ht; simp at ht; subst ht; exact h
  · intro t ht; simp at ht; subst ht; simp
  · intro q
    simp only [List.mem_singleton, exists_eq_left]
    unfold Rg
    rw [hon]
    constructor
    · rintro (o | o)
      · exact inT_of_side h o
      · by_cases hT : InT a b c q
        · exact hT
        · have := tri_out h hT; omega
    · intro hT
      by_cases ho : On a b q ∨ On b c q ∨ On c a q
      · exact .inl ho
      · right
        have n1 : ¬ On a b q := fun o => ho (.inl o)
        have n2 : ¬ On b c q := fun o => ho (.inr (.inl o))
        have n3 : ¬ On c a q := fun o => ho (.inr (.inr o))
        obtain ⟨i1, i2, i3⟩ := inT_pos h hT n1 n2 n3
        exact tri_in i1 i2 i3
  · intro t ht q hq
    simp at ht; subst ht
    refine ⟨fun e hE ho => ?_, tri_in hq.1 hq.2.1 hq.2.2⟩
    obtain ⟨n1, n2, n3⟩ := int_off hq
    rw [he] at hE
    simp only [List.mem_cons, List.not_mem_nil, or_false] at hE
    rcases hE with rfl | rfl | rfl
    · exact n1 ho
    · exact n2 ho
    · exact n3 ho
  · simp
  · rw [ar_tri]; simp [tsum]; grind

/-- a straight vertex more -/
theorem cov_flat {A B : List Pt} {u : Pt} {ts : List T3} (hs : Simple (A ++ u :: B)) (hf : Flat (A ++ u :: B) u) (h : Cov (A ++ B) ts) : Cov (A ++ u :: B) ts := by
  obtain ⟨d1, d2, d3, d4, d5⟩ := drop_one hs hf
  refine ⟨h.pos, fun t ht => ?_, fun q => ?_, fun t ht q hq => ?_, h.uniq, d4.trans h.sum, h.one, by have := h.len; simp at this ⊢; omega⟩
  · obtain ⟨a, b, c⟩ := h.mem t ht
    simp only [List.mem_append, List.mem_cons] at a b c ⊢
    grind
  · rw [← h.cov q]; unfold Rg; rw [d3, d5]
  · obtain ⟨h1, h2⟩ := h.int t ht q hq
    refine ⟨fun e he ho => ?_, by rw [d3]; exact h2⟩
    obtain ⟨f, hf', ho'⟩ := (d5 q).2 ⟨e, he, ho⟩
    exact h1 f hf' ho'

section ear
variable {p u s : Pt} {R : List Pt}
/-- an ear more -/
theorem cov_ear {ts : List T3} (hs : Simple (p :: u :: s :: R)) (hR : R ≠ []) (hpos : 0 < cr p u s) (hno : ∀ x ∈ R, ¬ InT p u s x) (hg : Good (p :: s :: R)) (h : Cov (p :: s :: R) ts) : Cov (p :: u :: s :: R) ((p, u, s) :: ts) := by
  have wc := w_cut p u s R
  -- in the ear, off the cut, the rest counts nothing
  have z0 : ∀ y, InT p u s y → 0 < cr s p y → w (p :: s :: R) y = 0 := fun y hy h3 => by
    have := ear_in hs hR hpos hno hg hy h3
    have := wc y
    omega
  have onps : ∀ y, InT p u s y → ¬ 0 < cr s p y → On p s y := fun y hy h3 => on_comm (tri_side (a := s) (b := p) (c := u) (by rw [cr_rot2]; exact hpos) (by have := hy.2.2; grind) hy.1 hy.2.1)
  -- points inside the rest lie outside of the ear
  have out1 : ∀ y, Ri (p :: s :: R) y → ¬ InT p u s y := fun y hy hT => by
    by_cases h3 : 0 < cr s p y
    · have := z0 y hT h3; have := hy.2; omega
    · exact hy.1 (p, s) (by simp [edges2]) (onps y hT h3)
  -- inner points of the ear lie outside of the rest
  have out2 : ∀ y, IntT p u s y → ¬ Rg (p :: s :: R) y := fun y hy hr => by
    rcases hr with ⟨e, he, ho⟩ | hw
    · rw [edges2] at he
      rcases List.mem_cons.1 he with rfl | he
      · exact (int_off hy).2.2 (on_comm ho)
      · rcases cut_free hs hR hpos hno he ho hy.inT with rfl | rfl
        · have := hy.1; rw [cr_self] at this; grind
        · have := hy.2.1; rw [cr_self'] at this; grind
    · have := z0 y hy.inT hy.2.2; omega
  have lift : ∀ y, Ri (p :: s :: R) y → Ri (p :: u :: s :: R) y := fun y hy => by
    have hT := out1 y hy
    refine ⟨fun e he ho => ?_, by rw [wc, tri_out hpos hT, hy.2]; rfl⟩
    rw [edges3] at he
    rcases List.mem_cons.1 he with rfl | he
    · exact hT (inT_of_side hpos (.inl ho))
    rcases List.mem_cons.1 he with rfl | he
    · exact hT (inT_of_side hpos (.inr (.inl ho)))
    · exact hy.1 e (by rw [edges2]; exact List.mem_cons_of_mem _ he) ho
  have inEar : ∀ y, IntT p u s y → Ri (p :: u :: s :: R) y := fun y hy => by
    refine ⟨fun e he ho => ?_, by rw [wc, z0 y hy.inT hy.2.2, tri_in hy.1 hy.2.1 hy.2.2]; rfl⟩
    rw [edges3] at he
    rcases List.mem_cons.1 he with rfl | he
    · exact (int_off hy).1 ho
    rcases List.mem_cons.1 he with rfl | he
    · exact (int_off hy).2.1 ho
    · exact out2 y hy (.inl ⟨e, by rw [edges2]; exact List.mem_cons_of_mem _ he, ho⟩)
  refine ⟨?_, ?_, fun q => ?_, ?_, ?_, ?_, by simp, ?_⟩
  · intro t ht
    rcases List.mem_cons.1 ht with rfl | ht
    · exact hpos
    · exact h.pos t ht
  · intro t ht
    rcases List.mem_cons.1 ht with rfl | ht
    · simp
    · obtain ⟨a, b, c⟩ := h.mem t ht
      simp only [List.mem_cons] at a b c ⊢
      grind
  · have hex : (∃ t ∈ (p, u, s) :: ts, InT t.1 t.2.1 t.2.2 q) ↔ InT p u s q ∨ Rg (p :: s :: R) q := by
      rw [h.cov q]; simp
    rw [hex]
    constructor
    · intro hr
      by_cases hT : InT p u s q
      · exact .inl hT
      right
      rcases hr with ⟨e, he, ho⟩ | hw
      · rw [edges3] at he
        rcases List.mem_cons.1 he with rfl | he
        · exact absurd (inT_of_side hpos (.inl ho)) hT
        rcases List.mem_cons.1 he with rfl | he
        · exact absurd (inT_of_side hpos (.inr (.inl ho))) hT
        · exact .inl ⟨e, by rw [edges2]; exact List.mem_cons_of_mem _ he, ho⟩
      · right
        rw [wc, tri_out hpos hT] at hw; omega
    · rintro (hT | hr)
      · by_cases hb : ∃ e ∈ edges (p :: u :: s :: R), On e.1 e.2 q
        · exact .inl hb
        · exact .inr (ear_one hs hR hpos hno hg hT fun e he ho => hb ⟨e, he, ho⟩)
      · by_cases hT : InT p u s q
        · by_cases hb : ∃ e ∈ edges (p :: u :: s :: R), On e.1 e.2 q
          · exact .inl hb
          · exact .inr (ear_one hs hR hpos hno hg hT fun e he ho => hb ⟨e, he, ho⟩)
        · rcases hr with ⟨e, he, ho⟩ | hw
          · rw [edges2] at he
            rcases List.mem_cons.1 he with rfl | he
            · exact absurd (inT_ps hpos ho) hT
            · exact .inl ⟨e, chain_edge he, ho⟩
          · right
            rw [wc, tri_out hpos hT, hw]; rfl
  · intro t ht q hq
    rcases List.mem_cons.1 ht with rfl | ht
    · exact inEar q hq
    · exact lift q (h.int t ht q hq)
  · rw [List.pairwise_cons]
    refine ⟨fun t ht q => ⟨fun h1 h2 => out2 q h1 ((h.cov q).2 ⟨t, ht, h2⟩), fun h1 h2 => out1 q (h.int t ht q h1) h2⟩, h.uniq⟩
  · rw [ar_cut, h.sum]; simp only [tsum]; grind
  · have := h.len; simp at this ⊢; omega
end ear

/-- what may be cut off at a place of the list -/
theorem cut_at {A B : List Pt} {p u s : Pt} (h4 : 4 ≤ (A ++ u :: B).length) (hs : Simple (A ++ u :: B)) (hL : LT (A ++ u :: B)) (h1 : (p, u) ∈ edges (A ++ u :: B)) (h2 : (u, s) ∈ edges (A ++ u :: B)) (hpos : 0 < cr p u s)
    (hno : ∀ x ∈ A ++ u :: B, x ≠ p → x ≠ u → x ≠ s → ¬ InT p u s x) : Simple (A ++ B) ∧ LT (A ++ B) ∧ (∀ ts, Cov (A ++ B) ts → Cov (A ++ u :: B) ((p, u, s) :: ts)) := by
  obtain ⟨p', s', N, hN⟩ := split_at (A := A) (B := B) (u := u) (by omega)
  obtain ⟨r1, r2⟩ := rotAt (u := u) hN
  have hs' := r1.simple hs
  have e1 := hs'.to_eq (r1.2.mem_iff.1 h1) (show (p', u) ∈ _ by simp [edges3])
  have e2 := hs'.from_eq (r1.2.mem_iff.1 h2) (show (u, s') ∈ _ by simp [edges3])
  subst e1 e2
  have hd := hs'.dist
  have hR : N ≠ [] := by
    rintro rfl
    have := r1.1.length_eq
    rw [this] at h4
    simp at h4
  have hno' : ∀ x ∈ N, ¬ InT p u s x := fun x hx => hno x (r1.1.mem_iff.2 (by simp [hx])) (fun e => hd.pR (e ▸ hx)) (fun e => hd.uR (e ▸ hx)) (fun e => hd.sR (e ▸ hx))
  have hc : Cuttable p u s N := .inr ⟨hpos, hno'⟩
  have hS2 := cut_rest hs' hR hc
  have hL2 := cut_LT hs' hR hc (hL.rot r1) (fun l _ h3 h4 => h4.good h3)
  exact ⟨r2.symm.simple hS2, hL2.rot r2.symm, fun ts ht => (cov_ear hs' hR hpos hno' (hL2.good hS2) (ht.rot r2)).rot r1.symm⟩
theorem flat_at {A B : List Pt} {u : Pt} (hs : Simple (A ++ u :: B)) (hL : LT (A ++ u :: B)) (hf : Flat (A ++ u :: B) u) : Simple (A ++ B) ∧ LT (A ++ B) ∧ (∀ ts, Cov (A ++ B) ts → Cov (A ++ u :: B) ts) := by
  obtain ⟨d1, d2, d3, d4, d5⟩ := drop_one hs hf
  exact ⟨d1, (LT_iff d1).2 (by rw [← d4]; exact (LT_iff hs).1 hL), fun ts ht => cov_flat hs hf ht⟩
end Geo
