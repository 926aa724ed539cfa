/- Good polygons: the winding number is 0 or 1 off the boundary, known on it, and the area is positive; cutting keeps it. -/
import Derived.Test.YtfgeengdmbabhaaGe
namespace Geo

/-- sums of rationals over sides -/
def rsum (f : Pt × Pt → Rat) : List (Pt × Pt) → Rat
  | [] => 0
  | e :: l => f e + rsum f l
theorem rsum_perm (f : Pt × Pt → Rat) {l m : List (Pt × Pt)} (h : l.Perm m) : rsum f l = rsum f m := by
  induction h with
  | nil => rfl
  | cons x _ ih => simp only [rsum, ih]
  | swap x y l => simp only [rsum]; grind
  | trans _ _ h1 h2 => exact h1.trans h2
/-- twice the signed area -/
def ar (l : List Pt) : Rat := rsum (fun e => e.1.x * e.2.y - e.1.y * e.2.x) (edges l)
theorem ar_perm {l m : List Pt} (h : (edges l).Perm (edges m)) : ar l = ar m := rsum_perm _ h
theorem ar_cut (p u s : Pt) (R : List Pt) : ar (p :: u :: s :: R) = ar (p :: s :: R) + cr p u s := by
  unfold ar; rw [edges3, edges2]; simp only [rsum]; unfold cr; grind
theorem ar_tri (a b c : Pt) : ar [a, b, c] = cr a b c := by
  simp only [ar, edges, chain, List.cons_append, List.nil_append, rsum]; unfold cr; grind

structure Good (l : List Pt) : Prop where
  win : ∀ q, (∀ e ∈ edges l, ¬ On e.1 e.2 q) → w l q = 0 ∨ w l q = 1
  rim : ∀ e ∈ edges l, ∀ m, On e.1 e.2 m → m ≠ e.1 → m ≠ e.2 → w l m = D e.1 e.2
  area : 0 < ar l
theorem Good.perm {l m : List Pt} (h : Good l) (he : (edges l).Perm (edges m)) : Good m :=
  ⟨fun q hq => by rw [← w_perm he]; exact h.win q fun e hE => hq e (he.mem_iff.1 hE), fun e hE k h1 h2 h3 => by rw [← w_perm he]; exact h.rim e (he.mem_iff.2 hE) k h1 h2 h3, by rw [← ar_perm he]; exact h.area⟩

theorem w_rot3 (a b c q : Pt) : w [b, c, a] q = w [a, b, c] q := by rw [w_tri, w_tri]; omega
theorem w_rot3' (a b c q : Pt) : w [c, a, b] q = w [a, b, c] q := by rw [w_tri, w_tri]; omega

/-- a point of the closed triangle off its sides lies inside -/
theorem inT_pos {a b c q : Pt} (h : 0 < cr a b c) (hq : InT a b c q) (h1 : ¬ On a b q) (h2 : ¬ On b c q) (h3 : ¬ On c a q) : 0 < cr a b q ∧ 0 < cr b c q ∧ 0 < cr c a q := by
  obtain ⟨i1, i2, i3⟩ := hq
  have n1 : cr a b q ≠ 0 := fun e => h1 (tri_side h e i2 i3)
  have n2 : cr b c q ≠ 0 := fun e => h2 (tri_side (by rw [cr_rot]; exact h) e i3 i1)
  have n3 : cr c a q ≠ 0 := fun e => h3 (tri_side (by rw [cr_rot2]; exact h) e i1 i2)
  exact ⟨by grind, by grind, by grind⟩
theorem tri_good {a b c : Pt} (h : 0 < cr a b c) : Good [a, b, c] := by
  have he : edges [a, b, c] = [(a, b), (b, c), (c, a)] := rfl
  refine ⟨fun q hq => ?_, fun e hE m h1 h2 h3 => ?_, by rw [ar_tri]; exact h⟩
  · rw [he] at hq
    by_cases hT : InT a b c q
    · obtain ⟨i1, i2, i3⟩ := inT_pos h hT (hq (a, b) (by simp)) (hq (b, c) (by simp)) (hq (c, a) (by simp))
      exact .inr (tri_in i1 i2 i3)
    · exact .inl (tri_out h hT)
  · rw [he] at hE
    simp only [List.mem_cons, List.not_mem_nil, or_false] at hE
    rcases hE with rfl | rfl | rfl
    · exact tri_rim h h1 h2 h3
    · rw [← w_rot3]; exact tri_rim (by rw [cr_rot]; exact h) h1 h2 h3
    · rw [← w_rot3']; exact tri_rim (by rw [cr_rot2]; exact h) h1 h2 h3

/-- the middle of a segment -/
theorem mid_open {p s : Pt} (h : p ≠ s) : ∃ m, On p s m ∧ m ≠ p ∧ m ≠ s := by
  refine ⟨lerp p s (1/2), ⟨1/2, by grind, by grind, rfl⟩, fun e => h ?_, fun e => h ?_⟩
  · have x := congrArg Pt.x e; have y := congrArg Pt.y e
    simp only [lerp] at x y
    exact Pt.ext' (by grind) (by grind)
  · have x := congrArg Pt.x e; have y := congrArg Pt.y e
    simp only [lerp] at x y
    exact Pt.ext' (by grind) (by grind)
theorem inT_conv {a b c x y k : Pt} (hx : InT a b c x) (hy : InT a b c y) (hk : On x y k) : InT a b c k :=
  ⟨on_cr_ge hk hx.1 hy.1, on_cr_ge hk hx.2.1 hy.2.1, on_cr_ge hk hx.2.2 hy.2.2⟩

section ear
variable {p u s : Pt} {R : List Pt}
/-- the sum along the rest at a point of the ear -/
theorem ear_rest (h : Simple (p :: u :: s :: R)) (hR : R ≠ []) (hpos : 0 < cr p u s) (hno : ∀ x ∈ R, ¬ InT p u s x) {y m : Pt} (hy : InT p u s y) (hys : 0 < cr s p y)
    (hm : On p s m) (mp : m ≠ p) (ms : m ≠ s) : cw (s :: R ++ [p]) y = w (p :: s :: R) m - D p s - chi p s y := by
  have sw := cr_swap s p y
  have e := G_move (R := R) hm mp ms (y := y) (by grind) fun f hf k k1 k2 => by
    have hk := inT_conv hy (inT_ps hpos hm) k2
    have key : cr s p k = 0 → k = m := fun z => by
      obtain ⟨t, t0, t1, rfl⟩ := k2
      rw [cr_lerp, cr_on (on_comm hm)] at z
      have : (1 - t) * cr s p y = 0 := by grind
      have := (Rat.mul_eq_zero.1 this).resolve_right (by grind)
      have : t = 1 := by grind
      rw [this, lerp_one]
    rcases cut_free h hR hpos hno hf k1 hk with rfl | rfl
    · exact mp (key (cr_self' _ _)).symm
    · exact ms (key (cr_self _ _)).symm
  rw [e, w2, chi_line (cr_on hm)]
  omega
theorem ear_in (h : Simple (p :: u :: s :: R)) (hR : R ≠ []) (hpos : 0 < cr p u s) (hno : ∀ x ∈ R, ¬ InT p u s x) (hg : Good (p :: s :: R)) {y : Pt} (hy : InT p u s y) (hys : 0 < cr s p y) :
    w (p :: u :: s :: R) y = w [p, u, s] y := by
  obtain ⟨m, hm, mp, ms⟩ := mid_open h.dist.ps
  have e := ear_rest h hR hpos hno hy hys hm mp ms
  have r := hg.rim (p, s) (by simp [edges2]) m hm mp ms
  rw [w3, e, w_tri, chi_anti p s y]
  simp only at r
  omega
theorem ear_on (h : Simple (p :: u :: s :: R)) (hpos : 0 < cr p u s) (hg : Good (p :: s :: R)) {y : Pt} (hy : On p s y) (yp : y ≠ p) (ys : y ≠ s) : w (p :: u :: s :: R) y = 1 := by
  have r := hg.rim (p, s) (by simp [edges2]) y hy yp ys
  have t := tri_rim (a := s) (b := p) (c := u) (by rw [cr_rot2]; exact hpos) (on_comm hy) ys yp
  have d := D_swap h.dist.ps
  have z := chi_anti p s y
  rw [w_cut, r, ← w_rot3', t]
  exact d
/-- at every point of the ear that lies on no side the number is 1 -/
theorem ear_one (h : Simple (p :: u :: s :: R)) (hR : R ≠ []) (hpos : 0 < cr p u s) (hno : ∀ x ∈ R, ¬ InT p u s x) (hg : Good (p :: s :: R)) {y : Pt} (hy : InT p u s y) (hoff : ∀ e ∈ edges (p :: u :: s :: R), ¬ On e.1 e.2 y) :
    w (p :: u :: s :: R) y = 1 := by
  have o1 : ¬ On p u y := hoff (p, u) (by simp [edges3])
  have o2 : ¬ On u s y := hoff (u, s) (by simp [edges3])
  by_cases o3 : On s p y
  · exact ear_on h hpos hg (on_comm o3) (fun e => o1 (by rw [e]; exact on_left _ _)) (fun e => o2 (by rw [e]; exact on_right _ _))
  · obtain ⟨i1, i2, i3⟩ := inT_pos hpos hy o1 o2 o3
    rw [ear_in h hR hpos hno hg hy i3]
    exact tri_in i1 i2 i3
theorem ear_good (h : Simple (p :: u :: s :: R)) (hR : R ≠ []) (hpos : 0 < cr p u s) (hno : ∀ x ∈ R, ¬ InT p u s x) (hg : Good (p :: s :: R)) : Good (p :: u :: s :: R) := by
  refine ⟨fun q hq => ?_, fun e hE m h1 h2 h3 => ?_, ?_⟩
  · by_cases hT : InT p u s q
    · exact .inr (ear_one h hR hpos hno hg hT hq)
    · rw [w_cut, tri_out hpos hT, Int.add_zero]
      refine hg.win q fun e hE ho => ?_
      rw [edges2] at hE
      rcases List.mem_cons.1 hE with rfl | hE
      · exact hT (inT_ps hpos ho)
      · exact hq e (chain_edge hE) ho
  · rw [edges3] at hE
    rcases List.mem_cons.1 hE with rfl | hE
    · have t := inT_conv (a := p) (b := u) (c := s) (x := p) (y := u) ⟨by rw [cr_self]; grind, by rw [cr_rot]; grind, by rw [cr_self']; grind⟩ ⟨by rw [cr_self']; grind, by rw [cr_self]; grind, by rw [cr_rot2]; grind⟩ h1
      have c : 0 < cr s p m := by
        by_cases z : cr s p m = 0
        · exfalso
          have o := tri_side (a := s) (b := p) (c := u) (by rw [cr_rot2]; exact hpos) z t.1 t.2.1
          apply h2
          refine adj_only (a := u) (b := p) (c := s) (fun o' => ?_) (fun o' => ?_) (on_comm h1) (on_comm o)
          · rcases h.vertex (x := s) (by simp) (e := (p, u)) (by simp [edges3]) (on_comm o') with e | e
            · exact h.dist.ps e.symm
            · exact h.dist.us e.symm
          · have := cr_on o'
            have := cr_rot2 p u s
            have := cr_swap p s u
            grind
        · have := t.2.2; grind
      rw [ear_in h hR hpos hno hg t c]
      exact tri_rim hpos h1 h2 h3
    · rcases List.mem_cons.1 hE with rfl | hE
      · have t := inT_conv (a := p) (b := u) (c := s) (x := u) (y := s) ⟨by rw [cr_self']; grind, by rw [cr_self]; grind, by rw [cr_rot2]; grind⟩ ⟨by grind, by rw [cr_self']; grind, by rw [cr_self]; grind⟩ h1
        have c : 0 < cr s p m := by
          by_cases z : cr s p m = 0
          · exfalso
            have o := tri_side (a := s) (b := p) (c := u) (by rw [cr_rot2]; exact hpos) z t.1 t.2.1
            apply h3
            refine adj_only (a := u) (b := s) (c := p) (fun o' => ?_) (fun o' => ?_) h1 o
            · rcases h.vertex (x := p) (by simp) (e := (u, s)) (by simp [edges3]) o' with e | e
              · exact h.dist.pu e
              · exact h.dist.ps e
            · have := cr_on o'
              have := cr_rot2 p u s
              grind
          · have := t.2.2; grind
        rw [ear_in h hR hpos hno hg t c, ← w_rot3]
        exact tri_rim (by rw [cr_rot]; exact hpos) h1 h2 h3
      · have nT : ¬ InT p u s m := fun t => by
          rcases cut_free h hR hpos hno hE h1 t with rfl | rfl
          · exact h3 (h.p_end hE h1).symm
          · exact h2 (h.s_end hE h1).symm
        rw [w_cut, tri_out hpos nT, Int.add_zero]
        exact hg.rim e (by rw [edges2]; exact List.mem_cons_of_mem _ hE) m h1 h2 h3
  · rw [ar_cut]; have := hg.area; grind
theorem D_part {a b c d : Pt} {t : Rat} (ht : 0 < t) (hx : d.x - c.x = t * (b.x - a.x)) (hy : d.y - c.y = t * (b.y - a.y)) : D c d = D a b := by
  have y1 := mul_pos_iff' (a := t) (b := b.y - a.y)
  have y2 := mul_neg_iff (a := t) (b := b.y - a.y)
  have x1 := mul_pos_iff' (a := t) (b := b.x - a.x)
  have k1 : d.y < c.y ↔ b.y < a.y := by grind
  have k2 : d.y = c.y ↔ b.y = a.y := by grind
  have k3 : c.x < d.x ↔ a.x < b.x := by grind
  unfold D
  simp only [k1, k2, k3]
theorem flat_good (h : Simple (p :: u :: s :: R)) (h0 : cr p u s = 0) (hg : Good (p :: s :: R)) : Good (p :: u :: s :: R) := by
  have hu := flat_on h h0
  obtain ⟨t, t0, t1, et⟩ := open_at hu h.dist.pu.symm h.dist.us
  refine ⟨fun q hq => ?_, fun e hE m h1 h2 h3 => ?_, ?_⟩
  · rw [w_flat hu]
    refine hg.win q fun e hE ho => ?_
    rw [edges2] at hE
    rcases List.mem_cons.1 hE with rfl | hE
    · rcases on_split hu ho with o | o
      · exact hq (p, u) (by simp [edges3]) o
      · exact hq (u, s) (by simp [edges3]) o
    · exact hq e (chain_edge hE) ho
  · rw [w_flat hu]
    rw [edges3] at hE
    rcases List.mem_cons.1 hE with rfl | hE
    · have o := on_sub (on_left p s) hu h1
      have e := hg.rim (p, s) (by simp [edges2]) m o h2 (fun e => by
        subst e
        rcases h.vertex (x := m) (by simp) (e := (p, u)) (by simp [edges3]) h1 with e | e
        · exact h.dist.ps e.symm
        · exact h.dist.us e.symm)
      rw [e]
      simp only
      exact (D_part t0 (by rw [et]; simp only [lerp]; grind) (by rw [et]; simp only [lerp]; grind)).symm
    · rcases List.mem_cons.1 hE with rfl | hE
      · have o := on_sub hu (on_right p s) h1
        have e := hg.rim (p, s) (by simp [edges2]) m o (fun e => by
          subst e
          rcases h.vertex (x := m) (by simp) (e := (u, s)) (by simp [edges3]) h1 with e | e
          · exact h.dist.pu e
          · exact h.dist.ps e) h3
        rw [e]
        simp only
        exact (D_part (t := 1 - t) (by grind) (by rw [et]; simp only [lerp]; grind) (by rw [et]; simp only [lerp]; grind)).symm
      · exact hg.rim e (by rw [edges2]; exact List.mem_cons_of_mem _ hE) m h1 h2 h3
  · rw [ar_cut, h0]; have := hg.area; grind
end ear
end Geo
