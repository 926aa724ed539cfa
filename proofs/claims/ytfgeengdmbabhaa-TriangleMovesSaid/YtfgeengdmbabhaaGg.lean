/- The turn at the top vertex; what a cut keeps of it. -/
import Derived.Test.YtfgeengdmbabhaaGf
namespace Geo

/-- the same closed list, begun elsewhere -/
def Rot (l m : List Pt) : Prop := l.Perm m ∧ (edges l).Perm (edges m)
theorem Rot.refl (l : List Pt) : Rot l l := ⟨.refl _, .refl _⟩
theorem Rot.symm {l m : List Pt} (h : Rot l m) : Rot m l := ⟨h.1.symm, h.2.symm⟩
theorem Rot.trans {l m n : List Pt} (h : Rot l m) (k : Rot m n) : Rot l n := ⟨h.1.trans k.1, h.2.trans k.2⟩
theorem Rot.simple {l m : List Pt} (h : Rot l m) (hs : Simple l) : Simple m := hs.perm h.1 h.2
theorem Rot.good {l m : List Pt} (h : Rot l m) (hs : Good l) : Good m := hs.perm h.2
theorem rot_app (l m : List Pt) : Rot (l ++ m) (m ++ l) := ⟨List.perm_append_comm, edges_rot l m⟩

theorem rot3 {l : List Pt} (h : Simple l) {p u s : Pt} (h1 : (p, u) ∈ edges l) (h2 : (u, s) ∈ edges l) : ∃ R, Rot l (p :: u :: s :: R) := by
  obtain ⟨l1, l2, rfl⟩ := List.append_of_mem (edges_fst_mem h2)
  have r1 := rot_app l1 (u :: l2)
  rw [List.cons_append] at r1
  have hl := h.three
  generalize hM : l2 ++ l1 = M at r1
  have hlen : M.length + 1 = (l1 ++ u :: l2).length := by rw [← hM]; simp; omega
  match M, r1, hlen with
  | [], _, hlen => simp at hlen hl; omega
  | [x], _, hlen => simp at hlen hl; omega
  | s' :: y :: M', r1, _ =>
    have e1 : s' = s := h.from_eq (r1.2.mem_iff.2 (by rw [show edges (u :: s' :: y :: M') = (u, s') :: chain (s' :: (y :: M') ++ [u]) from rfl]; simp)) h2
    subst e1
    obtain ⟨N, p', hN⟩ : ∃ N p', y :: M' = N ++ [p'] := by
      rcases List.eq_nil_or_concat (y :: M') with h | ⟨N, p', h⟩
      · simp at h
      · exact ⟨N, p', by simpa using h⟩
    rw [hN] at r1
    have r2 := r1.trans (rot_app (u :: s' :: N) [p'])
    have e2 : p' = p := h.to_eq (r2.2.mem_iff.2 (by simp [edges3])) h1
    subst e2
    exact ⟨N, r2⟩

/-- the highest vertex, of these the rightmost one -/
def Low (x v : Pt) : Prop := x.y < v.y ∨ (x.y = v.y ∧ x.x ≤ v.x)
def Top (l : List Pt) (v : Pt) : Prop := v ∈ l ∧ ∀ x ∈ l, Low x v
theorem top_exists {l : List Pt} (h : l ≠ []) : ∃ v, Top l v := by
  induction l with
  | nil => exact absurd rfl h
  | cons a l ih =>
    by_cases hl : l = []
    · subst hl; exact ⟨a, by simp, fun x hx => by simp at hx; subst hx; unfold Low; grind⟩
    · obtain ⟨v, hv, ht⟩ := ih hl
      by_cases hc : Low a v
      · exact ⟨v, List.mem_cons_of_mem _ hv, fun x hx => by rcases List.mem_cons.1 hx with rfl | hx; exact hc; exact ht x hx⟩
      · refine ⟨a, List.mem_cons_self .., fun x hx => ?_⟩
        rcases List.mem_cons.1 hx with rfl | hx
        · unfold Low; grind
        · have := ht x hx; unfold Low at *; grind
theorem top_unique {l : List Pt} {v v' : Pt} (h : Top l v) (h' : Top l v') : v = v' := by
  have h1 := h.2 _ h'.1
  have h2 := h'.2 _ h.1
  unfold Low at *
  exact Pt.ext' (by grind) (by grind)
theorem Top.perm {l m : List Pt} (h : l.Perm m) {v : Pt} (ht : Top l v) : Top m v := ⟨h.mem_iff.1 ht.1, fun x hx => ht.2 x (h.mem_iff.2 hx)⟩

theorem off_top {a c v : Pt} (ha : Low a v) (hc : Low c v) (na : a ≠ v) (nc : c ≠ v) : ¬ On a c v := by
  intro h
  have na' : ¬ (a.x = v.x ∧ a.y = v.y) := fun ⟨h1, h2⟩ => na (Pt.ext' h1 h2)
  have nc' : ¬ (c.x = v.x ∧ c.y = v.y) := fun ⟨h1, h2⟩ => nc (Pt.ext' h1 h2)
  obtain ⟨t, t0, t1, e⟩ := open_at h na.symm nc.symm
  unfold Low at ha hc
  have ex := congrArg Pt.x e; have ey := congrArg Pt.y e
  simp only [lerp] at ex ey
  have y1 := Rat.mul_nonneg (a := 1 - t) (b := v.y - a.y) (by grind) (by grind)
  have y2 := Rat.mul_nonneg (a := t) (b := v.y - c.y) (by grind) (by grind)
  have z1 : (1 - t) * (v.y - a.y) = 0 := by grind
  have z2 : t * (v.y - c.y) = 0 := by grind
  have ya := (Rat.mul_eq_zero.1 z1).resolve_left (by grind)
  have yc := (Rat.mul_eq_zero.1 z2).resolve_left (by grind)
  have x1 := Rat.mul_pos (a := 1 - t) (b := v.x - a.x) (by grind) (by grind)
  have x2 := Rat.mul_pos (a := t) (b := v.x - c.x) (by grind) (by grind)
  grind
/-- the top vertex lies in no triangle of other vertices -/
theorem top_out {p u s v : Pt} (hpos : 0 < cr p u s) (hp : Low p v) (hu : Low u v) (hs : Low s v) (np : p ≠ v) (nu : u ≠ v) (ns : s ≠ v) : ¬ InT p u s v := by
  rintro ⟨i1, i2, i3⟩
  have np' : ¬ (p.x = v.x ∧ p.y = v.y) := fun ⟨h1, h2⟩ => np (Pt.ext' h1 h2)
  have nu' : ¬ (u.x = v.x ∧ u.y = v.y) := fun ⟨h1, h2⟩ => nu (Pt.ext' h1 h2)
  have ns' : ¬ (s.x = v.x ∧ s.y = v.y) := fun ⟨h1, h2⟩ => ns (Pt.ext' h1 h2)
  have hsum := cr_sum p u s v
  have by1 := tri_bary p u s v
  have bx1 := tri_baryx p u s v
  unfold Low at hp hu hs
  generalize cr p u v = A at *
  generalize cr u s v = B at *
  generalize cr s p v = C at *
  have g1 := Rat.mul_nonneg (a := B) (b := v.y - p.y) i2 (by grind)
  have g2 := Rat.mul_nonneg (a := C) (b := v.y - u.y) i3 (by grind)
  have g3 := Rat.mul_nonneg (a := A) (b := v.y - s.y) i1 (by grind)
  have z1 : B * (v.y - p.y) = 0 := by grind
  have z2 : C * (v.y - u.y) = 0 := by grind
  have z3 : A * (v.y - s.y) = 0 := by grind
  have k1 : 0 ≤ B * (v.x - p.x) ∧ (B ≠ 0 → 0 < B * (v.x - p.x)) := by
    rcases Rat.mul_eq_zero.1 z1 with h | h
    · subst h; exact ⟨by grind, fun h => absurd rfl h⟩
    · exact ⟨Rat.mul_nonneg i2 (by grind), fun h' => Rat.mul_pos (by grind) (by grind)⟩
  have k2 : 0 ≤ C * (v.x - u.x) ∧ (C ≠ 0 → 0 < C * (v.x - u.x)) := by
    rcases Rat.mul_eq_zero.1 z2 with h | h
    · subst h; exact ⟨by grind, fun h => absurd rfl h⟩
    · exact ⟨Rat.mul_nonneg i3 (by grind), fun h' => Rat.mul_pos (by grind) (by grind)⟩
  have k3 : 0 ≤ A * (v.x - s.x) ∧ (A ≠ 0 → 0 < A * (v.x - s.x)) := by
    rcases Rat.mul_eq_zero.1 z3 with h | h
    · subst h; exact ⟨by grind, fun h => absurd rfl h⟩
    · exact ⟨Rat.mul_nonneg i1 (by grind), fun h' => Rat.mul_pos (by grind) (by grind)⟩
  by_cases hB : B = 0
  · by_cases hC : C = 0
    · have := k3.2 (by grind); grind
    · have := k2.2 hC; grind
  · have := k1.2 hB; grind

theorem low_of {l : List Pt} {v x : Pt} (h : Top l v) (hx : x ∈ l) : Low x v := h.2 x hx

theorem top_bend {l : List Pt} (h : Simple l) {a v c : Pt} (h1 : (a, v) ∈ edges l) (h2 : (v, c) ∈ edges l) (ht : Top l v) : cr a v c ≠ 0 := by
  intro h0
  obtain ⟨R, r⟩ := rot3 h h1 h2
  have hs := r.simple h
  have hd := hs.dist
  exact off_top (ht.2 _ (edges_fst_mem h1)) (ht.2 _ (edges_snd_mem h2)) hd.pu hd.us.symm (flat_on hs h0)

/-- a turn to the left at the top vertex -/
def LT (l : List Pt) : Prop := ∀ a v c, (a, v) ∈ edges l → (v, c) ∈ edges l → Top l v → 0 < cr a v c
theorem LT.rot {l m : List Pt} (h : LT l) (r : Rot l m) : LT m := fun a v c h1 h2 ht => h a v c (r.2.mem_iff.2 h1) (r.2.mem_iff.2 h2) (ht.perm r.1.symm)
theorem mem_edges_rev {l : List Pt} {a b : Pt} : (a, b) ∈ edges l.reverse ↔ (b, a) ∈ edges l := by
  rw [(edges_reverse l).mem_iff, List.mem_map]
  constructor
  · rintro ⟨x, hx, he⟩
    have : x = (b, a) := by rw [← Prod.swap_swap x, he]; rfl
    rw [← this]; exact hx
  · intro hx; exact ⟨(b, a), hx, rfl⟩
theorem LT_rev {l : List Pt} (h : Simple l) (hn : ¬ LT l) : LT l.reverse := by
  intro a v c h1 h2 ht
  rw [mem_edges_rev] at h1 h2
  have ht' : Top l v := ht.perm (List.reverse_perm l)
  have hb := top_bend h h2 h1 ht'
  by_cases hc : 0 < cr a v c; · exact hc
  exfalso
  apply hn
  intro a' v' c' h1' h2' ht''
  have := top_unique ht' ht''
  subst this
  have e1 := h.to_eq h1' h2
  have e2 := h.from_eq h2' h1
  subst e1 e2
  unfold cr at *
  grind
theorem w_rev (l : List Pt) (q : Pt) : w l.reverse q = - w l q := by
  unfold w
  rw [esum_perm _ (edges_reverse l), esum_map, ← esum_neg]
  exact esum_congr fun e _ => by simp only [Prod.fst_swap, Prod.snd_swap]; exact chi_anti _ _ _
theorem rsum_swap (l : List (Pt × Pt)) : rsum (fun e => e.1.x * e.2.y - e.1.y * e.2.x) (l.map Prod.swap) = - rsum (fun e => e.1.x * e.2.y - e.1.y * e.2.x) l := by
  induction l with
  | nil => simp [rsum]
  | cons e l ih => simp only [List.map_cons, rsum, ih, Prod.fst_swap, Prod.snd_swap]; grind
theorem ar_rev (l : List Pt) : ar l.reverse = - ar l := by
  unfold ar; rw [rsum_perm _ (edges_reverse l), rsum_swap]

section cut
variable {p u s : Pt} {R : List Pt}
theorem cw_top {l : List Pt} {v : Pt} (h : ∀ x ∈ l, x.y ≤ v.y) : cw l v = 0 := by
  refine esum_none fun e he => ?_
  have hm : e.1 ∈ l ∧ e.2 ∈ l := by
    obtain ⟨i, hi, rfl⟩ := List.getElem_of_mem he
    rw [chain_getElem]
    exact ⟨List.getElem_mem _, List.getElem_mem _⟩
  exact chi_above (h _ hm.1) (h _ hm.2)
theorem low_y {x v : Pt} (h : Low x v) : x.y ≤ v.y := by unfold Low at h; grind

/-- what may be cut off -/
def Cuttable (p u s : Pt) (R : List Pt) : Prop := cr p u s = 0 ∨ (0 < cr p u s ∧ ∀ x ∈ R, ¬ InT p u s x)
theorem cut_rest (h : Simple (p :: u :: s :: R)) (hR : R ≠ []) (hc : Cuttable p u s R) : Simple (p :: s :: R) := by
  rcases hc with h0 | ⟨hpos, hno⟩
  · exact flat_simple h hR h0
  · exact ear_simple h hR hpos hno
theorem cut_good (h : Simple (p :: u :: s :: R)) (hR : R ≠ []) (hc : Cuttable p u s R) (hg : Good (p :: s :: R)) : Good (p :: u :: s :: R) := by
  rcases hc with h0 | ⟨hpos, hno⟩
  · exact flat_good h h0 hg
  · exact ear_good h hR hpos hno hg

theorem cut_LT (h : Simple (p :: u :: s :: R)) (hR : R ≠ []) (hc : Cuttable p u s R) (hL : LT (p :: u :: s :: R)) (ih : ∀ l : List Pt, l.length = R.length + 2 → Simple l → LT l → Good l) : LT (p :: s :: R) := by
  have hs := cut_rest h hR hc
  have hd := h.dist
  by_cases hu : Top (p :: u :: s :: R) u
  · by_cases hn : LT (p :: s :: R); · exact hn
    exfalso
    rcases hc with h0 | ⟨hpos, hno⟩
    · exact top_bend h (by simp [edges3]) (by simp [edges3]) hu h0
    have hg := ih (p :: s :: R).reverse (by simp) hs.reverse (LT_rev hs hn)
    obtain ⟨m, hm, mp, ms⟩ := mid_open hd.ps
    have r := hg.rim (s, p) (mem_edges_rev.2 (by simp [edges2])) m (on_comm hm) ms mp
    rw [w_rev] at r
    have e := ear_rest h hR hpos hno (y := u) ⟨by rw [cr_self']; grind, by rw [cr_self]; grind, by rw [cr_rot2]; grind⟩ (by rw [cr_rot2]; exact hpos) hm mp ms
    have z1 : cw (s :: R ++ [p]) u = 0 := cw_top fun x hx => low_y (hu.2 x (by
      simp only [List.cons_append, List.mem_cons, List.mem_append, List.not_mem_nil, or_false] at hx ⊢
      grind))
    have z2 : chi p s u = 0 := chi_above (low_y (hu.2 p (by simp))) (low_y (hu.2 s (by simp)))
    have d := D_swap hd.ps
    simp only at r
    omega
  · intro a v c h1 h2 ht
    obtain ⟨v0, hv0⟩ := top_exists (l := p :: u :: s :: R) (by simp)
    have hv : v0 = v := by
      have n : v0 ≠ u := fun e => hu (e ▸ hv0)
      refine top_unique (l := p :: s :: R) ⟨?_, fun x hx => hv0.2 x ?_⟩ ht
      · have := hv0.1
        simp only [List.mem_cons] at this ⊢
        grind
      · simp only [List.mem_cons] at hx ⊢
        grind
    subst hv
    have hb := top_bend hs h1 h2 ht
    rw [edges2] at h1 h2
    rcases List.mem_cons.1 h1 with e1 | h1
    · injection e1 with e1 e1'
      subst e1 e1'
      rcases List.mem_cons.1 h2 with e2 | h2
      · injection e2 with e2 _; exact absurd e2.symm hd.ps
      have l := hL u v0 c (by simp [edges3]) (chain_edge h2) hv0
      rcases hc with h0 | ⟨hpos, hno⟩
      · obtain ⟨t, t0, t1, et⟩ := open_at (flat_on h h0) hd.pu.symm hd.us
        have e : cr u v0 c = (1 - t) * cr a v0 c := by rw [et]; unfold cr lerp; grind
        rw [e, mul_pos_iff'] at l
        grind
      · by_cases hp : 0 < cr a v0 c; · exact hp
        exfalso
        have hcR : c ∈ R := by
          rcases List.mem_append.1 (chain_mem h2).2 with x | x
          · exact x
          · simp at x; subst x; exact (h.no_sp hR h2).elim
        have n1 : ¬ InT a u v0 c := hno c hcR
        have n2 : cr a u c < 0 := by
          have := cr_swap a v0 c
          unfold InT at n1; grind
        obtain ⟨k, o, z⟩ := cross_zero (s := a) (t := u) (a := v0) (b := c) (by grind) (by grind)
        have ok := tri_side hpos z (on_cr_ge o (by rw [cr_self']; grind) (by grind)) (on_cr_ge o (by rw [cr_self]; grind) (by have := cr_swap a v0 c; grind))
        have := h.on_pu h2 o ok
        subst this
        have := h.p_end h2 o
        simp only at this
        subst this
        exact hd.pR hcR
    · rcases List.mem_cons.1 h2 with e2 | h2
      · injection e2 with e2 e2'
        subst e2 e2'
        have l := hL a v0 u (chain_edge h1) (by simp [edges3]) hv0
        rcases hc with h0 | ⟨hpos, hno⟩
        · obtain ⟨t, t0, t1, et⟩ := open_at (flat_on h h0) hd.pu.symm hd.us
          have e : cr a v0 u = t * cr a v0 c := by rw [et]; unfold cr lerp; grind
          rw [e, mul_pos_iff'] at l
          grind
        · by_cases hp : 0 < cr a v0 c; · exact hp
          exfalso
          have haR : a ∈ R := by
            rcases List.mem_cons.1 (chain_mem h1).1 with x | x
            · simp only at x; subst x; exact (h.no_sp hR h1).elim
            · exact x
          have n1 : ¬ InT v0 u c a := hno a haR
          have r1 := cr_rot a v0 u
          have r2 := cr_rot2 a v0 c
          have r3 := cr_swap v0 c a
          have r4 := cr_rot a v0 c
          have n2 : cr u c a < 0 := by unfold InT at n1; grind
          obtain ⟨k, o, z⟩ := cross_zero (s := u) (t := c) (a := v0) (b := a) (by rw [cr_rot]; grind) (by grind)
          have ok := tri_side (a := u) (b := c) (c := v0) (by rw [cr_rot]; exact hpos) z (on_cr_ge o (by rw [cr_self']; grind) (by grind)) (on_cr_ge o (by rw [cr_self]; grind) (by grind))
          have := h.on_us h1 (on_comm o) ok
          subst this
          have := h.s_end h1 (on_comm o)
          simp only at this
          subst this
          exact hd.sR haR
      · exact hL a v0 c (chain_edge h1) (chain_edge h2) hv0
end cut
end Geo
