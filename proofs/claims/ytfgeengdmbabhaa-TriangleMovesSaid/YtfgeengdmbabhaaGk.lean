/- A polygon, covered by triangles. -/
import Derived.Test.YtfgeengdmbabhaaGj
namespace Geo

/-- the closed region, and its inner part -/
def Rg (l : List Pt) (q : Pt) : Prop := (∃ e ∈ edges l, On e.1 e.2 q) ∨ w l q = 1
def Ri (l : List Pt) (q : Pt) : Prop := (∀ e ∈ edges l, ¬ On e.1 e.2 q) ∧ w l q = 1
def IntT (a b c q : Pt) : Prop := 0 < cr a b q ∧ 0 < cr b c q ∧ 0 < cr c a q
theorem Rg.rot {l m : List Pt} (r : Rot l m) (q : Pt) : Rg l q ↔ Rg m q := by
  unfold Rg; rw [w_perm r.2]
  exact or_congr ⟨fun ⟨e, h, o⟩ => ⟨e, r.2.mem_iff.1 h, o⟩, fun ⟨e, h, o⟩ => ⟨e, r.2.mem_iff.2 h, o⟩⟩ Iff.rfl
theorem Ri.rot {l m : List Pt} (r : Rot l m) (q : Pt) : Ri l q ↔ Ri m q := by
  unfold Ri; rw [w_perm r.2]
  exact and_congr ⟨fun h e he => h e (r.2.mem_iff.2 he), fun h e he => h e (r.2.mem_iff.1 he)⟩ Iff.rfl

abbrev T3 := Pt × Pt × Pt
def tsum : List T3 → Rat
  | [] => 0
  | t :: ts => cr t.1 t.2.1 t.2.2 + tsum ts
structure Cov (l : List Pt) (ts : List T3) : Prop where
  pos : ∀ t ∈ ts, 0 < cr t.1 t.2.1 t.2.2
  mem : ∀ t ∈ ts, t.1 ∈ l ∧ t.2.1 ∈ l ∧ t.2.2 ∈ l
  cov : ∀ q, Rg l q ↔ ∃ t ∈ ts, InT t.1 t.2.1 t.2.2 q
  int : ∀ t ∈ ts, ∀ q, IntT t.1 t.2.1 t.2.2 q → Ri l q
  uniq : ts.Pairwise fun t t' => ∀ q, (IntT t.1 t.2.1 t.2.2 q → ¬ InT t'.1 t'.2.1 t'.2.2 q) ∧ (IntT t'.1 t'.2.1 t'.2.2 q → ¬ InT t.1 t.2.1 t.2.2 q)
  sum : ar l = tsum ts
  one : ts ≠ []
  len : ts.length + 2 ≤ l.length
theorem Cov.rot {l m : List Pt} {ts : List T3} (r : Rot l m) (h : Cov l ts) : Cov m ts :=
  ⟨h.pos, fun t ht => by obtain ⟨a, b, c⟩ := h.mem t ht; exact ⟨r.1.mem_iff.1 a, r.1.mem_iff.1 b, r.1.mem_iff.1 c⟩, fun q => by rw [← Rg.rot r]; exact h.cov q, fun t ht q hq => (Ri.rot r q).1 (h.int t ht q hq), h.uniq, by rw [← ar_perm r.2]; exact h.sum, h.one, by rw [← r.1.length_eq]; exact h.len⟩

theorem inT_of_side {a b c q : Pt} (h : 0 < cr a b c) (ho : On a b q ∨ On b c q ∨ On c a q) : InT a b c q := by
  have c1 := cr_rot a b c; have c2 := cr_rot2 a b c
  have va : InT a b c a := ⟨by rw [cr_self]; grind, by grind, by rw [cr_self']; grind⟩
  have vb : InT a b c b := ⟨by rw [cr_self']; grind, by rw [cr_self]; grind, by grind⟩
  have vc : InT a b c c := ⟨by grind, by rw [cr_self']; grind, by rw [cr_self]; grind⟩
  rcases ho with o | o | o
  · exact inT_conv va vb o
  · exact inT_conv vb vc o
  · exact inT_conv vc va o
theorem int_off {a b c q : Pt} (hq : IntT a b c q) : ¬ On a b q ∧ ¬ On b c q ∧ ¬ On c a q := by
  obtain ⟨h1, h2, h3⟩ := hq
  refine ⟨fun o => ?_, fun o => ?_, fun o => ?_⟩
  · have := cr_on o; grind
  · have := cr_on o; grind
  · have := cr_on o; grind
theorem IntT.inT {a b c q : Pt} (h : IntT a b c q) : InT a b c q := ⟨by have := h.1; grind, by have := h.2.1; grind, by have := h.2.2; grind⟩

theorem cov_tri {a b c : Pt} (h : 0 < cr a b c) : Cov [a, b, c] [(a, b, c)] := by
  have he : edges [a, b, c] = [(a, b), (b, c), (c, a)] := rfl
  have hon : ∀ q, (∃ e ∈ edges [a, b, c], On e.1 e.2 q) ↔ (On a b q ∨ On b c q ∨ On c a q) := fun q => by rw [he]; simp
  refine ⟨?_, ?_, ?_, ?_, ?_, ?_, by simp, by simp⟩
  · intro t ht; simp at ht; subst ht; exact h
  · intro t ht; simp at ht; subst ht; simp
  · intro q
    simp only [List.mem_singleton, exists_eq_left]
    unfold Rg
    rw [hon]
    constructor
    · rintro (o | o)
      · exact inT_of_side h o
      · by_cases hT : InT a b c q
        · exact hT
        · have := tri_out h hT; omega
    · intro hT
      by_cases ho : On a b q ∨ On b c q ∨ On c a q
      · exact .inl ho
      · right
        have n1 : ¬ On a b q := fun o => ho (.inl o)
        have n2 : ¬ On b c q := fun o => ho (.inr (.inl o))
        have n3 : ¬ On c a q := fun o => ho (.inr (.inr o))
        obtain ⟨i1, i2, i3⟩ := inT_pos h hT n1 n2 n3
        exact tri_in i1 i2 i3
  · intro t ht q hq
    simp at ht; subst ht
    refine ⟨fun e hE ho => ?_, tri_in hq.1 hq.2.1 hq.2.2⟩
    obtain ⟨n1, n2, n3⟩ := int_off hq
    rw [he] at hE
    simp only [List.mem_cons, List.not_mem_nil, or_false] at hE
    rcases hE with rfl | rfl | rfl
    · exact n1 ho
    · exact n2 ho
    · exact n3 ho
  · simp
  · rw [ar_tri]; simp [tsum]; grind

/-- a straight vertex more -/
theorem cov_flat {A B : List Pt} {u : Pt} {ts : List T3} (hs : Simple (A ++ u :: B)) (hf : Flat (A ++ u :: B) u) (h : Cov (A ++ B) ts) : Cov (A ++ u :: B) ts := by
  obtain ⟨d1, d2, d3, d4, d5⟩ := drop_one hs hf
  refine ⟨h.pos, fun t ht => ?_, fun q => ?_, fun t ht q hq => ?_, h.uniq, d4.trans h.sum, h.one, by have := h.len; simp at this ⊢; omega⟩
  · obtain ⟨a, b, c⟩ := h.mem t ht
    simp only [List.mem_append, List.mem_cons] at a b c ⊢
    grind
  · rw [← h.cov q]; unfold Rg; rw [d3, d5]
  · obtain ⟨h1, h2⟩ := h.int t ht q hq
    refine ⟨fun e he ho => ?_, by rw [d3]; exact h2⟩
    obtain ⟨f, hf', ho'⟩ := (d5 q).2 ⟨e, he, ho⟩
    exact h1 f hf' ho'

section ear
variable {p u s : Pt} {R : List Pt}
/-- an ear more -/
theorem cov_ear {ts : List T3} (hs : Simple (p :: u :: s :: R)) (hR : R ≠ []) (hpos : 0 < cr p u s) (hno : ∀ x ∈ R, ¬ InT p u s x) (hg : Good (p :: s :: R)) (h : Cov (p :: s :: R) ts) : Cov (p :: u :: s :: R) ((p, u, s) :: ts) := by
  have wc := w_cut p u s R
  -- in the ear, off the cut, the rest counts nothing
  have z0 : ∀ y, InT p u s y → 0 < cr s p y → w (p :: s :: R) y = 0 := fun y hy h3 => by
    have := ear_in hs hR hpos hno hg hy h3
    have := wc y
    omega
  have onps : ∀ y, InT p u s y → ¬ 0 < cr s p y → On p s y := fun y hy h3 => on_comm (tri_side (a := s) (b := p) (c := u) (by rw [cr_rot2]; exact hpos) (by have := hy.2.2; grind) hy.1 hy.2.1)
  -- points inside the rest lie outside of the ear
  have out1 : ∀ y, Ri (p :: s :: R) y → ¬ InT p u s y := fun y hy hT => by
    by_cases h3 : 0 < cr s p y
    · have := z0 y hT h3; have := hy.2; omega
    · exact hy.1 (p, s) (by simp [edges2]) (onps y hT h3)
  -- inner points of the ear lie outside of the rest
  have out2 : ∀ y, IntT p u s y → ¬ Rg (p :: s :: R) y := fun y hy hr => by
    rcases hr with ⟨e, he, ho⟩ | hw
    · rw [edges2] at he
      rcases List.mem_cons.1 he with rfl | he
      · exact (int_off hy).2.2 (on_comm ho)
      · rcases cut_free hs hR hpos hno he ho hy.inT with rfl | rfl
        · have := hy.1; rw [cr_self] at this; grind
        · have := hy.2.1; rw [cr_self'] at this; grind
    · have := z0 y hy.inT hy.2.2; omega
  have lift : ∀ y, Ri (p :: s :: R) y → Ri (p :: u :: s :: R) y := fun y hy => by
    have hT := out1 y hy
    refine ⟨fun e he ho => ?_, by rw [wc, tri_out hpos hT, hy.2]; rfl⟩
    rw [edges3] at he
    rcases List.mem_cons.1 he with rfl | he
    · exact hT (inT_of_side hpos (.inl ho))
    rcases List.mem_cons.1 he with rfl | he
    · exact hT (inT_of_side hpos (.inr (.inl ho)))
    · exact hy.1 e (by rw [edges2]; exact List.mem_cons_of_mem _ he) ho
  have inEar : ∀ y, IntT p u s y → Ri (p :: u :: s :: R) y := fun y hy => by
    refine ⟨fun e he ho => ?_, by rw [wc, z0 y hy.inT hy.2.2, tri_in hy.1 hy.2.1 hy.2.2]; rfl⟩
    rw [edges3] at he
    rcases List.mem_cons.1 he with rfl | he
    · exact (int_off hy).1 ho
    rcases List.mem_cons.1 he with rfl | he
    · exact (int_off hy).2.1 ho
    · exact out2 y hy (.inl ⟨e, by rw [edges2]; exact List.mem_cons_of_mem _ he, ho⟩)
  refine ⟨?_, ?_, fun q => ?_, ?_, ?_, ?_, by simp, ?_⟩
  · intro t ht
    rcases List.mem_cons.1 ht with rfl | ht
    · exact hpos
    · exact h.pos t ht
  · intro t ht
    rcases List.mem_cons.1 ht with rfl | ht
    · simp
    · obtain ⟨a, b, c⟩ := h.mem t ht
      simp only [List.mem_cons] at a b c ⊢
      grind
  · have hex : (∃ t ∈ (p, u, s) :: ts, InT t.1 t.2.1 t.2.2 q) ↔ InT p u s q ∨ Rg (p :: s :: R) q := by
      rw [h.cov q]; simp
    rw [hex]
    constructor
    · intro hr
      by_cases hT : InT p u s q
      · exact .inl hT
      right
      rcases hr with ⟨e, he, ho⟩ | hw
      · rw [edges3] at he
        rcases List.mem_cons.1 he with rfl | he
        · exact absurd (inT_of_side hpos (.inl ho)) hT
        rcases List.mem_cons.1 he with rfl | he
        · exact absurd (inT_of_side hpos (.inr (.inl ho))) hT
        · exact .inl ⟨e, by rw [edges2]; exact List.mem_cons_of_mem _ he, ho⟩
      · right
        rw [wc, tri_out hpos hT] at hw; omega
    · rintro (hT | hr)
      · by_cases hb : ∃ e ∈ edges (p :: u :: s :: R), On e.1 e.2 q
        · exact .inl hb
        · exact .inr (ear_one hs hR hpos hno hg hT fun e he ho => hb ⟨e, he, ho⟩)
      · by_cases hT : InT p u s q
        · by_cases hb : ∃ e ∈ edges (p :: u :: s :: R), On e.1 e.2 q
          · exact .inl hb
          · exact .inr (ear_one hs hR hpos hno hg hT fun e he ho => hb ⟨e, he, ho⟩)
        · rcases hr with ⟨e, he, ho⟩ | hw
          · rw [edges2] at he
            rcases List.mem_cons.1 he with rfl | he
            · exact absurd (inT_ps hpos ho) hT
            · exact .inl ⟨e, chain_edge he, ho⟩
          · right
            rw [wc, tri_out hpos hT, hw]; rfl
  · intro t ht q hq
    rcases List.mem_cons.1 ht with rfl | ht
    · exact inEar q hq
    · exact lift q (h.int t ht q hq)
  · rw [List.pairwise_cons]
    refine ⟨fun t ht q => ⟨fun h1 h2 => out2 q h1 ((h.cov q).2 ⟨t, ht, h2⟩), fun h1 h2 => out1 q (h.int t ht q h1) h2⟩, h.uniq⟩
  · rw [ar_cut, h.sum]; simp only [tsum]; grind
  · have := h.len; simp at this ⊢; omega
end ear

/-- what may be cut off at a place of the list -/
theorem cut_at {A B : List Pt} {p u s : Pt} (h4 : 4 ≤ (A ++ u :: B).length) (hs : Simple (A ++ u :: B)) (hL : LT (A ++ u :: B)) (h1 : (p, u) ∈ edges (A ++ u :: B)) (h2 : (u, s) ∈ edges (A ++ u :: B)) (hpos : 0 < cr p u s)
    (hno : ∀ x ∈ A ++ u :: B, x ≠ p → x ≠ u → x ≠ s → ¬ InT p u s x) : Simple (A ++ B) ∧ LT (A ++ B) ∧ (∀ ts, Cov (A ++ B) ts → Cov (A ++ u :: B) ((p, u, s) :: ts)) := by
  obtain ⟨p', s', N, hN⟩ := split_at (A := A) (B := B) (u := u) (by omega)
  obtain ⟨r1, r2⟩ := rotAt (u := u) hN
  have hs' := r1.simple hs
  have e1 := hs'.to_eq (r1.2.mem_iff.1 h1) (show (p', u) ∈ _ by simp [edges3])
  have e2 := hs'.from_eq (r1.2.mem_iff.1 h2) (show (u, s') ∈ _ by simp [edges3])
  subst e1 e2
  have hd := hs'.dist
  have hR : N ≠ [] := by
    rintro rfl
    have := r1.1.length_eq
    rw [this] at h4
    simp at h4
  have hno' : ∀ x ∈ N, ¬ InT p u s x := fun x hx => hno x (r1.1.mem_iff.2 (by simp [hx])) (fun e => hd.pR (e ▸ hx)) (fun e => hd.uR (e ▸ hx)) (fun e => hd.sR (e ▸ hx))
  have hc : Cuttable p u s N := .inr ⟨hpos, hno'⟩
  have hS2 := cut_rest hs' hR hc
  have hL2 := cut_LT hs' hR hc (hL.rot r1) (fun l _ h3 h4 => h4.good h3)
  exact ⟨r2.symm.simple hS2, hL2.rot r2.symm, fun ts ht => (cov_ear hs' hR hpos hno' (hL2.good hS2) (ht.rot r2)).rot r1.symm⟩
theorem flat_at {A B : List Pt} {u : Pt} (hs : Simple (A ++ u :: B)) (hL : LT (A ++ u :: B)) (hf : Flat (A ++ u :: B) u) : Simple (A ++ B) ∧ LT (A ++ B) ∧ (∀ ts, Cov (A ++ B) ts → Cov (A ++ u :: B) ts) := by
  obtain ⟨d1, d2, d3, d4, d5⟩ := drop_one hs hf
  exact ⟨d1, (LT_iff d1).2 (by rw [← d4]; exact (LT_iff hs).1 hL), fun ts ht => cov_flat hs hf ht⟩
end Geo
