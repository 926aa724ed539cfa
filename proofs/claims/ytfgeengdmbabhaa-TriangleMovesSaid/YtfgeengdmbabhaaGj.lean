/- Straight vertices dropped from a simple polygon. -/
import Derived.Test.YtfgeengdmbabhaaGi
namespace Geo

/-- a vertex on the line through its neighbours -/
def Flat (l : List Pt) (v : Pt) : Prop := ∃ p s, (p, v) ∈ edges l ∧ (v, s) ∈ edges l ∧ cr p v s = 0
theorem Flat.rot {l m : List Pt} (r : Rot l m) {v : Pt} : Flat l v ↔ Flat m v :=
  ⟨fun ⟨p, s, h1, h2, h3⟩ => ⟨p, s, r.2.mem_iff.1 h1, r.2.mem_iff.1 h2, h3⟩, fun ⟨p, s, h1, h2, h3⟩ => ⟨p, s, r.2.mem_iff.2 h1, r.2.mem_iff.2 h2, h3⟩⟩
/-- a list cut open at a vertex -/
theorem rotAt {A B N : List Pt} {p u s : Pt} (h : B ++ A = s :: N ++ [p]) : Rot (A ++ u :: B) (p :: u :: s :: N) ∧ Rot (A ++ B) (p :: s :: N) := by
  constructor
  · have r1 := rot_app A (u :: B)
    rw [List.cons_append, h] at r1
    exact r1.trans (rot_app (u :: s :: N) [p])
  · have r1 := rot_app A B
    rw [h] at r1
    exact r1.trans (rot_app (s :: N) [p])
theorem split_at {A B : List Pt} {u : Pt} (h : 3 ≤ (A ++ u :: B).length) : ∃ p s N, B ++ A = s :: N ++ [p] := by
  have hl : 2 ≤ (B ++ A).length := by simp at h ⊢; omega
  generalize B ++ A = M at *
  match M, hl with
  | s :: y :: M', _ =>
    rcases List.eq_nil_or_concat (y :: M') with h | ⟨N, p, h⟩
    · simp at h
    · exact ⟨p, s, N, by rw [h]; simp⟩

section
variable {p u s : Pt} {R : List Pt}
theorem flat_rest (h : Simple (p :: u :: s :: R)) (hR : R ≠ []) (h0 : cr p u s = 0) {x : Pt} (hx : x ∈ p :: s :: R) : Flat (p :: s :: R) x ↔ Flat (p :: u :: s :: R) x := by
  have hd := h.dist
  have hs := flat_simple h hR h0
  obtain ⟨t, t0, t1, et⟩ := open_at (flat_on h h0) hd.pu.symm hd.us
  have xu : x ≠ u := fun e => by
    simp only [e, List.mem_cons] at hx
    rcases hx with e | e | e
    · exact hd.pu e.symm
    · exact hd.us e
    · exact hd.uR e
  constructor
  · rintro ⟨a, c, h1, h2, h3⟩
    rw [edges2] at h1 h2
    rcases List.mem_cons.1 h1 with e1 | h1 <;> rcases List.mem_cons.1 h2 with e2 | h2
    · injection e1 with e1 e1'; injection e2 with e2 e2'
      exact absurd (e2.symm.trans e1') hd.ps
    · injection e1 with e1 e1'
      subst e1 e1'
      refine ⟨u, c, by simp [edges3], chain_edge h2, ?_⟩
      have e : cr u x c = (1 - t) * cr a x c := by rw [et]; unfold cr lerp; grind
      rw [e, h3]; grind
    · injection e2 with e2 e2'
      subst e2 e2'
      refine ⟨a, u, chain_edge h1, by simp [edges3], ?_⟩
      have e : cr a x u = t * cr a x c := by rw [et]; unfold cr lerp; grind
      rw [e, h3]; grind
    · exact ⟨a, c, chain_edge h1, chain_edge h2, h3⟩
  · rintro ⟨a, c, h1, h2, h3⟩
    rw [edges3] at h1 h2
    rcases List.mem_cons.1 h1 with e1 | g1
    · injection e1 with _ e; exact absurd e xu
    rcases List.mem_cons.1 g1 with e1 | k1
    · injection e1 with e1 e1'
      rcases List.mem_cons.1 h2 with e2 | g2
      · injection e2 with e2 _; exact absurd (e2.symm.trans e1') hd.ps
      rcases List.mem_cons.1 g2 with e2 | k2
      · injection e2 with e2 _; exact absurd e2 xu
      refine ⟨p, c, by rw [edges2, e1']; simp, by rw [edges2]; exact List.mem_cons_of_mem _ k2, ?_⟩
      have e : cr a x c = (1 - t) * cr p x c := by rw [e1, e1', et]; unfold cr lerp; grind
      rw [e] at h3
      exact (Rat.mul_eq_zero.1 h3).resolve_left (by grind)
    · rcases List.mem_cons.1 h2 with e2 | g2
      · injection e2 with e2 e2'
        refine ⟨a, s, by rw [edges2]; exact List.mem_cons_of_mem _ k1, by rw [edges2, e2]; simp, ?_⟩
        have e : cr a x c = t * cr a x s := by rw [e2, e2', et]; unfold cr lerp; grind
        rw [e] at h3
        exact (Rat.mul_eq_zero.1 h3).resolve_left (by grind)
      rcases List.mem_cons.1 g2 with e2 | k2
      · injection e2 with e2 _; exact absurd e2 xu
      exact ⟨a, c, by rw [edges2]; exact List.mem_cons_of_mem _ k1, by rw [edges2]; exact List.mem_cons_of_mem _ k2, h3⟩
end

/-- a triangle has no straight vertex -/
theorem no_flat3 {l : List Pt} (h : Simple l) (hl : l.length = 3) {v : Pt} : ¬ Flat l v := by
  rintro ⟨p, s, h1, h2, h0⟩
  obtain ⟨R, r⟩ := rot3 h h1 h2
  have hR : R = [] := by
    have := r.1.length_eq
    simp at this
    exact List.eq_nil_of_length_eq_zero (by omega)
  subst hR
  have hs := r.simple h
  have hd := hs.dist
  have ho := flat_on hs h0
  rcases hs.vertex (x := v) (by simp) (e := (s, p)) (by simp [edges3, chain]) (on_comm ho) with e | e
  · exact hd.us e
  · exact hd.pu e.symm

/-- what dropping one straight vertex keeps -/
theorem drop_one {A B : List Pt} {u : Pt} (h : Simple (A ++ u :: B)) (hf : Flat (A ++ u :: B) u) :
    Simple (A ++ B) ∧ (∀ x ∈ A ++ B, Flat (A ++ B) x ↔ Flat (A ++ u :: B) x) ∧ (∀ q, w (A ++ u :: B) q = w (A ++ B) q) ∧ ar (A ++ u :: B) = ar (A ++ B) ∧ (∀ q, (∃ e ∈ edges (A ++ B), On e.1 e.2 q) ↔ ∃ e ∈ edges (A ++ u :: B), On e.1 e.2 q) := by
  have h4 : 4 ≤ (A ++ u :: B).length := by
    have h3 := h.three
    by_cases e : (A ++ u :: B).length = 3
    · exact absurd hf (no_flat3 h e)
    · omega
  obtain ⟨p, s, N, hN⟩ := split_at (A := A) (B := B) (u := u) (by omega)
  obtain ⟨r1, r2⟩ := rotAt (u := u) hN
  have hR : N ≠ [] := by
    rintro rfl
    have := r1.1.length_eq
    rw [this] at h4
    simp at h4
  have hs := r1.simple h
  have h0 : cr p u s = 0 := by
    obtain ⟨a, c, g1, g2, g3⟩ := (Flat.rot r1).1 hf
    have e1 := hs.to_eq g1 (show (p, u) ∈ _ by simp [edges3])
    have e2 := hs.from_eq g2 (show (u, s) ∈ _ by simp [edges3])
    subst e1 e2; exact g3
  have hu := flat_on hs h0
  refine ⟨r2.symm.simple (flat_simple hs hR h0), fun x hx => ?_, fun q => ?_, ?_, fun q => ?_⟩
  · rw [Flat.rot r2, Flat.rot r1]
    exact flat_rest hs hR h0 (r2.1.mem_iff.1 hx)
  · rw [w_perm r1.2, w_perm r2.2, w_flat hu]
  · rw [ar_perm r1.2, ar_perm r2.2, ar_cut, h0]; grind
  · constructor
    · rintro ⟨e, he, ho⟩
      have he' := r2.2.mem_iff.1 he
      rw [edges2] at he'
      rcases List.mem_cons.1 he' with rfl | he'
      · rcases on_split hu ho with o | o
        · exact ⟨(p, u), r1.2.mem_iff.2 (by simp [edges3]), o⟩
        · exact ⟨(u, s), r1.2.mem_iff.2 (by simp [edges3]), o⟩
      · exact ⟨e, r1.2.mem_iff.2 (chain_edge he'), ho⟩
    · rintro ⟨e, he, ho⟩
      have he' := r1.2.mem_iff.1 he
      rw [edges3] at he'
      rcases List.mem_cons.1 he' with rfl | he'
      · exact ⟨(p, s), r2.2.mem_iff.2 (by simp [edges2]), on_sub (on_left p s) hu ho⟩
      rcases List.mem_cons.1 he' with rfl | he'
      · exact ⟨(p, s), r2.2.mem_iff.2 (by simp [edges2]), on_sub hu (on_right p s) ho⟩
      · exact ⟨e, r2.2.mem_iff.2 (by rw [edges2]; exact List.mem_cons_of_mem _ he'), ho⟩

def flatB (l : List Pt) (v : Pt) : Bool := (edges l).any fun e => (edges l).any fun f => decide (e.2 = v ∧ f.1 = v ∧ cr e.1 v f.2 = 0)
theorem flatB_iff (l : List Pt) (v : Pt) : flatB l v = true ↔ Flat l v := by
  unfold flatB Flat
  simp only [List.any_eq_true, decide_eq_true_eq]
  constructor
  · rintro ⟨⟨p, v1⟩, h1, ⟨v2, s⟩, h2, h3, h4, h5⟩
    simp only at h3 h4 h5
    subst h3 h4
    exact ⟨p, s, h1, h2, h5⟩
  · rintro ⟨p, s, h1, h2, h3⟩
    exact ⟨_, h1, _, h2, rfl, rfl, h3⟩
/-- the vertices that are not straight -/
def keepF (l : List Pt) : List Pt := l.filter fun v => !flatB l v

theorem keepF_all (n : Nat) : ∀ l : List Pt, l.length = n → Simple l → Simple (keepF l) ∧ (∀ x ∈ keepF l, ¬ Flat (keepF l) x) ∧ (∀ q, w l q = w (keepF l) q) ∧ ar l = ar (keepF l) ∧ (∀ q, (∃ e ∈ edges (keepF l), On e.1 e.2 q) ↔ ∃ e ∈ edges l, On e.1 e.2 q) := by
  induction n with
  | zero => intro l hl hs; have := hs.three; omega
  | succ n ih =>
    intro l hl hs
    by_cases hf : ∃ u ∈ l, Flat l u
    · obtain ⟨u, hu, hfu⟩ := hf
      obtain ⟨A, B, rfl⟩ := List.append_of_mem hu
      obtain ⟨d1, d2, d3, d4, d5⟩ := drop_one hs hfu
      have e : keepF (A ++ u :: B) = keepF (A ++ B) := by
        unfold keepF
        have e1 : (A ++ u :: B).filter (fun v => !flatB (A ++ u :: B) v) = (A ++ B).filter (fun v => !flatB (A ++ u :: B) v) := by
          rw [List.filter_append, List.filter_append, List.filter_cons]
          simp [(flatB_iff _ _).2 hfu]
        rw [e1]
        refine List.filter_congr fun x hx => ?_
        have : flatB (A ++ B) x = flatB (A ++ u :: B) x := by rw [Bool.eq_iff_iff, flatB_iff, flatB_iff]; exact d2 x hx
        rw [this]
      obtain ⟨k1, k2, k3, k4, k5⟩ := ih (A ++ B) (by simp at hl ⊢; omega) d1
      rw [e]
      exact ⟨k1, k2, fun q => (d3 q).trans (k3 q), d4.trans k4, fun q => (k5 q).trans (d5 q)⟩
    · have e : keepF l = l := by
        unfold keepF
        rw [List.filter_eq_self]
        intro x hx
        cases hb : flatB l x with
        | false => rfl
        | true => exact absurd ⟨x, hx, (flatB_iff _ _).1 hb⟩ hf
      rw [e]
      exact ⟨hs, fun x hx h => hf ⟨x, hx, h⟩, fun q => rfl, rfl, fun q => Iff.rfl⟩
theorem keepF_simple {l : List Pt} (h : Simple l) : Simple (keepF l) := (keepF_all _ l rfl h).1
theorem keepF_strict {l : List Pt} (h : Simple l) : ∀ x ∈ keepF l, ¬ Flat (keepF l) x := (keepF_all _ l rfl h).2.1
theorem keepF_w {l : List Pt} (h : Simple l) (q : Pt) : w (keepF l) q = w l q := ((keepF_all _ l rfl h).2.2.1 q).symm
theorem keepF_ar {l : List Pt} (h : Simple l) : ar (keepF l) = ar l := (keepF_all _ l rfl h).2.2.2.1.symm
theorem keepF_on {l : List Pt} (h : Simple l) (q : Pt) : (∃ e ∈ edges (keepF l), On e.1 e.2 q) ↔ ∃ e ∈ edges l, On e.1 e.2 q := (keepF_all _ l rfl h).2.2.2.2 q
end Geo
