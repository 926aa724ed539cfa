import Derived.Test.YtfgeengdmbabhaaB2
/- Plain geometry: moves, turns and mirror images of polygons. -/
namespace Geo

structure Aff where
  a : Rat
  b : Rat
  c : Rat
  d : Rat
  e : Rat
  f : Rat
def Aff.ap (T : Aff) (p : Pt) : Pt := ⟨T.a * p.x + T.b * p.y + T.e, T.c * p.x + T.d * p.y + T.f⟩
def Aff.det (T : Aff) : Rat := T.a * T.d - T.b * T.c
theorem Aff.cr_ap (T : Aff) (p q r : Pt) : cr (T.ap p) (T.ap q) (T.ap r) = T.det * cr p q r := by unfold cr Aff.ap Aff.det; grind
theorem Aff.lerp_ap (T : Aff) (p q : Pt) (k : Rat) : T.ap (lerp p q k) = lerp (T.ap p) (T.ap q) k := by
  apply Pt.ext' <;> simp only [lerp, Aff.ap] <;> grind
theorem Aff.inj {T : Aff} (h : T.det ≠ 0) {p q : Pt} (e : T.ap p = T.ap q) : p = q := by
  unfold Aff.ap at e
  injection e with e1 e2
  have x : T.det * (p.x - q.x) = 0 := by unfold Aff.det; grind
  have y : T.det * (p.y - q.y) = 0 := by unfold Aff.det; grind
  apply Pt.ext'
  · rcases Rat.mul_eq_zero.1 x with g | g
    · exact absurd g h
    · grind
  · rcases Rat.mul_eq_zero.1 y with g | g
    · exact absurd g h
    · grind
theorem Aff.surj {T : Aff} (h : T.det = 1 ∨ T.det = -1) (q : Pt) : ∃ p, T.ap p = q := by
  refine ⟨⟨T.det * (T.d * (q.x - T.e) - T.b * (q.y - T.f)), T.det * (T.a * (q.y - T.f) - T.c * (q.x - T.e))⟩, ?_⟩
  have hd : T.det * T.det = 1 := by rcases h with h | h <;> rw [h] <;> grind
  apply Pt.ext'
  · simp only [Aff.ap]
    have : T.a * (T.det * (T.d * (q.x - T.e) - T.b * (q.y - T.f))) + T.b * (T.det * (T.a * (q.y - T.f) - T.c * (q.x - T.e))) = T.det * T.det * (q.x - T.e) := by unfold Aff.det; grind
    rw [this, hd]; grind
  · simp only [Aff.ap]
    have : T.c * (T.det * (T.d * (q.x - T.e) - T.b * (q.y - T.f))) + T.d * (T.det * (T.a * (q.y - T.f) - T.c * (q.x - T.e))) = T.det * T.det * (q.y - T.f) := by unfold Aff.det; grind
    rw [this, hd]; grind
theorem Aff.on_ap {T : Aff} (h : T.det ≠ 0) {p q r : Pt} : On (T.ap p) (T.ap q) (T.ap r) ↔ On p q r := by
  constructor
  · rintro ⟨t, t0, t1, e⟩
    rw [← T.lerp_ap] at e
    exact ⟨t, t0, t1, T.inj h e⟩
  · rintro ⟨t, t0, t1, rfl⟩
    exact ⟨t, t0, t1, T.lerp_ap _ _ _⟩

/-- a move, and whether it mirrors -/
structure Mv where
  T : Aff
  rev : Bool
  det : T.det = if rev then -1 else 1
theorem Mv.ne (M : Mv) : M.T.det ≠ 0 := by rw [M.det]; split <;> grind
theorem Mv.one (M : Mv) : M.T.det = 1 ∨ M.T.det = -1 := by rw [M.det]; split <;> simp
/-- the image of a polygon, its orientation kept -/
def Mv.im (M : Mv) (l : List Pt) : List Pt := if M.rev then (l.map M.T.ap).reverse else l.map M.T.ap
def Mv.ti (M : Mv) (t : T3) : T3 := if M.rev then (M.T.ap t.2.2, M.T.ap t.2.1, M.T.ap t.1) else (M.T.ap t.1, M.T.ap t.2.1, M.T.ap t.2.2)

theorem Rot.map (f : Pt → Pt) {l m : List Pt} (h : Rot l m) : Rot (l.map f) (m.map f) := ⟨h.1.map f, by rw [edges_map, edges_map]; exact h.2.map _⟩
theorem Rot.reverse {l m : List Pt} (h : Rot l m) : Rot l.reverse m.reverse :=
  ⟨(List.reverse_perm l).trans (h.1.trans (List.reverse_perm m).symm), (edges_reverse l).trans ((h.2.map _).trans (edges_reverse m).symm)⟩
theorem Mv.rot (M : Mv) {l m : List Pt} (h : Rot l m) : Rot (M.im l) (M.im m) := by
  unfold Mv.im
  split
  · exact (h.map _).reverse
  · exact h.map _
theorem simple_map {T : Aff} (h : T.det ≠ 0) {l : List Pt} (hs : Simple l) : Simple (l.map T.ap) := by
  refine ⟨by simpa using hs.three, ?_, ?_⟩
  · unfold List.Nodup
    rw [List.pairwise_map]
    exact hs.nodup.imp fun hab e => hab (T.inj h e)
  · intro e he f hf hne p o1 o2
    rw [edges_map] at he hf
    obtain ⟨e', he', rfl⟩ := List.mem_map.1 he
    obtain ⟨f', hf', rfl⟩ := List.mem_map.1 hf
    obtain ⟨t, t0, t1, rfl⟩ := o1
    simp only [Prod.map_fst, Prod.map_snd] at o2 ⊢
    rw [← T.lerp_ap] at o2 ⊢
    rw [T.on_ap h] at o2
    rcases hs.apart e' he' f' hf' (fun e => hne (by rw [e])) _ ⟨t, t0, t1, rfl⟩ o2 with ⟨a, b⟩ | ⟨a, b⟩
    · exact .inl ⟨by rw [a], by rw [b]⟩
    · exact .inr ⟨by rw [a], by rw [b]⟩
theorem Mv.simple (M : Mv) {l : List Pt} (hs : Simple l) : Simple (M.im l) := by
  unfold Mv.im
  split
  · exact (simple_map M.ne hs).reverse
  · exact simple_map M.ne hs
theorem ar_map (T : Aff) (R : List Pt) : ∀ p u s : Pt, ar ((p :: u :: s :: R).map T.ap) = T.det * ar (p :: u :: s :: R) := by
  induction R with
  | nil => intro p u s; simp only [List.map_cons, List.map_nil]; rw [ar_tri, ar_tri, T.cr_ap]
  | cons r R ih =>
    intro p u s
    have := ih p s r
    simp only [List.map_cons] at this ⊢
    rw [ar_cut, ar_cut p u s, this, T.cr_ap]; grind
theorem Mv.area (M : Mv) {l : List Pt} (h3 : 3 ≤ l.length) : ar (M.im l) = ar l := by
  match l, h3 with
  | p :: u :: s :: R, _ =>
    unfold Mv.im
    have h := ar_map M.T R p u s
    rw [M.det] at h
    split
    · rename_i hr
      rw [hr] at h
      rw [ar_rev, h]; simp; grind
    · rename_i hr
      rw [h]; simp [hr]
theorem Mv.lt (M : Mv) {l : List Pt} (hs : Simple l) (hL : LT l) : LT (M.im l) := by
  rw [LT_iff (M.simple hs), M.area hs.three]
  exact (LT_iff hs).1 hL
theorem Mv.edge (M : Mv) {l : List Pt} {a b : Pt} (h : (a, b) ∈ edges l) : (if M.rev then (M.T.ap b, M.T.ap a) else (M.T.ap a, M.T.ap b)) ∈ edges (M.im l) := by
  have hm : (M.T.ap a, M.T.ap b) ∈ edges (l.map M.T.ap) := by rw [edges_map]; exact List.mem_map.2 ⟨_, h, rfl⟩
  unfold Mv.im
  split
  · exact mem_edges_rev.2 hm
  · exact hm
theorem Mv.on_edges (M : Mv) (l : List Pt) (q : Pt) : (∃ e ∈ edges (M.im l), On e.1 e.2 (M.T.ap q)) ↔ ∃ e ∈ edges l, On e.1 e.2 q := by
  have hm : (∃ e ∈ edges (l.map M.T.ap), On e.1 e.2 (M.T.ap q)) ↔ ∃ e ∈ edges l, On e.1 e.2 q := by
    rw [edges_map]
    constructor
    · rintro ⟨e, he, o⟩
      obtain ⟨e', he', rfl⟩ := List.mem_map.1 he
      exact ⟨e', he', (M.T.on_ap M.ne).1 o⟩
    · rintro ⟨e, he, o⟩
      exact ⟨_, List.mem_map.2 ⟨e, he, rfl⟩, (M.T.on_ap M.ne).2 o⟩
  unfold Mv.im
  split
  · rw [← hm]
    constructor
    · rintro ⟨⟨x, y⟩, he, o⟩; exact ⟨(y, x), mem_edges_rev.1 he, on_comm o⟩
    · rintro ⟨⟨x, y⟩, he, o⟩; exact ⟨(y, x), mem_edges_rev.2 he, on_comm o⟩
  · exact hm
theorem Mv.flat (M : Mv) {l : List Pt} {v : Pt} (h : Flat l v) : Flat (M.im l) (M.T.ap v) := by
  obtain ⟨p, s, h1, h2, h3⟩ := h
  have e1 := M.edge h1
  have e2 := M.edge h2
  have hc : cr (M.T.ap p) (M.T.ap v) (M.T.ap s) = 0 := by rw [M.T.cr_ap, h3]; grind
  by_cases hr : M.rev = true
  · simp only [hr, if_true] at e1 e2
    exact ⟨_, _, e2, e1, by have : cr (M.T.ap s) (M.T.ap v) (M.T.ap p) = - cr (M.T.ap p) (M.T.ap v) (M.T.ap s) := by unfold cr; grind
                            rw [this, hc]; grind⟩
  · simp only [hr] at e1 e2
    exact ⟨_, _, e1, e2, hc⟩
theorem Mv.inT (M : Mv) (t : T3) (q : Pt) : InT (M.ti t).1 (M.ti t).2.1 (M.ti t).2.2 (M.T.ap q) ↔ InT t.1 t.2.1 t.2.2 q := by
  obtain ⟨a, b, c⟩ := t
  unfold Mv.ti InT
  have hd := M.det
  by_cases hr : M.rev = true
  · simp only [hr, if_true] at hd ⊢
    rw [M.T.cr_ap, M.T.cr_ap, M.T.cr_ap, hd]
    have e1 : cr c b q = - cr b c q := cr_swap b c q
    have e2 : cr b a q = - cr a b q := cr_swap a b q
    have e3 : cr a c q = - cr c a q := cr_swap c a q
    rw [e1, e2, e3]
    constructor
    · rintro ⟨h1, h2, h3⟩; exact ⟨by grind, by grind, by grind⟩
    · rintro ⟨h1, h2, h3⟩; exact ⟨by grind, by grind, by grind⟩
  · simp only [hr] at hd ⊢
    simp only [if_false, Bool.false_eq_true] at hd ⊢
    rw [M.T.cr_ap, M.T.cr_ap, M.T.cr_ap, hd]
    constructor
    · rintro ⟨h1, h2, h3⟩; exact ⟨by grind, by grind, by grind⟩
    · rintro ⟨h1, h2, h3⟩; exact ⟨by grind, by grind, by grind⟩
theorem Mv.pos (M : Mv) (t : T3) : cr (M.ti t).1 (M.ti t).2.1 (M.ti t).2.2 = cr t.1 t.2.1 t.2.2 := by
  obtain ⟨a, b, c⟩ := t
  unfold Mv.ti
  have hd := M.det
  by_cases hr : M.rev = true
  · simp only [hr, if_true] at hd ⊢
    rw [M.T.cr_ap, hd]
    have e : cr c b a = - cr a b c := by unfold cr; grind
    rw [e]; grind
  · simp only [hr] at hd ⊢
    simp only [if_false, Bool.false_eq_true] at hd ⊢
    rw [M.T.cr_ap, hd]; grind
/-- the image in the form with a vertex in the second place -/
theorem Mv.form (M : Mv) (p u s : Pt) (R : List Pt) : ∃ R', (R ≠ [] → R' ≠ []) ∧ (∀ x ∈ R', ∃ y ∈ R, x = M.T.ap y) ∧ Rot (M.im (p :: u :: s :: R)) ((M.ti (p, u, s)).1 :: (M.ti (p, u, s)).2.1 :: (M.ti (p, u, s)).2.2 :: R') ∧ Rot (M.im (p :: s :: R)) ((M.ti (p, u, s)).1 :: (M.ti (p, u, s)).2.2 :: R') := by
  unfold Mv.im Mv.ti
  by_cases hr : M.rev = true
  · simp only [hr, if_true]
    refine ⟨(R.map M.T.ap).reverse, fun h => by simpa using h, fun x hx => ?_, ?_, ?_⟩
    · simp only [List.mem_reverse, List.mem_map] at hx
      obtain ⟨y, hy, rfl⟩ := hx; exact ⟨y, hy, rfl⟩
    · have e : ((p :: u :: s :: R).map M.T.ap).reverse = (R.map M.T.ap).reverse ++ [M.T.ap s, M.T.ap u, M.T.ap p] := by simp
      rw [e]; exact rot_app _ _
    · have e : ((p :: s :: R).map M.T.ap).reverse = (R.map M.T.ap).reverse ++ [M.T.ap s, M.T.ap p] := by simp
      rw [e]; exact rot_app _ _
  · simp only [hr]
    refine ⟨R.map M.T.ap, fun h => by simpa using h, fun x hx => ?_, Rot.refl _, Rot.refl _⟩
    obtain ⟨y, hy, rfl⟩ := List.mem_map.1 hx; exact ⟨y, hy, rfl⟩
theorem Mv.parts (M : Mv) (p u s : Pt) (R : List Pt) : ∃ A B, M.im (p :: u :: s :: R) = A ++ M.T.ap u :: B ∧ M.im (p :: s :: R) = A ++ B := by
  unfold Mv.im
  by_cases hr : M.rev = true
  · simp only [hr, if_true]
    exact ⟨(R.map M.T.ap).reverse ++ [M.T.ap s], [M.T.ap p], by simp, by simp⟩
  · simp only [hr]
    exact ⟨[M.T.ap p], (s :: R).map M.T.ap, by simp, by simp⟩

theorem cov_im (M : Mv) (n : Nat) : ∀ l : List Pt, l.length = n → Simple l → LT l → ∃ ts, Cov l ts ∧ Cov (M.im l) (ts.map M.ti) := by
  induction n with
  | zero => intro l hl hs; have := hs.three; omega
  | succ n ih =>
    intro l hl hs hL
    obtain ⟨v, hv⟩ := List.exists_mem_of_ne_nil l (fun e => by have := hs.three; rw [e] at this; simp at this)
    obtain ⟨c, hc⟩ := edge_from hv
    obtain ⟨u, _, _, hu⟩ := hL.ears hs (v, c) hc
    obtain ⟨p, s, R, r, hcut⟩ := hu.form hs
    have hs' := r.simple hs
    have hL' := hL.rot r
    have hlen := r.1.length_eq
    have hrM := M.rot r
    suffices h : ∃ ts, Cov (p :: u :: s :: R) ts ∧ Cov (M.im (p :: u :: s :: R)) (ts.map M.ti) by
      obtain ⟨ts, h1, h2⟩ := h
      exact ⟨ts, h1.rot r.symm, h2.rot hrM.symm⟩
    by_cases hR : R = []
    · subst hR
      have hp := LT_tri hL'
      refine ⟨[(p, u, s)], cov_tri hp, ?_⟩
      obtain ⟨R', _, hm, r1, _⟩ := M.form p u s []
      have : R' = [] := by
        cases R' with
        | nil => rfl
        | cons x R' => obtain ⟨y, hy, _⟩ := hm x (by simp); simp at hy
      subst this
      exact (cov_tri (by rw [M.pos]; exact hp)).rot r1.symm
    · have hS2 := cut_rest hs' hR hcut
      have hL2 := cut_LT hs' hR hcut hL' (fun l _ h3 h4 => h4.good h3)
      obtain ⟨ts, c1, c2⟩ := ih (p :: s :: R) (by simp at hlen ⊢; omega) hS2 hL2
      rcases hcut with h0 | ⟨hpos, hno⟩
      · have hf : Flat (p :: u :: s :: R) u := ⟨p, s, by simp [edges3], by simp [edges3], h0⟩
        refine ⟨ts, cov_flat (A := [p]) (B := s :: R) hs' hf c1, ?_⟩
        obtain ⟨A, B, e1, e2⟩ := M.parts p u s R
        have hsM := M.simple hs'
        have hfM := M.flat hf
        rw [e1] at hsM hfM ⊢
        rw [e2] at c2
        exact cov_flat hsM hfM c2
      · refine ⟨(p, u, s) :: ts, cov_ear hs' hR hpos hno (hL2.good hS2) c1, ?_⟩
        obtain ⟨R', hR', hm, r1, r2⟩ := M.form p u s R
        have hsM := r1.simple (M.simple hs')
        have hgM := r2.good ((M.lt hS2 hL2).good (M.simple hS2))
        have := cov_ear hsM (hR' hR) (by rw [M.pos]; exact hpos) (fun x hx hT => by
          obtain ⟨y, hy, rfl⟩ := hm x hx
          exact hno y hy ((M.inT (p, u, s) y).1 hT)) hgM (c2.rot r2)
        exact this.rot r1.symm
/-- the region of the image is the image of the region -/
theorem Mv.rg (M : Mv) {l : List Pt} (hs : Simple l) (hL : LT l) (q : Pt) : (Rg (M.im l) (M.T.ap q) ↔ Rg l q) ∧ (Ri (M.im l) (M.T.ap q) ↔ Ri l q) := by
  obtain ⟨ts, h1, h2⟩ := cov_im M _ l rfl hs hL
  have hR : Rg (M.im l) (M.T.ap q) ↔ Rg l q := by
    rw [h1.cov, h2.cov]
    constructor
    · rintro ⟨t, ht, hi⟩
      obtain ⟨u, hu, rfl⟩ := List.mem_map.1 ht
      exact ⟨u, hu, (M.inT u q).1 hi⟩
    · rintro ⟨u, hu, hi⟩
      exact ⟨_, List.mem_map_of_mem hu, (M.inT u q).2 hi⟩
  have key : ∀ (m : List Pt) (x : Pt), Ri m x ↔ Rg m x ∧ ¬ ∃ e ∈ edges m, On e.1 e.2 x := fun m x => by
    constructor
    · rintro ⟨a, b⟩; exact ⟨.inr b, fun ⟨e, he, o⟩ => a e he o⟩
    · rintro ⟨a | a, b⟩
      · exact absurd a b
      · exact ⟨fun e he o => b ⟨e, he, o⟩, a⟩
  exact ⟨hR, by rw [key, key, hR, M.on_edges]⟩
end Geo
