import Derived.Test.YtfgeengdmbabhaaB2
/- Plain geometry: a simple polygon that never turns to the right is convex. -/
namespace Geo

/-- no turn to the right -/
def Left (l : List Pt) : Prop := ∀ a b c, (a, b) ∈ edges l → (b, c) ∈ edges l → 0 ≤ cr a b c
def SLeft (l : List Pt) : Prop := ∀ a b c, (a, b) ∈ edges l → (b, c) ∈ edges l → 0 < cr a b c
/-- strictly convex -/
def SC (l : List Pt) : Prop := ∀ e ∈ edges l, ∀ x ∈ l, x ≠ e.1 → x ≠ e.2 → 0 < cr e.1 e.2 x
theorem SC.rot {l m : List Pt} (h : SC l) (r : Rot l m) : SC m := fun e he x hx => h e (r.2.mem_iff.2 he) x (r.1.mem_iff.2 hx)
theorem SLeft.rot {l m : List Pt} (h : SLeft l) (r : Rot l m) : SLeft m := fun a b c h1 h2 => h a b c (r.2.mem_iff.2 h1) (r.2.mem_iff.2 h2)
theorem Left.rot {l m : List Pt} (h : Left l) (r : Rot l m) : Left m := fun a b c h1 h2 => h a b c (r.2.mem_iff.2 h1) (r.2.mem_iff.2 h2)
theorem SC.ge {l : List Pt} (h : SC l) {e : Pt × Pt} (he : e ∈ edges l) {x : Pt} (hx : x ∈ l) : 0 ≤ cr e.1 e.2 x := by
  by_cases h1 : x = e.1
  · rw [h1, cr_self]; grind
  by_cases h2 : x = e.2
  · rw [h2, cr_self']; grind
  have := h e he x hx h1 h2; grind
theorem SC.sleft {l : List Pt} (hs : Simple l) (h : SC l) : SLeft l := fun a b c h1 h2 => by
  have n1 : a ≠ b := hs.ends h1
  have n2 : b ≠ c := hs.ends h2
  refine h (a, b) h1 c (edges_snd_mem h2) (fun e => ?_) (fun e => n2 e.symm)
  have e : c = a := e
  obtain ⟨R, r⟩ := rot3 hs h1 h2
  have := (r.simple hs).dist
  exact this.ps e.symm
theorem SC.no_flat {l : List Pt} (hs : Simple l) (h : SC l) (v : Pt) : ¬ Flat l v := fun ⟨p, s, h1, h2, h3⟩ => by
  have := h.sleft hs p v s h1 h2; grind

section
variable {p u s : Pt} {R : List Pt}
theorem before_p (h : Simple (p :: u :: s :: R)) (hR : R ≠ []) : ∃ k, (k, p) ∈ chain (s :: R ++ [p]) ∧ k ∈ R := by
  obtain ⟨k, hk⟩ := edge_to (l := p :: u :: s :: R) (x := p) (by simp)
  have hd := h.dist
  rw [edges3] at hk
  rcases List.mem_cons.1 hk with e | hk
  · injection e with e1 e2; exact absurd e2 hd.pu
  rcases List.mem_cons.1 hk with e | hk
  · injection e with e1 e2; exact absurd e2 hd.ps
  refine ⟨k, hk, ?_⟩
  rcases List.mem_cons.1 (chain_mem hk).1 with e | e
  · simp only at e; rw [e] at hk; exact (h.no_sp hR hk).elim
  · exact e
theorem after_s (h : Simple (p :: u :: s :: R)) (hR : R ≠ []) : ∃ k, (s, k) ∈ chain (s :: R ++ [p]) ∧ k ∈ R := by
  cases R with
  | nil => exact absurd rfl hR
  | cons k R => exact ⟨k, by simp [chain], by simp⟩
/-- the turns at the ends of a cut stay to the left -/
theorem bend_p (h : Simple (p :: u :: s :: R)) (hpos : 0 < cr p u s) (hno : ∀ x ∈ R, ¬ InT p u s x) (hb : SLeft (p :: u :: s :: R)) {k : Pt} (hk : (k, p) ∈ chain (s :: R ++ [p])) (hkR : k ∈ R) : 0 < cr k p s := by
  by_cases hc : 0 < cr k p s
  · exact hc
  exfalso
  have h1 : 0 < cr k p u := hb k p u (chain_edge hk) (by simp [edges3])
  have e1 : cr p u k = cr k p u := by unfold cr; grind
  have e2 : cr s p k = - cr k p s := by unfold cr; grind
  have e3 : cr u s p = cr p u s := by unfold cr; grind
  have h3 : cr u s k < 0 := by
    by_cases g : cr u s k < 0
    · exact g
    · exact absurd ⟨by grind, by grind, by grind⟩ (hno k hkR)
  obtain ⟨z, hz, h0⟩ := cross_zero (s := u) (t := s) (a := p) (b := k) (by grind) (by grind)
  have o : On u s z := tri_side (a := u) (b := s) (c := p) (by grind) h0 (on_cr_ge hz (by rw [cr_self']; grind) (by grind)) (on_cr_ge hz (by rw [cr_self]; grind) (by grind))
  have e4 := h.on_us hk (on_comm hz) o
  subst e4
  have := h.s_end hk (on_comm hz)
  simp only at this
  subst this
  exact h.dist.sR hkR
theorem bend_s (h : Simple (p :: u :: s :: R)) (hpos : 0 < cr p u s) (hno : ∀ x ∈ R, ¬ InT p u s x) (hb : SLeft (p :: u :: s :: R)) {k : Pt} (hk : (s, k) ∈ chain (s :: R ++ [p])) (hkR : k ∈ R) : 0 < cr p s k := by
  by_cases hc : 0 < cr p s k
  · exact hc
  exfalso
  have h1 : 0 < cr u s k := hb u s k (by simp [edges3]) (chain_edge hk)
  have e2 : cr s p k = - cr p s k := by unfold cr; grind
  have h3 : cr p u k < 0 := by
    by_cases g : cr p u k < 0
    · exact g
    · exact absurd ⟨by grind, by grind, by grind⟩ (hno k hkR)
  obtain ⟨z, hz, h0⟩ := cross_zero (s := p) (t := u) (a := s) (b := k) (by grind) (by grind)
  have o : On p u z := tri_side (a := p) (b := u) (c := s) hpos h0 (on_cr_ge hz (by rw [cr_self']; grind) (by grind)) (on_cr_ge hz (by rw [cr_self]; grind) (by grind))
  have e4 := h.on_pu hk hz o
  subst e4
  have := h.p_end hk hz
  simp only at this
  subst this
  exact h.dist.pR hkR
theorem cut_sleft (h : Simple (p :: u :: s :: R)) (hR : R ≠ []) (hpos : 0 < cr p u s) (hno : ∀ x ∈ R, ¬ InT p u s x) (hb : SLeft (p :: u :: s :: R)) : SLeft (p :: s :: R) := by
  have hd := h.dist
  intro a b c h1 h2
  rw [edges2] at h1 h2
  rcases List.mem_cons.1 h1 with e1 | h1 <;> rcases List.mem_cons.1 h2 with e2 | h2
  · injection e1 with e1 e1'; injection e2 with e2 e2'
    exact absurd (e2.symm.trans e1') hd.ps
  · injection e1 with e1 e1'
    subst e1 e1'
    refine bend_s h hpos hno hb h2 ?_
    rcases List.mem_append.1 (chain_mem h2).2 with m | m
    · exact m
    · simp at m; subst m; exact (h.no_sp hR h2).elim
  · injection e2 with e2 e2'
    subst e2 e2'
    refine bend_p h hpos hno hb h1 ?_
    rcases List.mem_cons.1 (chain_mem h1).1 with m | m
    · simp only at m; subst m; exact (h.no_sp hR h1).elim
    · exact m
  · exact hb a b c (chain_edge h1) (chain_edge h2)
/-- back from the cut polygon -/
theorem uncut_sc (h : Simple (p :: u :: s :: R)) (hR : R ≠ []) (hpos : 0 < cr p u s) (hb : SLeft (p :: u :: s :: R)) (hc : SC (p :: s :: R)) : SC (p :: u :: s :: R) := by
  have hd := h.dist
  have eps : (p, s) ∈ edges (p :: s :: R) := by simp [edges2]
  have inP : ∀ x ∈ R, 0 < cr p s x := fun x hx => hc (p, s) eps x (by simp [hx]) (fun e => hd.pR (by have e : x = p := e; rw [← e]; exact hx)) (fun e => hd.sR (by have e : x = s := e; rw [← e]; exact hx))
  have ch : ∀ {f : Pt × Pt}, f ∈ chain (s :: R ++ [p]) → f ∈ edges (p :: s :: R) := fun hf => by rw [edges2]; exact List.mem_cons_of_mem _ hf
  obtain ⟨k, hk, hkR⟩ := before_p h hR
  obtain ⟨j, hj, hjR⟩ := after_s h hR
  have bp : 0 < cr k p u := hb k p u (chain_edge hk) (by simp [edges3])
  have bs : 0 < cr u s j := hb u s j (by simp [edges3]) (chain_edge hj)
  have pu : ∀ x ∈ R, 0 < cr p u x := fun x hx => by
    have a1 := inP k hkR
    have a2 := inP x hx
    have a3 : 0 ≤ cr k p x := hc.ge (ch hk) (by simp [hx])
    have id : cr p s k * cr p u x = cr k p x * cr p u s + cr p s x * cr k p u := by unfold cr; grind
    have p1 : 0 ≤ cr k p x * cr p u s := Rat.mul_nonneg a3 (by grind)
    have p2 : 0 < cr p s x * cr k p u := Rat.mul_pos a2 bp
    have p3 : 0 < cr p s k * cr p u x := by grind
    rcases mul_pos_iff'.1 p3 with ⟨_, g⟩ | ⟨g, _⟩
    · exact g
    · grind
  have us : ∀ x ∈ R, 0 < cr u s x := fun x hx => by
    have a1 := inP j hjR
    have a2 := inP x hx
    have a3 : 0 ≤ cr s j x := hc.ge (ch hj) (by simp [hx])
    have id : cr p s j * cr u s x = cr p s x * cr u s j + cr s j x * cr p u s := by unfold cr; grind
    have p1 : 0 ≤ cr s j x * cr p u s := Rat.mul_nonneg a3 (by grind)
    have p2 : 0 < cr p s x * cr u s j := Rat.mul_pos a2 bs
    have p3 : 0 < cr p s j * cr u s x := by grind
    rcases mul_pos_iff'.1 p3 with ⟨_, g⟩ | ⟨g, _⟩
    · exact g
    · grind
  intro e he x hx n1 n2
  rw [edges3] at he
  rcases List.mem_cons.1 he with rfl | he1
  · simp only at n1 n2 ⊢
    simp only [List.mem_cons] at hx
    rcases hx with e | e | rfl | hx
    · exact absurd e n1
    · exact absurd e n2
    · exact hpos
    · exact pu x hx
  rcases List.mem_cons.1 he1 with rfl | he2
  · simp only at n1 n2 ⊢
    simp only [List.mem_cons] at hx
    rcases hx with rfl | e | e | hx
    · have := cr_rot x u s; grind
    · exact absurd e n1
    · exact absurd e n2
    · exact us x hx
  clear he1
  by_cases hxu : x = u
  · subst hxu
    obtain ⟨a, b⟩ := e
    simp only at n1 n2 ⊢
    obtain ⟨m1, m2⟩ := chain_mem he2
    simp only at m1 m2
    rcases List.mem_cons.1 m1 with rfl | m1
    · have := hb x a b (by simp [edges3]) (chain_edge he2)
      have e : cr a b x = cr x a b := by unfold cr; grind
      rw [e]; exact this
    rcases List.mem_append.1 m2 with m2 | m2
    · by_cases g : 0 < cr a b x
      · exact g
      exfalso
      have fs : 0 < cr a b s := hc (a, b) (ch he2) s (by simp) (fun e => hd.sR (by rw [e]; exact m1)) (fun e => hd.sR (by rw [e]; exact m2))
      have fp : 0 < cr a b p := hc (a, b) (ch he2) p (by simp) (fun e => hd.pR (by rw [e]; exact m1)) (fun e => hd.pR (by rw [e]; exact m2))
      have id : cr x s a * cr a b p + cr s p a * cr a b x + cr p x a * cr a b s = 0 := by unfold cr; grind
      have g1 := us a m1
      have g2 := pu a m1
      have g3 : cr s p a < 0 := by have := inP a m1; rw [cr_swap]; grind
      have p1 := Rat.mul_pos g1 fp
      have p2 := Rat.mul_pos g2 fs
      have p3 : 0 ≤ (- cr s p a) * (- cr a b x) := Rat.mul_nonneg (by grind) (by grind)
      grind
    · simp at m2
      subst m2
      have := hb a b x (chain_edge he2) (by simp [edges3])
      exact this
  · refine hc e (ch he2) x ?_ n1 n2
    simp only [List.mem_cons] at hx ⊢
    rcases hx with h | h | h | h
    · exact .inl h
    · exact absurd h hxu
    · exact .inr (.inl h)
    · exact .inr (.inr h)
/-- a cut polygon stays strictly convex -/
theorem cut_sc (h : Simple (p :: u :: s :: R)) (hno : ∀ x ∈ R, ¬ InT p u s x) (hc : SC (p :: u :: s :: R)) : SC (p :: s :: R) := by
  have hd := h.dist
  intro e he x hx n1 n2
  rw [edges2] at he
  have hx' : x ∈ p :: u :: s :: R := by
    simp only [List.mem_cons] at hx ⊢
    rcases hx with h | h | h
    · exact .inl h
    · exact .inr (.inr (.inl h))
    · exact .inr (.inr (.inr h))
  rcases List.mem_cons.1 he with rfl | he
  · simp only at n1 n2 ⊢
    simp only [List.mem_cons] at hx
    rcases hx with e | e | hx
    · exact absurd e n1
    · exact absurd e n2
    have g1 := hc (p, u) (by simp [edges3]) x hx' n1 (fun e => hd.uR (by have e : x = u := e; rw [← e]; exact hx))
    have g2 := hc (u, s) (by simp [edges3]) x hx' (fun e => hd.uR (by have e : x = u := e; rw [← e]; exact hx)) n2
    simp only at g1 g2
    by_cases g : 0 < cr p s x
    · exact g
    · exact absurd ⟨by grind, by grind, by rw [cr_swap]; grind⟩ (hno x hx)
  · exact hc e (chain_edge he) x hx' n1 n2
end

theorem sc_main (n : Nat) : ∀ l : List Pt, l.length = n → Simple l → LT l → SLeft l → SC l := by
  induction n with
  | zero => intro l hl hs; have := hs.three; omega
  | succ n ih =>
    intro l hl hs hL hb
    obtain ⟨v, hv⟩ := List.exists_mem_of_ne_nil l (fun e => by have := hs.three; rw [e] at this; simp at this)
    obtain ⟨c, hc⟩ := edge_from hv
    obtain ⟨u, _, _, hu⟩ := hL.ears hs (v, c) hc
    obtain ⟨p, s, R, r, hcut⟩ := hu.form hs
    have hs' := r.simple hs
    have hb' := hb.rot r
    have hpos : 0 < cr p u s := hb' p u s (by simp [edges3]) (by simp [edges3])
    have hno : ∀ x ∈ R, ¬ InT p u s x := by
      rcases hcut with h | h
      · grind
      · exact h.2
    have hlen := r.1.length_eq
    refine SC.rot ?_ r.symm
    by_cases hR : R = []
    · subst hR
      have r1 := cr_rot p u s; have r2 := cr_rot2 p u s
      intro e he x hx n1 n2
      have he' : e ∈ [(p, u), (u, s), (s, p)] := he
      simp only [List.mem_cons, List.not_mem_nil, or_false] at he' hx
      rcases he' with rfl | rfl | rfl <;> rcases hx with rfl | rfl | rfl <;> simp only at n1 n2 ⊢ <;> first | exact absurd rfl n1 | exact absurd rfl n2 | grind
    · have hc' : Cuttable p u s R := .inr ⟨hpos, hno⟩
      exact uncut_sc hs' hR hpos hb' (ih (p :: s :: R) (by simp at hlen ⊢; omega) (cut_rest hs' hR hc') (cut_LT hs' hR hc' (hL.rot r) (fun l _ h3 h4 => h4.good h3)) (cut_sleft hs' hR hpos hno hb'))
theorem SLeft.sc {l : List Pt} (hs : Simple l) (hL : LT l) (hb : SLeft l) : SC l := sc_main _ l rfl hs hL hb
/-- a polygon that turns to the left at its top -/
theorem Left.LT {l : List Pt} (hs : Simple l) (hb : Left l) : LT l := fun a v c h1 h2 ht => by
  have := top_bend hs h1 h2 ht
  have := hb a v c h1 h2
  grind

/-- a point on a line -/
theorem on_line {a b q : Pt} (hab : a ≠ b) (h : cr a b q = 0) : ∃ t : Rat, q = lerp a b t := by
  unfold cr at h
  by_cases hx : b.x - a.x = 0
  · have hy : b.y - a.y ≠ 0 := fun e => hab (Pt.ext' (by grind) (by grind))
    refine ⟨(q.y - a.y) / (b.y - a.y), ?_⟩
    have e : (q.y - a.y) / (b.y - a.y) * (b.y - a.y) = q.y - a.y := Rat.div_mul_cancel hy
    generalize (q.y - a.y) / (b.y - a.y) = t at *
    apply Pt.ext'
    · simp only [lerp]
      have e2 : (b.y - a.y) * (q.x - a.x) = 0 := by grind
      rcases Rat.mul_eq_zero.1 e2 with g | g
      · exact absurd g hy
      · grind
    · simp only [lerp]; grind
  · refine ⟨(q.x - a.x) / (b.x - a.x), ?_⟩
    have e : (q.x - a.x) / (b.x - a.x) * (b.x - a.x) = q.x - a.x := Rat.div_mul_cancel hx
    generalize (q.x - a.x) / (b.x - a.x) = t at *
    apply Pt.ext'
    · simp only [lerp]; grind
    · simp only [lerp]
      have e2 : (b.x - a.x) * (q.y - (a.y + t * (b.y - a.y))) = 0 := by grind
      rcases Rat.mul_eq_zero.1 e2 with g | g
      · exact absurd g hx
      · grind
theorem sc_on {l : List Pt} (hs : Simple l) (hc : SC l) {q : Pt} (hq : ∀ e ∈ edges l, 0 ≤ cr e.1 e.2 q) {e : Pt × Pt} (he : e ∈ edges l) (h0 : cr e.1 e.2 q = 0) : On e.1 e.2 q := by
  obtain ⟨a, b⟩ := e
  simp only at h0 ⊢
  obtain ⟨k, hk⟩ := edge_to (edges_fst_mem he)
  obtain ⟨j, hj⟩ := edge_from (edges_snd_mem he)
  simp only at hk hj
  have g1 := hc.sleft hs k a b hk he
  have g2 := hc.sleft hs a b j he hj
  obtain ⟨t, rfl⟩ := on_line (hs.ends he) h0
  have q1 := hq _ hk
  have q2 := hq _ hj
  simp only [cr_lerp, cr_self, cr_self'] at q1 q2
  have r2 : cr b j a = cr a b j := cr_rot a b j
  rw [r2] at q2
  refine ⟨t, ?_, ?_, rfl⟩
  · by_cases h : 0 ≤ t
    · exact h
    · have := Rat.mul_pos (a := -t) (b := cr k a b) (by grind) g1; grind
  · by_cases h : t ≤ 1
    · exact h
    · have := Rat.mul_pos (a := t - 1) (b := cr a b j) (by grind) g2; grind
theorem sc_out {l : List Pt} (hc : SC l) {q : Pt} {e : Pt × Pt} (he : e ∈ edges l) (h : cr e.1 e.2 q < 0) : w l q = 0 ∧ ∀ f ∈ edges l, ¬ On f.1 f.2 q := by
  refine ⟨w_sep (fun x hx => hc.ge he hx) h, fun f hf ho => ?_⟩
  have := on_cr_ge ho (hc.ge he (edges_fst_mem hf)) (hc.ge he (edges_snd_mem hf))
  grind
theorem sc_point {l : List Pt} (hs : Simple l) (hL : LT l) (hc : SC l) : ∃ y, (∀ e ∈ edges l, 0 < cr e.1 e.2 y) ∧ w l y = 1 := by
  obtain ⟨v, hv⟩ := List.exists_mem_of_ne_nil l (fun e => by have := hs.three; rw [e] at this; simp at this)
  obtain ⟨c, hc'⟩ := edge_from hv
  obtain ⟨u, _, _, p, s, h1, h2, hu⟩ := hL.ears hs (v, c) hc'
  have hpos := hc.sleft hs p u s h1 h2
  have hno : ∀ x ∈ l, x ≠ p → x ≠ u → x ≠ s → ¬ InT p u s x := by
    rcases hu with h | h
    · grind
    · exact h.2
  obtain ⟨R, r⟩ := rot3 hs h1 h2
  have hd := (r.simple hs).dist
  have mp : p ∈ l := edges_fst_mem h1
  have mu : u ∈ l := edges_snd_mem h1
  have ms : s ∈ l := edges_snd_mem h2
  have key : ∀ e ∈ edges l, 0 < cr e.1 e.2 ⟨(p.x + u.x + s.x) / 3, (p.y + u.y + s.y) / 3⟩ := fun e he => by
    have id : cr e.1 e.2 ⟨(p.x + u.x + s.x) / 3, (p.y + u.y + s.y) / 3⟩ = (cr e.1 e.2 p + cr e.1 e.2 u + cr e.1 e.2 s) / 3 := by unfold cr; grind
    have a1 := hc.ge he mp
    have a2 := hc.ge he mu
    have a3 := hc.ge he ms
    have : 0 < cr e.1 e.2 p ∨ 0 < cr e.1 e.2 u ∨ 0 < cr e.1 e.2 s := by
      by_cases b1 : p ≠ e.1 ∧ p ≠ e.2
      · exact .inl (hc e he p mp b1.1 b1.2)
      by_cases b2 : u ≠ e.1 ∧ u ≠ e.2
      · exact .inr (.inl (hc e he u mu b2.1 b2.2))
      refine .inr (.inr (hc e he s ms ?_ ?_))
      · intro e3
        have := hd.ps; have := hd.us; have := hd.pu
        grind
      · intro e3
        have := hd.ps; have := hd.us; have := hd.pu
        grind
    grind
  refine ⟨_, key, cut_one hs hL (fun m _ h3 h4 => h4.good h3) h1 h2 hpos hno ⟨?_, ?_, ?_⟩ (fun e he ho => ?_)⟩
  · have := key _ h1; grind
  · have := key _ h2; grind
  · have id : cr s p ⟨(p.x + u.x + s.x) / 3, (p.y + u.y + s.y) / 3⟩ = cr p u s / 3 := by unfold cr; grind
    grind
  · have := key e he; have := cr_on ho; grind
theorem sc_in {l : List Pt} (hs : Simple l) (hL : LT l) (hc : SC l) {q : Pt} (hq : ∀ e ∈ edges l, 0 < cr e.1 e.2 q) : w l q = 1 ∧ ∀ f ∈ edges l, ¬ On f.1 f.2 q := by
  obtain ⟨y, hy, hw⟩ := sc_point hs hL hc
  refine ⟨?_, fun f hf ho => by have := hq f hf; have := cr_on ho; grind⟩
  rw [← hw]
  apply w_const
  intro e he p h1 h2
  have := cr_on h1
  have := on_cr_pos h2 (hq e he) (hy e he)
  grind

/-- straight vertices more or less -/
theorem flat_conv {p u s : Pt} {R : List Pt} (h : Simple (p :: u :: s :: R)) (h0 : cr p u s = 0) :
    (Left (p :: u :: s :: R) → Left (p :: s :: R)) ∧ (∀ q, (∀ e ∈ edges (p :: u :: s :: R), 0 < cr e.1 e.2 q) ↔ ∀ e ∈ edges (p :: s :: R), 0 < cr e.1 e.2 q) ∧ (∀ q, (∃ e ∈ edges (p :: u :: s :: R), cr e.1 e.2 q < 0) ↔ ∃ e ∈ edges (p :: s :: R), cr e.1 e.2 q < 0) := by
  have hd := h.dist
  obtain ⟨t, t0, t1, et⟩ := open_at (flat_on h h0) hd.pu.symm hd.us
  have e1 : ∀ q, cr p u q = t * cr p s q := fun q => by rw [et]; unfold cr lerp; grind
  have e2 : ∀ q, cr u s q = (1 - t) * cr p s q := fun q => by rw [et]; unfold cr lerp; grind
  have e3 : ∀ k, cr k p u = t * cr k p s := fun q => by rw [et]; unfold cr lerp; grind
  have e4 : ∀ k, cr u s k = (1 - t) * cr p s k := e2
  have pos : ∀ a b : Rat, 0 < a → (0 < a * b ↔ 0 < b) := fun a b h => pos_mul_iff h
  have neg : ∀ a b : Rat, 0 < a → (a * b < 0 ↔ b < 0) := fun a b h => by
    have := pos_mul_iff (a := a) (b := -b) h
    have e : a * -b = -(a * b) := by grind
    rw [e] at this; grind
  have ge : ∀ a b : Rat, 0 < a → 0 ≤ a * b → 0 ≤ b := fun a b h h' => by
    by_cases g : b < 0
    · have := (neg a b h).2 g; grind
    · grind
  refine ⟨fun hb a b c h1 h2 => ?_, fun q => ?_, fun q => ?_⟩
  · rw [edges2] at h1 h2
    rcases List.mem_cons.1 h1 with x1 | h1 <;> rcases List.mem_cons.1 h2 with x2 | h2
    · injection x1 with x1 x1'; injection x2 with x2 x2'
      exact absurd (x2.symm.trans x1') hd.ps
    · injection x1 with x1 x1'
      subst x1 x1'
      have := hb u b c (by simp [edges3]) (chain_edge h2)
      rw [e4] at this
      exact ge _ _ (by grind) this
    · injection x2 with x2 x2'
      subst x2 x2'
      have := hb a b u (chain_edge h1) (by simp [edges3])
      rw [e3] at this
      exact ge _ _ t0 this
    · exact hb a b c (chain_edge h1) (chain_edge h2)
  · rw [edges3, edges2]
    simp only [List.forall_mem_cons]
    rw [e1, e2, pos _ _ t0, pos _ _ (by grind)]
    exact ⟨fun ⟨a, _, b⟩ => ⟨a, b⟩, fun ⟨a, b⟩ => ⟨a, a, b⟩⟩
  · rw [edges3, edges2]
    simp only [List.mem_cons, exists_eq_or_imp]
    rw [e1, e2, neg _ _ t0, neg _ _ (by grind)]
    exact ⟨fun h => by rcases h with a | a | a; exact .inl a; exact .inl a; exact .inr a, fun h => by rcases h with a | a; exact .inl a; exact .inr (.inr a)⟩
theorem keepF_conv (n : Nat) : ∀ l : List Pt, l.length = n → Simple l → (Left l → Left (keepF l)) ∧ (∀ q, (∀ e ∈ edges l, 0 < cr e.1 e.2 q) ↔ ∀ e ∈ edges (keepF l), 0 < cr e.1 e.2 q) ∧ (∀ q, (∃ e ∈ edges l, cr e.1 e.2 q < 0) ↔ ∃ e ∈ edges (keepF l), cr e.1 e.2 q < 0) := by
  induction n with
  | zero => intro l hl hs; have := hs.three; omega
  | succ n ih =>
    intro l hl hs
    by_cases hf : ∃ u ∈ l, Flat l u
    · obtain ⟨u, hu, hfu⟩ := hf
      obtain ⟨A, B, rfl⟩ := List.append_of_mem hu
      obtain ⟨d1, d2, d3, d4, d5⟩ := drop_one hs hfu
      have e : keepF (A ++ u :: B) = keepF (A ++ B) := by
        unfold keepF
        have e1 : (A ++ u :: B).filter (fun v => !flatB (A ++ u :: B) v) = (A ++ B).filter (fun v => !flatB (A ++ u :: B) v) := by
          rw [List.filter_append, List.filter_append, List.filter_cons]
          simp [(flatB_iff _ _).2 hfu]
        rw [e1]
        refine List.filter_congr fun x hx => ?_
        have : flatB (A ++ B) x = flatB (A ++ u :: B) x := by rw [Bool.eq_iff_iff, flatB_iff, flatB_iff]; exact d2 x hx
        rw [this]
      obtain ⟨k1, k2, k3⟩ := ih (A ++ B) (by simp at hl ⊢; omega) d1
      rw [e]
      have h4 : 4 ≤ (A ++ u :: B).length := by
        have h3 := hs.three
        by_cases e : (A ++ u :: B).length = 3
        · exact absurd hfu (no_flat3 hs e)
        · omega
      obtain ⟨p, s, N, hN⟩ := split_at (A := A) (B := B) (u := u) (by omega)
      obtain ⟨r1, r2⟩ := rotAt (u := u) hN
      have hs' := r1.simple hs
      have h0 : cr p u s = 0 := by
        obtain ⟨a, c, g1, g2, g3⟩ := (Flat.rot r1).1 hfu
        have e1 := hs'.to_eq g1 (show (p, u) ∈ _ by simp [edges3])
        have e2 := hs'.from_eq g2 (show (u, s) ∈ _ by simp [edges3])
        subst e1 e2; exact g3
      obtain ⟨c1, c2, c3⟩ := flat_conv hs' h0
      have t1 : ∀ {P : Pt × Pt → Prop} {l m : List Pt}, Rot l m → ((∀ e ∈ edges l, P e) ↔ ∀ e ∈ edges m, P e) := fun r => ⟨fun h e he => h e (r.2.mem_iff.2 he), fun h e he => h e (r.2.mem_iff.1 he)⟩
      have t2 : ∀ {P : Pt × Pt → Prop} {l m : List Pt}, Rot l m → ((∃ e ∈ edges l, P e) ↔ ∃ e ∈ edges m, P e) := fun r => ⟨fun ⟨e, he, h⟩ => ⟨e, r.2.mem_iff.1 he, h⟩, fun ⟨e, he, h⟩ => ⟨e, r.2.mem_iff.2 he, h⟩⟩
      refine ⟨fun hL => k1 ((c1 (hL.rot r1)).rot r2.symm), fun q => ?_, fun q => ?_⟩
      · rw [t1 r1, c2, ← t1 r2]; exact k2 q
      · rw [t2 r1, c3, ← t2 r2]; exact k3 q
    · have e : keepF l = l := by
        unfold keepF
        rw [List.filter_eq_self]
        intro x hx
        cases hb : flatB l x with
        | false => rfl
        | true => exact absurd ⟨x, hx, (flatB_iff _ _).1 hb⟩ hf
      rw [e]
      exact ⟨id, fun q => Iff.rfl, fun q => Iff.rfl⟩
/-- the strict form of a polygon without turns to the right -/
theorem left_sc {l : List Pt} (hs : Simple l) (hb : Left l) : LT (keepF l) ∧ SC (keepF l) := by
  have hk := keepF_simple hs
  have hb' := (keepF_conv _ l rfl hs).1 hb
  have hL := hb'.LT hk
  refine ⟨hL, SLeft.sc hk hL fun a b c h1 h2 => ?_⟩
  have g1 := hb' a b c h1 h2
  have g2 : cr a b c ≠ 0 := fun h => keepF_strict hs b (edges_snd_mem h1) ⟨a, c, h1, h2, h⟩
  grind
/-- a vertex cut out at a place of the list -/
theorem sc_cut_at {A B : List Pt} {p u s : Pt} (h4 : 4 ≤ (A ++ u :: B).length) (hs : Simple (A ++ u :: B)) (h1 : (p, u) ∈ edges (A ++ u :: B)) (h2 : (u, s) ∈ edges (A ++ u :: B))
    (hno : ∀ x ∈ A ++ u :: B, x ≠ p → x ≠ u → x ≠ s → ¬ InT p u s x) (hc : SC (A ++ u :: B)) : SC (A ++ B) := by
  obtain ⟨p', s', N, hN⟩ := split_at (A := A) (B := B) (u := u) (by omega)
  obtain ⟨r1, r2⟩ := rotAt (u := u) hN
  have hs' := r1.simple hs
  have e1 := hs'.to_eq (r1.2.mem_iff.1 h1) (show (p', u) ∈ _ by simp [edges3])
  have e2 := hs'.from_eq (r1.2.mem_iff.1 h2) (show (u, s') ∈ _ by simp [edges3])
  subst e1 e2
  have hd := hs'.dist
  exact (cut_sc hs' (fun x hx => hno x (r1.1.mem_iff.2 (by simp [hx])) (fun e => hd.pR (e ▸ hx)) (fun e => hd.uR (e ▸ hx)) (fun e => hd.sR (e ▸ hx))) (hc.rot r1)).rot r2.symm
end Geo
