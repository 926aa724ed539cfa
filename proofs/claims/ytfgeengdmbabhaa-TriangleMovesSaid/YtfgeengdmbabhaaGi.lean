/- The main induction: simple polygons with a left turn at the top vertex are good and have ears. -/
import Derived.Test.YtfgeengdmbabhaaGh
namespace Geo
section diag
variable {a v c z : Pt} {R1 R2 : List Pt}

theorem w_E1 (v c z : Pt) (R1 : List Pt) (q : Pt) : w (v :: c :: R1 ++ [z]) q = chi v c q + cw (c :: R1 ++ [z]) q + chi z v q := by
  unfold w cw; rw [E1, esum_cons, esum_append, esum_cons, esum_nil]; simp only; omega

theorem chain_sub_left {α : Type} {l : List α} {x : α} {f : α × α} (hf : f ∈ chain l) : f ∈ chain (l ++ [x]) := by
  cases l with
  | nil => simp [chain] at hf
  | cons a l =>
    induction l generalizing a with
    | nil => simp [chain] at hf
    | cons b l ih =>
      simp only [List.cons_append, chain, List.mem_cons] at hf ⊢
      exact hf.imp id (ih b)
theorem chain_ends {α : Type} {l : List α} {f : α × α} (hf : f ∈ chain l) : f.1 ∈ l ∧ f.2 ∈ l := by
  obtain ⟨i, hi, rfl⟩ := List.getElem_of_mem hf
  rw [chain_getElem]
  exact ⟨List.getElem_mem _, List.getElem_mem _⟩
theorem chain_sub_right {α : Type} {l : List α} {x : α} {f : α × α} (hf : f ∈ chain l) : f ∈ chain (x :: l) := by
  cases l with
  | nil => simp [chain] at hf
  | cons b l => simp only [chain]; exact List.mem_cons_of_mem _ hf

theorem P1_at (n : Near a v c z (R1 ++ z :: R2)) (h : Simple (a :: v :: c :: (R1 ++ z :: R2))) (ht : Top (a :: v :: c :: (R1 ++ z :: R2)) v) : w (v :: c :: R1 ++ [z]) a = 0 := by
  have P := h.parts
  have l := n.left h
  have hpos := n.pos
  have la := low_y (ht.2 a (by simp))
  have lz := low_y (ht.2 z (by simp))
  have lc := low_y (ht.2 c (by simp))
  have e := cw_move (a := c) (b := z) (l := R1) (q := a) (r := v) fun f hf k k1 k2 => by
    have hne : f ≠ (a, v) := fun e => by
      have := (chain_mem hf).2
      rw [e] at this
      rcases List.mem_append.1 this with x | x
      · exact P.v1 x
      · simp at x; exact P.zv x.symm
    obtain ⟨m1, m2⟩ := chain_mem hf
    rcases h.apart f (in_C1 hf) (a, v) (by simp [edges3]) hne k k1 k2 with ⟨x, y⟩ | ⟨x, y⟩
    · simp only at y
      rw [← x, y] at m1
      rcases List.mem_cons.1 m1 with m | m
      · exact P.vc m
      · exact P.v1 m
    · simp only at y
      rw [← x, y] at m2
      rcases List.mem_append.1 m2 with m | m
      · exact P.a1 m
      · simp at m; exact P.za m.symm
  have z0 : cw (c :: R1 ++ [z]) v = 0 := cw_top fun x hx => low_y (ht.2 x (by simp only [List.cons_append, List.mem_cons, List.mem_append, List.not_mem_nil, or_false] at hx ⊢; grind))
  have r1 := cr_rot a v c
  have r2 : cr z v a = - cr a v z := by unfold cr; grind
  rw [w_E1, chi_left (by rw [r1]; exact hpos), chi_right (a := z) (b := v) (by grind)]
  unfold Phi phi at e
  grind
theorem P2_at (n : Near a v c z (R1 ++ z :: R2)) (h : Simple (a :: v :: c :: (R1 ++ z :: R2))) (ht : Top (a :: v :: c :: (R1 ++ z :: R2)) v) : w (v :: z :: R2 ++ [a]) c = 0 := by
  have P := h.parts
  have l := n.right h
  have hpos := n.pos
  have la := low_y (ht.2 a (by simp))
  have lz := low_y (ht.2 z (by simp))
  have lc := low_y (ht.2 c (by simp))
  have e := cw_move (a := z) (b := a) (l := R2) (q := c) (r := v) fun f hf k k1 k2 => by
    have hne : f ≠ (v, c) := fun e => by
      have := (chain_mem hf).1
      rw [e] at this
      rcases List.mem_cons.1 this with x | x
      · exact P.zv x.symm
      · exact P.v2 x
    obtain ⟨m1, m2⟩ := chain_mem hf
    rcases h.apart f (in_C2 hf) (v, c) (by simp [edges3]) hne k k1 (on_comm k2) with ⟨x, y⟩ | ⟨x, y⟩
    · simp only at y
      rw [← x, y] at m1
      rcases List.mem_cons.1 m1 with m | m
      · exact P.zc m.symm
      · exact P.c2 m
    · simp only at y
      rw [← x, y] at m2
      rcases List.mem_append.1 m2 with m | m
      · exact P.v2 m
      · simp at m; exact P.av m.symm
  have z0 : cw (z :: R2 ++ [a]) v = 0 := cw_top fun x hx => low_y (ht.2 x (by simp only [List.cons_append, List.mem_cons, List.mem_append, List.not_mem_nil, or_false] at hx ⊢; grind))
  have r2 : cr v z c = - cr v c z := by unfold cr; grind
  have r3 : cr c v a = - cr a v c := by unfold cr; grind
  have r4 : cr c v z = - cr v c z := by unfold cr; grind
  rw [w_E1, chi_right (a := v) (b := z) (by grind), chi_left hpos]
  unfold Phi phi at e
  rw [if_pos lc, if_pos lc] at e
  have d1 : cr c v a < 0 := by grind
  have d2 : cr c v z < 0 := by grind
  simp only [d1, d2, and_true] at e
  grind

/-- the vertices of the other part lie outside -/
theorem P1_out (n : Near a v c z (R1 ++ z :: R2)) (h : Simple (a :: v :: c :: (R1 ++ z :: R2))) (ht : Top (a :: v :: c :: (R1 ++ z :: R2)) v) {x : Pt} (hx : x ∈ R2 ++ [a]) : w (v :: c :: R1 ++ [z]) x = 0 := by
  have P := h.parts
  rw [chain_const (f := w (v :: c :: R1 ++ [z])) (l := R2 ++ [a]) (fun e he => w_const fun f hf k k1 k2 => ?_) x hx a (by simp)]
  · exact P1_at n h ht
  · have heP : e ∈ edges (a :: v :: c :: (R1 ++ z :: R2)) := in_C2 (chain_sub_right he)
    obtain ⟨m1, m2⟩ := chain_ends he
    have no : ∀ y, y ∈ R2 ++ [a] → y ≠ v ∧ y ≠ c ∧ y ∉ R1 ∧ y ≠ z := fun y hy => by
      rcases List.mem_append.1 hy with m | m
      · exact ⟨fun e => P.v2 (e ▸ m), fun e => P.c2 (e ▸ m), fun e => P.dis y e m, fun e => P.z2 (e ▸ m)⟩
      · simp at m; subst m; exact ⟨P.av, P.ac, P.a1, P.za.symm⟩
    have n1 := no _ m1
    have n2 := no _ m2
    have fin : ∀ f ∈ edges (a :: v :: c :: (R1 ++ z :: R2)), (f.1 = v ∨ f.1 ∈ c :: R1) → (f.2 = c ∨ f.2 ∈ R1 ++ [z]) → On f.1 f.2 k → False := by
      intro f hf g1 g2 k1
      have hne : e ≠ f := fun e' => by
        rw [e'] at n1
        simp only [List.mem_cons] at g1
        grind
      rcases h.apart e heP f hf hne k k2 k1 with ⟨x, y⟩ | ⟨x, y⟩
      · rw [← x, y] at n1
        simp only [List.mem_append, List.mem_cons, List.not_mem_nil, or_false] at g2
        grind
      · rw [← x, y] at n2
        simp only [List.mem_cons] at g1
        grind
    rw [E1] at hf
    rcases List.mem_cons.1 hf with rfl | hf
    · exact fin (v, c) (by simp [edges3]) (.inl rfl) (.inl rfl) k1
    rcases List.mem_append.1 hf with hf | hf
    · obtain ⟨g1, g2⟩ := chain_mem hf
      exact fin f (in_C1 hf) (.inr g1) (.inr g2) k1
    · simp at hf; subst hf
      rcases n.free h heP k2 (on_comm k1) with rfl | rfl
      · rcases h.vertex (x := k) (by simp) heP k2 with e' | e'
        · exact n1.1 e'.symm
        · exact n2.1 e'.symm
      · rcases h.vertex (x := k) (by simp) heP k2 with e' | e'
        · exact n1.2.2.2 e'.symm
        · exact n2.2.2.2 e'.symm
theorem P2_out (n : Near a v c z (R1 ++ z :: R2)) (h : Simple (a :: v :: c :: (R1 ++ z :: R2))) (ht : Top (a :: v :: c :: (R1 ++ z :: R2)) v) {x : Pt} (hx : x ∈ c :: R1) : w (v :: z :: R2 ++ [a]) x = 0 := by
  have P := h.parts
  rw [chain_const (f := w (v :: z :: R2 ++ [a])) (l := c :: R1) (fun e he => w_const fun f hf k k1 k2 => ?_) x hx c (by simp)]
  · exact P2_at n h ht
  · have heP : e ∈ edges (a :: v :: c :: (R1 ++ z :: R2)) := in_C1 (chain_sub_left he)
    obtain ⟨m1, m2⟩ := chain_ends he
    have no : ∀ y, y ∈ c :: R1 → y ≠ v ∧ y ≠ a ∧ y ∉ R2 ∧ y ≠ z := fun y hy => by
      rcases List.mem_cons.1 hy with m | m
      · subst m; exact ⟨P.vc.symm, P.ac.symm, P.c2, P.zc.symm⟩
      · exact ⟨fun e => P.v1 (e ▸ m), fun e => P.a1 (e ▸ m), fun e => P.dis y m e, fun e => P.z1 (e ▸ m)⟩
    have n1 := no _ m1
    have n2 := no _ m2
    have fin : ∀ f ∈ edges (a :: v :: c :: (R1 ++ z :: R2)), (f.1 = a ∨ f.1 ∈ z :: R2) → (f.2 = v ∨ f.2 ∈ R2 ++ [a]) → On f.1 f.2 k → False := by
      intro f hf g1 g2 k1
      have hne : e ≠ f := fun e' => by
        rw [e'] at n1
        simp only [List.mem_cons] at g1
        grind
      rcases h.apart e heP f hf hne k k2 k1 with ⟨x, y⟩ | ⟨x, y⟩
      · rw [← x, y] at n1
        simp only [List.mem_append, List.mem_cons, List.not_mem_nil, or_false] at g2
        grind
      · rw [← x, y] at n2
        simp only [List.mem_cons] at g1
        grind
    rw [E1] at hf
    rcases List.mem_cons.1 hf with rfl | hf
    · rcases n.free h heP k2 k1 with rfl | rfl
      · rcases h.vertex (x := k) (by simp) heP k2 with e' | e'
        · exact n1.1 e'.symm
        · exact n2.1 e'.symm
      · rcases h.vertex (x := k) (by simp) heP k2 with e' | e'
        · exact n1.2.2.2 e'.symm
        · exact n2.2.2.2 e'.symm
    rcases List.mem_append.1 hf with hf | hf
    · obtain ⟨g1, g2⟩ := chain_mem hf
      exact fin f (in_C2 hf) (.inr g1) (.inr g2) k1
    · simp at hf; subst hf
      exact fin (a, v) (by simp [edges3]) (.inl rfl) (.inl rfl) k1

/-- a vertex that is off a part lies on none of its sides -/
theorem P1_off (n : Near a v c z (R1 ++ z :: R2)) (h : Simple (a :: v :: c :: (R1 ++ z :: R2))) {x : Pt} (hx : x ∈ R2 ++ [a]) : ∀ f ∈ edges (v :: c :: R1 ++ [z]), ¬ On f.1 f.2 x := by
  have P := h.parts
  intro f hf ho
  have hxP : x ∈ a :: v :: c :: (R1 ++ z :: R2) := by
    simp only [List.mem_append, List.mem_cons, List.not_mem_nil, or_false] at hx ⊢
    grind
  have nx : x ≠ v ∧ x ≠ c ∧ x ∉ R1 ∧ x ≠ z := by
    rcases List.mem_append.1 hx with m | m
    · exact ⟨fun e => P.v2 (e ▸ m), fun e => P.c2 (e ▸ m), fun e => P.dis x e m, fun e => P.z2 (e ▸ m)⟩
    · simp at m; subst m; exact ⟨P.av, P.ac, P.a1, P.za.symm⟩
  rw [E1] at hf
  rcases List.mem_cons.1 hf with rfl | hf
  · rcases h.vertex hxP (e := (v, c)) (by simp [edges3]) ho with e | e
    · exact nx.1 e
    · exact nx.2.1 e
  rcases List.mem_append.1 hf with hf | hf
  · obtain ⟨g1, g2⟩ := chain_mem hf
    rcases h.vertex hxP (in_C1 hf) ho with e | e
    · rw [← e] at g1; simp only [List.mem_cons] at g1; grind
    · rw [← e] at g2; simp only [List.mem_append, List.mem_cons, List.not_mem_nil, or_false] at g2; grind
  · simp at hf; subst hf
    obtain ⟨y, hy⟩ := edge_from hxP
    rcases n.free h hy (on_left x y) (on_comm ho) with e | e
    · exact nx.1 e
    · exact nx.2.2.2 e
theorem P2_off (n : Near a v c z (R1 ++ z :: R2)) (h : Simple (a :: v :: c :: (R1 ++ z :: R2))) {x : Pt} (hx : x ∈ c :: R1) : ∀ f ∈ edges (v :: z :: R2 ++ [a]), ¬ On f.1 f.2 x := by
  have P := h.parts
  intro f hf ho
  have hxP : x ∈ a :: v :: c :: (R1 ++ z :: R2) := by
    simp only [List.mem_append, List.mem_cons] at hx ⊢
    grind
  have nx : x ≠ v ∧ x ≠ a ∧ x ∉ R2 ∧ x ≠ z := by
    rcases List.mem_cons.1 hx with m | m
    · subst m; exact ⟨P.vc.symm, P.ac.symm, P.c2, P.zc.symm⟩
    · exact ⟨fun e => P.v1 (e ▸ m), fun e => P.a1 (e ▸ m), fun e => P.dis x m e, fun e => P.z1 (e ▸ m)⟩
  rw [E1] at hf
  rcases List.mem_cons.1 hf with rfl | hf
  · obtain ⟨y, hy⟩ := edge_from hxP
    rcases n.free h hy (on_left x y) ho with e | e
    · exact nx.1 e
    · exact nx.2.2.2 e
  rcases List.mem_append.1 hf with hf | hf
  · obtain ⟨g1, g2⟩ := chain_mem hf
    rcases h.vertex hxP (in_C2 hf) ho with e | e
    · rw [← e] at g1; simp only [List.mem_cons] at g1; grind
    · rw [← e] at g2; simp only [List.mem_append, List.mem_cons, List.not_mem_nil, or_false] at g2; grind
  · simp at hf; subst hf
    rcases h.vertex hxP (e := (a, v)) (by simp [edges3]) ho with e | e
    · exact nx.2.1 e
    · exact nx.1 e

/-- what may be cut off a part, away from the diagonal, may be cut off the whole -/
theorem P1_lift (n : Near a v c z (R1 ++ z :: R2)) (h : Simple (a :: v :: c :: (R1 ++ z :: R2))) (ht : Top (a :: v :: c :: (R1 ++ z :: R2)) v)
    (ih : ∀ m : List Pt, m.length < (v :: c :: R1 ++ [z]).length → Simple m → LT m → Good m) {u : Pt} (uv : u ≠ v) (uz : u ≠ z) (hu : CutAt (v :: c :: R1 ++ [z]) u) : CutAt (a :: v :: c :: (R1 ++ z :: R2)) u := by
  have hs := P1_simple n h
  have hL := P1_LT n h ht
  obtain ⟨p, s, h1, h2, h3⟩ := hu
  have g1 : (p, u) ∈ edges (a :: v :: c :: (R1 ++ z :: R2)) := by
    have h1' := h1
    rw [E1] at h1'
    rcases List.mem_cons.1 h1' with e | e
    · rw [e]; simp [edges3]
    rcases List.mem_append.1 e with e | e
    · exact in_C1 e
    · simp at e; exact absurd e.2 uv
  have g2 : (u, s) ∈ edges (a :: v :: c :: (R1 ++ z :: R2)) := by
    have h2' := h2
    rw [E1] at h2'
    rcases List.mem_cons.1 h2' with e | e
    · injection e with e _; exact absurd e uv
    rcases List.mem_append.1 e with e | e
    · exact in_C1 e
    · simp at e; exact absurd e.1 uz
  refine ⟨p, s, g1, g2, h3.imp id fun ⟨hpos, hno⟩ => ⟨hpos, fun x hx xp xu xs hT => ?_⟩⟩
  by_cases hx1 : x ∈ v :: c :: R1 ++ [z]
  · exact hno x hx1 xp xu xs hT
  · have hx2 : x ∈ R2 ++ [a] := by
      simp only [List.cons_append, List.mem_append, List.mem_cons, List.not_mem_nil, or_false] at hx hx1 ⊢
      grind
    have w1 := cut_one hs hL ih h1 h2 hpos hno hT (P1_off n h hx2)
    have w0 := P1_out n h ht hx2
    omega
theorem P2_lift (n : Near a v c z (R1 ++ z :: R2)) (h : Simple (a :: v :: c :: (R1 ++ z :: R2))) (ht : Top (a :: v :: c :: (R1 ++ z :: R2)) v)
    (ih : ∀ m : List Pt, m.length < (v :: z :: R2 ++ [a]).length → Simple m → LT m → Good m) {u : Pt} (uv : u ≠ v) (uz : u ≠ z) (hu : CutAt (v :: z :: R2 ++ [a]) u) : CutAt (a :: v :: c :: (R1 ++ z :: R2)) u := by
  have hs := P2_simple n h
  have hL := P2_LT n h ht
  obtain ⟨p, s, h1, h2, h3⟩ := hu
  have g1 : (p, u) ∈ edges (a :: v :: c :: (R1 ++ z :: R2)) := by
    have h1' := h1
    rw [E1] at h1'
    rcases List.mem_cons.1 h1' with e | e
    · injection e with _ e; exact absurd e uz
    rcases List.mem_append.1 e with e | e
    · exact in_C2 e
    · simp at e; exact absurd e.2 uv
  have g2 : (u, s) ∈ edges (a :: v :: c :: (R1 ++ z :: R2)) := by
    have h2' := h2
    rw [E1] at h2'
    rcases List.mem_cons.1 h2' with e | e
    · injection e with e _; exact absurd e uv
    rcases List.mem_append.1 e with e | e
    · exact in_C2 e
    · simp at e; rw [e.1, e.2]; simp [edges3]
  refine ⟨p, s, g1, g2, h3.imp id fun ⟨hpos, hno⟩ => ⟨hpos, fun x hx xp xu xs hT => ?_⟩⟩
  by_cases hx1 : x ∈ v :: z :: R2 ++ [a]
  · exact hno x hx1 xp xu xs hT
  · have hx2 : x ∈ c :: R1 := by
      simp only [List.cons_append, List.mem_append, List.mem_cons, List.not_mem_nil, or_false] at hx hx1 ⊢
      grind
    have w1 := cut_one hs hL ih h1 h2 hpos hno hT (P2_off n h hx2)
    have w0 := P2_out n h ht hx2
    omega
end diag

theorem edge_to {l : List Pt} {x : Pt} (h : x ∈ l) : ∃ y, (y, x) ∈ edges l := by
  have : x ∈ l.reverse := by simpa using h
  obtain ⟨y, hy⟩ := edge_from this
  exact ⟨y, mem_edges_rev.1 hy⟩

theorem LT_tri {a b c : Pt} (hL : LT [a, b, c]) : 0 < cr a b c := by
  obtain ⟨v, hv⟩ := top_exists (l := [a, b, c]) (by simp)
  have he : edges [a, b, c] = [(a, b), (b, c), (c, a)] := rfl
  have := hv.1
  simp only [List.mem_cons, List.not_mem_nil, or_false] at this
  rcases this with rfl | rfl | rfl
  · rw [← cr_rot2]; exact hL c v b (by simp [he]) (by simp [he]) hv
  · exact hL a v c (by simp [he]) (by simp [he]) hv
  · rw [← cr_rot]; exact hL b v a (by simp [he]) (by simp [he]) hv

theorem tri_ears {a b c : Pt} (h : 0 < cr a b c) (hn : [a, b, c].Nodup) : Ears [a, b, c] := by
  have he : edges [a, b, c] = [(a, b), (b, c), (c, a)] := rfl
  simp only [List.nodup_cons, List.mem_cons, List.not_mem_nil, or_false, not_or] at hn
  intro e hE
  rw [he] at hE
  simp only [List.mem_cons, List.not_mem_nil, or_false] at hE
  rcases hE with rfl | rfl | rfl
  · exact ⟨c, fun e => hn.1.2 e.symm, fun e => hn.2.1 e.symm, b, a, by simp [he], by simp [he], .inr ⟨by rw [cr_rot]; exact h, fun x hx => by simp only [List.mem_cons, List.not_mem_nil, or_false] at hx; grind⟩⟩
  · exact ⟨a, fun e => hn.1.1 e, fun e => hn.1.2 e, c, b, by simp [he], by simp [he], .inr ⟨by rw [cr_rot2]; exact h, fun x hx => by simp only [List.mem_cons, List.not_mem_nil, or_false] at hx; grind⟩⟩
  · exact ⟨b, fun e => hn.2.1 e, fun e => hn.1.1 e.symm, a, c, by simp [he], by simp [he], .inr ⟨h, fun x hx => by simp only [List.mem_cons, List.not_mem_nil, or_false] at hx; grind⟩⟩

theorem ears_step {a v c : Pt} {R : List Pt} (hR : R ≠ []) (h : Simple (a :: v :: c :: R)) (hL : LT (a :: v :: c :: R)) (ht : Top (a :: v :: c :: R) v)
    (ih : ∀ m : List Pt, m.length < R.length + 3 → Simple m → LT m → Good m ∧ Ears m) : Ears (a :: v :: c :: R) := by
  have hd := h.dist
  have hpos := hL a v c (by simp [edges3]) (by simp [edges3]) ht
  by_cases hno : ∀ x ∈ R, ¬ InT a v c x
  · have hc : Cuttable a v c R := .inr ⟨hpos, hno⟩
    have hv : CutAt (a :: v :: c :: R) v := ⟨a, c, by simp [edges3], by simp [edges3], .inr ⟨hpos, fun x hx xa xv xc => hno x (by simp only [List.mem_cons] at hx; grind)⟩⟩
    have hs := cut_rest h hR hc
    have hL' := cut_LT h hR hc hL (fun l hl h1 h2 => (ih l (by omega) h1 h2).1)
    obtain ⟨u, ua, uc, p, s, h1, h2, h3⟩ := (ih (a :: c :: R) (by simp) hs hL').2 (a, c) (by simp [edges2])
    simp only at ua uc
    have uv : u ≠ v := fun e => by
      have := edges_snd_mem h1
      simp only [e, List.mem_cons] at this
      rcases this with e | e | e
      · exact hd.pu e.symm
      · exact hd.us e
      · exact hd.uR e
    have g1 : (p, u) ∈ chain (c :: R ++ [a]) := by
      rw [edges2] at h1
      rcases List.mem_cons.1 h1 with e | e
      · injection e with _ e; exact absurd e uc
      · exact e
    have g2 : (u, s) ∈ chain (c :: R ++ [a]) := by
      rw [edges2] at h2
      rcases List.mem_cons.1 h2 with e | e
      · injection e with e _; exact absurd e ua
      · exact e
    have hcut : CutAt (a :: v :: c :: R) u := by
      refine ⟨p, s, chain_edge g1, chain_edge g2, h3.imp id fun ⟨ps, hn⟩ => ⟨ps, fun x hx xp xu xs => ?_⟩⟩
      by_cases xv : x = v
      · subst xv
        exact top_out ps (ht.2 p (edges_fst_mem (chain_edge (u := x) g1))) (ht.2 u (edges_snd_mem (chain_edge (u := x) g1))) (ht.2 s (edges_snd_mem (chain_edge (u := x) g2))) xp.symm xu.symm xs.symm
      · exact hn x (by simp only [List.mem_cons] at hx ⊢; grind) xp xu xs
    intro e hE
    by_cases e1 : v = e.1
    · have e2 : e.2 = c := h.from_eq (a := v) (b := e.2) (c := c) (Prod.ext (x := (v, e.2)) (y := e) e1 rfl ▸ hE) (by simp [edges3])
      exact ⟨u, by rw [← e1]; exact uv, by rw [e2]; exact uc, hcut⟩
    by_cases e2 : v = e.2
    · have e3 : e.1 = a := h.to_eq (a := e.1) (b := a) (c := v) (Prod.ext (x := (e.1, v)) (y := e) rfl e2 ▸ hE) (by simp [edges3])
      exact ⟨u, by rw [e3]; exact ua, by rw [← e2]; exact uv, hcut⟩
    exact ⟨v, e1, e2, hv⟩
  · have hex : ∃ x ∈ R, InT a v c x := by
      by_cases hx : ∃ x ∈ R, InT a v c x
      · exact hx
      · exact absurd (fun x hx' hT => hx ⟨x, hx', hT⟩) hno
    obtain ⟨z, hz, zT, zm⟩ := arg_max (f := cr c a) hex
    obtain ⟨R1, R2, rfl⟩ := List.append_of_mem hz
    have n : Near a v c z (R1 ++ z :: R2) := ⟨hpos, hz, zT, zm⟩
    have P := h.parts
    have len1 : (v :: c :: R1 ++ [z]).length < (R1 ++ z :: R2).length + 3 := by simp only [List.length_cons, List.length_append, List.length_nil]; omega
    have len2 : (v :: z :: R2 ++ [a]).length < (R1 ++ z :: R2).length + 3 := by simp only [List.length_cons, List.length_append, List.length_nil]; omega
    obtain ⟨u1, a1, b1, c1⟩ := (ih _ len1 (P1_simple n h) (P1_LT n h ht)).2 (z, v) (by rw [E1]; simp)
    obtain ⟨u2, a2, b2, c2⟩ := (ih _ len2 (P2_simple n h) (P2_LT n h ht)).2 (v, z) (by rw [E1]; simp)
    have m1 : u1 ∈ v :: c :: R1 ++ [z] := by obtain ⟨p, s, h1, _⟩ := c1; exact edges_snd_mem h1
    have m2 : u2 ∈ v :: z :: R2 ++ [a] := by obtain ⟨p, s, h1, _⟩ := c2; exact edges_snd_mem h1
    have k1 := P1_lift n h ht (fun m hm h1 h2 => (ih m (by omega) h1 h2).1) b1 a1 c1
    have k2 := P2_lift n h ht (fun m hm h1 h2 => (ih m (by omega) h1 h2).1) a2 b2 c2
    simp only at a1 b1 a2 b2
    simp only [List.cons_append, List.mem_append, List.mem_cons, List.not_mem_nil, or_false] at m1 m2
    have d := P.dis
    intro e hE
    rw [edges3, C_split] at hE
    rcases List.mem_cons.1 hE with rfl | hE
    · refine ⟨u1, ?_, b1, k1⟩
      have := P.a1; have := P.ac; have := P.av; have := P.za
      grind
    rcases List.mem_cons.1 hE with rfl | hE
    · refine ⟨u2, a2, ?_, k2⟩
      have := P.c2; have := P.ac; have := P.vc; have := P.zc
      grind
    rcases List.mem_append.1 hE with hE | hE
    · obtain ⟨g1, g2⟩ := chain_mem hE
      simp only [List.mem_append, List.mem_cons, List.not_mem_nil, or_false] at g1 g2
      have := P.c2; have := P.ac; have := P.a1; have := P.za
      exact ⟨u2, by grind, by grind, k2⟩
    · obtain ⟨g1, g2⟩ := chain_mem hE
      simp only [List.mem_append, List.mem_cons, List.not_mem_nil, or_false] at g1 g2
      have := P.c2; have := P.ac; have := P.a1; have := P.za; have := P.zc
      exact ⟨u1, by grind, by grind, k1⟩

theorem main_aux (n : Nat) : ∀ l : List Pt, l.length < n → Simple l → LT l → Good l ∧ Ears l := by
  induction n with
  | zero => intro l hl; omega
  | succ n ih =>
    intro l hl hs hL
    have h3 := hs.three
    match l, h3 with
    | [a, b, c], _ =>
      have hp := LT_tri hL
      exact ⟨tri_good hp, tri_ears hp hs.nodup⟩
    | x :: y :: z :: t :: l', _ =>
      generalize hll : x :: y :: z :: t :: l' = l at *
      have hlen : 4 ≤ l.length := by rw [← hll]; simp
      obtain ⟨v, hv⟩ := top_exists (l := l) (by rw [← hll]; simp)
      obtain ⟨a, ha⟩ := edge_to hv.1
      obtain ⟨c, hc⟩ := edge_from hv.1
      obtain ⟨R, r⟩ := rot3 hs ha hc
      have e1 := r.1.length_eq
      have hR : R ≠ [] := fun e => by rw [e] at e1; simp at e1; omega
      have ears : Ears l := Ears.rot r.symm (ears_step hR (r.simple hs) (hL.rot r) (hv.perm r.1) (fun m hm => ih m (by simp at e1; omega)))
      refine ⟨?_, ears⟩
      obtain ⟨u, _, _, hu⟩ := ears (a, v) ha
      obtain ⟨p, s, R', r', hcut⟩ := hu.form hs
      have e2 := r'.1.length_eq
      have hR' : R' ≠ [] := fun e => by rw [e] at e2; simp at e2; omega
      have ih' : ∀ m : List Pt, m.length = R'.length + 2 → Simple m → LT m → Good m := fun m hm h1 h2 => (ih m (by simp at e2; omega) h1 h2).1
      have hs' := r'.simple hs
      exact r'.symm.good (cut_good hs' hR' hcut (ih' _ (by simp) (cut_rest hs' hR' hcut) (cut_LT hs' hR' hcut (hL.rot r') ih')))

theorem LT.good {l : List Pt} (h : Simple l) (hL : LT l) : Good l := (main_aux _ l (Nat.lt_succ_self _) h hL).1
theorem LT.ears {l : List Pt} (h : Simple l) (hL : LT l) : Ears l := (main_aux _ l (Nat.lt_succ_self _) h hL).2
/-- the turn at the top vertex is the area's sign -/
theorem LT_iff {l : List Pt} (h : Simple l) : LT l ↔ 0 < ar l := by
  constructor
  · intro hL; exact (hL.good h).area
  · intro ha
    by_cases hL : LT l; · exact hL
    have := ((LT_rev h hL).good h.reverse).area
    rw [ar_rev] at this
    grind
theorem ar_ne {l : List Pt} (h : Simple l) : ar l ≠ 0 := by
  by_cases hL : LT l
  · have := (hL.good h).area; grind
  · have := ((LT_rev h hL).good h.reverse).area
    rw [ar_rev] at this
    grind
end Geo
