/- A simple polygon with a left turn at its top vertex is good, and has vertices that may be cut off, away from any given side. -/
import Derived.Test.YtfgeengdmbabhaaGg
namespace Geo

def CutAt (l : List Pt) (u : Pt) : Prop := ∃ p s, (p, u) ∈ edges l ∧ (u, s) ∈ edges l ∧ (cr p u s = 0 ∨ (0 < cr p u s ∧ ∀ x ∈ l, x ≠ p → x ≠ u → x ≠ s → ¬ InT p u s x))
theorem CutAt.rot {l m : List Pt} (r : Rot l m) {u : Pt} (h : CutAt l u) : CutAt m u := by
  obtain ⟨p, s, h1, h2, h3⟩ := h
  refine ⟨p, s, r.2.mem_iff.1 h1, r.2.mem_iff.1 h2, h3.imp id fun ⟨a, b⟩ => ⟨a, fun x hx => b x (r.1.mem_iff.2 hx)⟩⟩
/-- in the form with the vertex in the second place -/
theorem CutAt.form {l : List Pt} (hs : Simple l) {u : Pt} (h : CutAt l u) : ∃ p s R, Rot l (p :: u :: s :: R) ∧ Cuttable p u s R := by
  obtain ⟨p, s, h1, h2, h3⟩ := h
  obtain ⟨R, r⟩ := rot3 hs h1 h2
  have hd := (r.simple hs).dist
  refine ⟨p, s, R, r, h3.imp id fun ⟨a, b⟩ => ⟨a, fun x hx => b x (r.1.mem_iff.2 (by simp [hx])) (fun e => hd.pR (e ▸ hx)) (fun e => hd.uR (e ▸ hx)) (fun e => hd.sR (e ▸ hx))⟩⟩
def Ears (l : List Pt) : Prop := ∀ e ∈ edges l, ∃ u, u ≠ e.1 ∧ u ≠ e.2 ∧ CutAt l u
theorem Ears.rot {l m : List Pt} (r : Rot l m) (h : Ears l) : Ears m := fun e he => by
  obtain ⟨u, h1, h2, h3⟩ := h e (r.2.mem_iff.2 he)
  exact ⟨u, h1, h2, h3.rot r⟩

/-- an inner point of an ear, off the sides -/
theorem cut_one {l : List Pt} (hs : Simple l) (hL : LT l) (ih : ∀ m : List Pt, m.length < l.length → Simple m → LT m → Good m) {p u s : Pt} (h1 : (p, u) ∈ edges l) (h2 : (u, s) ∈ edges l) (hpos : 0 < cr p u s)
    (hno : ∀ x ∈ l, x ≠ p → x ≠ u → x ≠ s → ¬ InT p u s x) {y : Pt} (hy : InT p u s y) (hoff : ∀ e ∈ edges l, ¬ On e.1 e.2 y) : w l y = 1 := by
  obtain ⟨R, r⟩ := rot3 hs h1 h2
  have hs' := r.simple hs
  have hd := hs'.dist
  have hoff' : ∀ e ∈ edges (p :: u :: s :: R), ¬ On e.1 e.2 y := fun e he => hoff e (r.2.mem_iff.2 he)
  have hno' : ∀ x ∈ R, ¬ InT p u s x := fun x hx => hno x (r.1.mem_iff.2 (by simp [hx])) (fun e => hd.pR (e ▸ hx)) (fun e => hd.uR (e ▸ hx)) (fun e => hd.sR (e ▸ hx))
  rw [w_perm r.2]
  by_cases hR : R = []
  · subst hR
    obtain ⟨i1, i2, i3⟩ := inT_pos hpos hy (hoff' (p, u) (by simp [edges3])) (hoff' (u, s) (by simp [edges3])) (hoff' (s, p) (by simp [edges3, chain]))
    exact tri_in i1 i2 i3
  · have hc : Cuttable p u s R := .inr ⟨hpos, hno'⟩
    have hlen := r.1.length_eq
    have ih' : ∀ m : List Pt, m.length = R.length + 2 → Simple m → LT m → Good m := fun m hm => ih m (by simp at hlen; omega)
    exact ear_one hs' hR hpos hno' (ih' _ (by simp) (cut_rest hs' hR hc) (cut_LT hs' hR hc (hL.rot r) ih')) hy hoff'

theorem arg_max {l : List Pt} {P : Pt → Prop} {f : Pt → Rat} (h : ∃ x ∈ l, P x) : ∃ z ∈ l, P z ∧ ∀ x ∈ l, P x → f x ≤ f z := by
  induction l with
  | nil => obtain ⟨x, hx, _⟩ := h; simp at hx
  | cons a l ih =>
    by_cases hl : ∃ x ∈ l, P x
    · obtain ⟨z, hz, pz, mz⟩ := ih hl
      by_cases ha : P a ∧ f z < f a
      · refine ⟨a, List.mem_cons_self .., ha.1, fun x hx px => ?_⟩
        rcases List.mem_cons.1 hx with rfl | hx
        · grind
        · have := mz x hx px; grind
      · refine ⟨z, List.mem_cons_of_mem _ hz, pz, fun x hx px => ?_⟩
        rcases List.mem_cons.1 hx with rfl | hx
        · grind
        · exact mz x hx px
    · obtain ⟨x, hx, px⟩ := h
      rcases List.mem_cons.1 hx with rfl | hx
      · refine ⟨x, List.mem_cons_self .., px, fun y hy py => ?_⟩
        rcases List.mem_cons.1 hy with rfl | hy
        · grind
        · exact absurd ⟨y, hy, py⟩ hl
      · exact absurd ⟨x, hx, px⟩ hl

theorem chain_const {f : Pt → Int} {l : List Pt} (h : ∀ e ∈ chain l, f e.1 = f e.2) : ∀ x ∈ l, ∀ y ∈ l, f x = f y := by
  induction l with
  | nil => intro x hx; simp at hx
  | cons a l ih =>
    cases l with
    | nil => intro x hx y hy; simp at hx hy; rw [hx, hy]
    | cons b l =>
      have h1 : f a = f b := h (a, b) (by simp [chain])
      have h2 := ih (fun e he => h e (by simp only [chain]; exact List.mem_cons_of_mem _ he))
      have h3 : ∀ x ∈ a :: b :: l, f x = f b := fun x hx => by
        rcases List.mem_cons.1 hx with rfl | hx
        · exact h1
        · exact h2 x hx b (List.mem_cons_self ..)
      intro x hx y hy
      rw [h3 x hx, h3 y hy]

section diag
variable {a v c z : Pt} {R1 R2 : List Pt}
theorem C_split (a c z : Pt) (R1 R2 : List Pt) : chain (c :: (R1 ++ z :: R2) ++ [a]) = chain (c :: R1 ++ [z]) ++ chain (z :: R2 ++ [a]) := by
  have := chain_append (c :: R1) z (R2 ++ [a])
  simpa using this
theorem E1 (v c z : Pt) (R1 : List Pt) : edges (v :: c :: R1 ++ [z]) = (v, c) :: (chain (c :: R1 ++ [z]) ++ [(z, v)]) := by
  have := chain_append (v :: c :: R1) z [v]
  show chain (v :: c :: R1 ++ [z] ++ [v]) = _
  rw [List.append_assoc]
  simpa [chain] using this
/-- the nearest vertex in the triangle at the top -/
structure Near (a v c z : Pt) (R : List Pt) : Prop where
  pos : 0 < cr a v c
  mem : z ∈ R
  inT : InT a v c z
  far : ∀ x ∈ R, InT a v c x → cr c a x ≤ cr c a z
variable {R : List Pt}
theorem Near.left (n : Near a v c z R) (h : Simple (a :: v :: c :: R)) : 0 < cr a v z := by
  have i := n.inT
  have hd := h.dist
  by_cases e : cr a v z = 0
  · exfalso
    rcases h.vertex (x := z) (by simp [n.mem]) (e := (a, v)) (by simp [edges3]) (tri_side n.pos e i.2.1 i.2.2) with e | e
    · simp only at e; exact hd.pR (e ▸ n.mem)
    · simp only at e; exact hd.uR (e ▸ n.mem)
  · have := i.1; grind
theorem Near.right (n : Near a v c z R) (h : Simple (a :: v :: c :: R)) : 0 < cr v c z := by
  have i := n.inT
  have hd := h.dist
  by_cases e : cr v c z = 0
  · exfalso
    rcases h.vertex (x := z) (by simp [n.mem]) (e := (v, c)) (by simp [edges3]) (tri_side (by rw [cr_rot]; exact n.pos) e i.2.2 i.1) with e | e
    · simp only at e; exact hd.uR (e ▸ n.mem)
    · simp only at e; exact hd.sR (e ▸ n.mem)
  · have := i.2.1; grind

/-- the diagonal meets the sides in its ends alone -/
theorem Near.free (n : Near a v c z R) (h : Simple (a :: v :: c :: R)) {f : Pt × Pt} (hf : f ∈ edges (a :: v :: c :: R)) {k : Pt} (hk : On f.1 f.2 k) (hd : On v z k) : k = v ∨ k = z := by
  by_cases kv : k = v; · exact .inl kv
  by_cases kz : k = z; · exact .inr kz
  exfalso
  have l := n.left h
  have r := n.right h
  have hpos := n.pos
  obtain ⟨t, t0, t1, et⟩ := open_at hd kv kz
  have k1 : 0 < cr a v k := by rw [et, cr_lerp, cr_self']; have := Rat.mul_pos t0 l; grind
  have k2 : 0 < cr v c k := by rw [et, cr_lerp, cr_self]; have := Rat.mul_pos t0 r; grind
  have hz := cr_sum a v c z
  have k3 : cr c a z < cr c a k := by
    have r2 := cr_rot2 a v c
    rw [et, cr_lerp, r2]
    have := Rat.mul_pos (a := 1 - t) (b := cr a v c - cr c a z) (by grind) (by grind)
    grind
  rw [edges3] at hf
  rcases List.mem_cons.1 hf with rfl | hf
  · have := cr_on hk; grind
  rcases List.mem_cons.1 hf with rfl | hf
  · have := cr_on hk; grind
  obtain ⟨m1, m2⟩ := chain_mem hf
  have key : ∀ x, x ∈ c :: R ++ [a] → (∀ k', On k x k' → On f.1 f.2 k') → cr c a k ≤ cr c a x → False := by
    intro x hx seg hle
    have i := n.inT
    have i3 := i.2.2
    have hxR : x ∈ R := by
      rcases List.mem_append.1 hx with hx | hx
      · rcases List.mem_cons.1 hx with rfl | hx
        · rw [cr_self] at hle; grind
        · exact hx
      · simp at hx; subst hx; rw [cr_self'] at hle; grind
    have nT : ¬ InT a v c x := fun hT => by have := n.far x hxR hT; grind
    have e1 : cr a v x < 0 ∨ cr v c x < 0 := by unfold InT at nT; grind
    obtain ⟨k', o, hk'⟩ := exit2 k1 k2 e1
    have p3 := on_cr_pos (s := c) (t := a) o (by grind) (by grind)
    rcases hk' with ⟨e, g⟩ | ⟨e, g⟩
    · have := h.on_pu hf (seg k' o) (tri_side hpos e g (by grind))
      subst this; rw [cr_self'] at p3; grind
    · have := h.on_us hf (seg k' o) (tri_side (by rw [cr_rot]; exact hpos) e (by grind) g)
      subst this; rw [cr_self] at p3; grind
  by_cases c1 : cr c a k ≤ cr c a f.1
  · exact key f.1 (List.mem_append_left _ m1) (fun k' o => on_sub hk (on_left _ _) o) c1
  by_cases c2 : cr c a k ≤ cr c a f.2
  · exact key f.2 (List.mem_cons_of_mem _ m2) (fun k' o => on_sub hk (on_right _ _) o) c2
  obtain ⟨q, q0, q1, eq⟩ := hk
  have e := cr_lerp c a f.1 f.2 q
  rw [← eq] at e
  have g1 := Rat.mul_nonneg (a := 1 - q) (b := cr c a k - cr c a f.1) (by grind) (by grind)
  have g2 := Rat.mul_nonneg (a := q) (b := cr c a k - cr c a f.2) (by grind) (by grind)
  by_cases hq : q = 0
  · subst hq; grind
  · have g3 := Rat.mul_pos (a := q) (b := cr c a k - cr c a f.2) (by grind) (by grind)
    grind

/-- the places of the vertices -/
structure Parts (a v c z : Pt) (R1 R2 : List Pt) : Prop where
  a1 : a ∉ R1
  a2 : a ∉ R2
  v1 : v ∉ R1
  v2 : v ∉ R2
  c1 : c ∉ R1
  c2 : c ∉ R2
  z1 : z ∉ R1
  z2 : z ∉ R2
  av : a ≠ v
  ac : a ≠ c
  vc : v ≠ c
  za : z ≠ a
  zv : z ≠ v
  zc : z ≠ c
  dis : ∀ x ∈ R1, x ∉ R2
  n1 : R1.Nodup
  n2 : R2.Nodup
theorem Simple.parts (h : Simple (a :: v :: c :: (R1 ++ z :: R2))) : Parts a v c z R1 R2 := by
  have hn := h.nodup
  have hd := h.dist
  have h1 := hd.pR; have h2 := hd.uR; have h3 := hd.sR
  simp only [List.mem_append, List.mem_cons, not_or] at h1 h2 h3
  simp only [List.nodup_cons] at hn
  have hn' := hn.2.2.2
  rw [List.nodup_append] at hn'
  obtain ⟨g1, g2, g3⟩ := hn'
  rw [List.nodup_cons] at g2
  exact ⟨h1.1, h1.2.2, h2.1, h2.2.2, h3.1, h3.2.2, fun hz => g3 z hz z (by simp) rfl, g2.1, hd.pu, hd.ps, hd.us, fun e => h1.2.1 e.symm, fun e => h2.2.1 e.symm, fun e => h3.2.1 e.symm, fun x hx hx2 => g3 x hx x (by simp [hx2]) rfl, g1, g2.2⟩
theorem in_C1 {f : Pt × Pt} (hf : f ∈ chain (c :: R1 ++ [z])) : f ∈ edges (a :: v :: c :: (R1 ++ z :: R2)) := by
  rw [edges3, C_split]; exact List.mem_cons_of_mem _ (List.mem_cons_of_mem _ (List.mem_append_left _ hf))
theorem in_C2 {f : Pt × Pt} (hf : f ∈ chain (z :: R2 ++ [a])) : f ∈ edges (a :: v :: c :: (R1 ++ z :: R2)) := by
  rw [edges3, C_split]; exact List.mem_cons_of_mem _ (List.mem_cons_of_mem _ (List.mem_append_right _ hf))

theorem P1_simple (n : Near a v c z (R1 ++ z :: R2)) (h : Simple (a :: v :: c :: (R1 ++ z :: R2))) : Simple (v :: c :: R1 ++ [z]) := by
  have P := h.parts
  have inP : ∀ f, f ∈ (v, c) :: chain (c :: R1 ++ [z]) → f ∈ edges (a :: v :: c :: (R1 ++ z :: R2)) := fun f hf => by
    rcases List.mem_cons.1 hf with rfl | hf
    · simp [edges3]
    · exact in_C1 hf
  -- a side and the diagonal
  have key : ∀ f, f ∈ (v, c) :: chain (c :: R1 ++ [z]) → ∀ k, On f.1 f.2 k → On v z k → (k = v ∧ k = f.1) ∨ (k = z ∧ k = f.2) := by
    intro f hf k k1 k2
    have hv : f.1 ≠ z := by
      rcases List.mem_cons.1 hf with rfl | hf
      · exact P.zv.symm
      · intro e
        rcases List.mem_cons.1 (chain_mem hf).1 with e' | e'
        · exact P.zc (e.symm.trans e')
        · exact P.z1 (e ▸ e')
    have hz : f.2 ≠ v := by
      rcases List.mem_cons.1 hf with rfl | hf
      · exact P.vc.symm
      · intro e
        rcases List.mem_append.1 (chain_mem hf).2 with e' | e'
        · exact P.v1 (e ▸ e')
        · simp at e'; exact P.zv (e'.symm.trans e)
    rcases n.free h (inP f hf) k1 k2 with rfl | rfl
    · rcases h.vertex (x := k) (by simp) (inP f hf) k1 with e | e
      · exact .inl ⟨rfl, e⟩
      · exact absurd e.symm hz
    · rcases h.vertex (x := k) (by simp) (inP f hf) k1 with e | e
      · exact absurd e.symm hv
      · exact .inr ⟨rfl, e⟩
  refine ⟨by simp, ?_, ?_⟩
  · have e : v :: c :: R1 ++ [z] = v :: c :: (R1 ++ [z]) := rfl
    rw [e]
    simp only [List.nodup_cons, List.mem_cons, List.mem_append, List.not_mem_nil, or_false, not_or, List.nodup_append]
    exact ⟨⟨P.vc, P.v1, P.zv.symm⟩, ⟨P.c1, P.zc.symm⟩, P.n1, ⟨by simp, List.nodup_nil⟩, fun x hx y hy e => P.z1 (by rw [← hy, ← e]; exact hx)⟩
  · intro e he f hf hne k k1 k2
    rw [E1, ← List.cons_append] at he hf
    rcases List.mem_append.1 he with he | he <;> rcases List.mem_append.1 hf with hf | hf
    · exact h.apart e (inP e he) f (inP f hf) hne k k1 k2
    · simp at hf; subst hf
      rcases key e he k k1 (on_comm k2) with ⟨x, y⟩ | ⟨x, y⟩
      · exact .inl ⟨y, x⟩
      · exact .inr ⟨y, x⟩
    · simp at he; subst he
      rcases key f hf k k2 (on_comm k1) with ⟨x, y⟩ | ⟨x, y⟩
      · exact .inr ⟨x, y⟩
      · exact .inl ⟨x, y⟩
    · simp at he hf; subst he hf; exact absurd rfl hne

theorem P2_simple (n : Near a v c z (R1 ++ z :: R2)) (h : Simple (a :: v :: c :: (R1 ++ z :: R2))) : Simple (v :: z :: R2 ++ [a]) := by
  have P := h.parts
  have inP : ∀ f, f ∈ chain (z :: R2 ++ [a]) ++ [(a, v)] → f ∈ edges (a :: v :: c :: (R1 ++ z :: R2)) := fun f hf => by
    rcases List.mem_append.1 hf with hf | hf
    · exact in_C2 hf
    · simp at hf; subst hf; simp [edges3]
  have key : ∀ f, f ∈ chain (z :: R2 ++ [a]) ++ [(a, v)] → ∀ k, On f.1 f.2 k → On v z k → (k = v ∧ k = f.2) ∨ (k = z ∧ k = f.1) := by
    intro f hf k k1 k2
    have hv : f.1 ≠ v := by
      rcases List.mem_append.1 hf with hf | hf
      · intro e
        rcases List.mem_cons.1 (chain_mem hf).1 with e' | e'
        · exact P.zv (e'.symm.trans e)
        · exact P.v2 (e ▸ e')
      · simp at hf; subst hf; exact P.av
    have hz : f.2 ≠ z := by
      rcases List.mem_append.1 hf with hf | hf
      · intro e
        rcases List.mem_append.1 (chain_mem hf).2 with e' | e'
        · exact P.z2 (e ▸ e')
        · simp at e'; exact P.za (e.symm.trans e')
      · simp at hf; subst hf; exact P.zv.symm
    rcases n.free h (inP f hf) k1 k2 with rfl | rfl
    · rcases h.vertex (x := k) (by simp) (inP f hf) k1 with e | e
      · exact absurd e.symm hv
      · exact .inl ⟨rfl, e⟩
    · rcases h.vertex (x := k) (by simp) (inP f hf) k1 with e | e
      · exact .inr ⟨rfl, e⟩
      · exact absurd e.symm hz
  refine ⟨by simp, ?_, ?_⟩
  · have e : v :: z :: R2 ++ [a] = v :: z :: (R2 ++ [a]) := rfl
    rw [e]
    simp only [List.nodup_cons, List.mem_cons, List.mem_append, List.not_mem_nil, or_false, not_or, List.nodup_append]
    exact ⟨⟨P.zv.symm, P.v2, P.av.symm⟩, ⟨P.z2, P.za⟩, P.n2, ⟨by simp, List.nodup_nil⟩, fun x hx y hy e => P.a2 (by rw [← hy, ← e]; exact hx)⟩
  · intro e he f hf hne k k1 k2
    rw [E1] at he hf
    rcases List.mem_cons.1 he with rfl | he <;> rcases List.mem_cons.1 hf with rfl | hf
    · exact absurd rfl hne
    · rcases key f hf k k2 k1 with ⟨x, y⟩ | ⟨x, y⟩
      · exact .inl ⟨x, y⟩
      · exact .inr ⟨x, y⟩
    · rcases key e he k k1 k2 with ⟨x, y⟩ | ⟨x, y⟩
      · exact .inr ⟨y, x⟩
      · exact .inl ⟨y, x⟩
    · exact h.apart e (inP e he) f (inP f hf) hne k k1 k2

theorem P1_LT (n : Near a v c z (R1 ++ z :: R2)) (h : Simple (a :: v :: c :: (R1 ++ z :: R2))) (ht : Top (a :: v :: c :: (R1 ++ z :: R2)) v) : LT (v :: c :: R1 ++ [z]) := by
  have hs := P1_simple n h
  intro a' v' c' h1 h2 ht'
  have e : v = v' := top_unique ⟨by simp, fun x hx => ht.2 x (by simp only [List.cons_append, List.mem_cons, List.mem_append, List.not_mem_nil, or_false] at hx ⊢; grind)⟩ ht'
  subst e
  have e1 := hs.to_eq h1 (show (z, v) ∈ _ by rw [E1]; simp)
  have e2 := hs.from_eq h2 (show (v, c) ∈ _ by rw [E1]; simp)
  subst e1 e2
  have := n.right h
  rw [← cr_rot]; exact this
theorem P2_LT (n : Near a v c z (R1 ++ z :: R2)) (h : Simple (a :: v :: c :: (R1 ++ z :: R2))) (ht : Top (a :: v :: c :: (R1 ++ z :: R2)) v) : LT (v :: z :: R2 ++ [a]) := by
  have hs := P2_simple n h
  intro a' v' c' h1 h2 ht'
  have e : v = v' := top_unique ⟨by simp, fun x hx => ht.2 x (by simp only [List.cons_append, List.mem_cons, List.mem_append, List.not_mem_nil, or_false] at hx ⊢; grind)⟩ ht'
  subst e
  have e1 := hs.to_eq h1 (show (a, v) ∈ _ by rw [E1]; simp)
  have e2 := hs.from_eq h2 (show (v, z) ∈ _ by rw [E1]; simp)
  subst e1 e2
  exact n.left h
end diag
end Geo
