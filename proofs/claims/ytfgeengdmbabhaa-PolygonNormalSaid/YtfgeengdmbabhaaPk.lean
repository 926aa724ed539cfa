import Derived.Test.YtfgeengdmbabhaaA5
/- Plain laws of the normal form: it does not depend on the first vertex and the direction, and is its own normal form. -/
namespace Go.Proofs.Ytfgeengdmbabhaa
open Geo (Pt cr On Simple edges mem_edges esum)

/-- one list read from another place on -/
def Turn (l m : List Z2) : Prop := ∃ A B, l = A ++ B ∧ m = B ++ A
theorem Turn.refl (l : List Z2) : Turn l l := ⟨l, [], by simp, by simp⟩
theorem Turn.symm {l m : List Z2} (h : Turn l m) : Turn m l := by
  obtain ⟨A, B, h1, h2⟩ := h; exact ⟨B, A, h2, h1⟩
theorem Turn.trans {l m n : List Z2} (h : Turn l m) (k : Turn m n) : Turn l n := by
  obtain ⟨A, B, rfl, rfl⟩ := h
  obtain ⟨C, D, h1, rfl⟩ := k
  rcases List.append_eq_append_iff.1 h1 with ⟨E, rfl, rfl⟩ | ⟨E, rfl, rfl⟩
  · exact ⟨E, D ++ B, by simp, by simp⟩
  · exact ⟨A ++ C, E, by simp, by simp⟩
theorem Turn.rot {l m : List Z2} (h : Turn l m) : Geo.Rot (poly l) (poly m) := by
  obtain ⟨A, B, rfl, rfl⟩ := h
  exact rot_poly List.perm_append_comm (Geo.edges_rot A B)
theorem Turn.edges {l m : List Z2} (h : Turn l m) : (Geo.edges l).Perm (Geo.edges m) := by
  obtain ⟨A, B, rfl, rfl⟩ := h; exact Geo.edges_rot A B
theorem Turn.perm {l m : List Z2} (h : Turn l m) : l.Perm m := by
  obtain ⟨A, B, rfl, rfl⟩ := h; exact List.perm_append_comm
theorem Turn.filter {l m : List Z2} (h : Turn l m) (f : Z2 → Bool) : Turn (l.filter f) (m.filter f) := by
  obtain ⟨A, B, rfl, rfl⟩ := h
  exact ⟨A.filter f, B.filter f, by simp, by simp⟩
theorem Turn.reverse {l m : List Z2} (h : Turn l m) : Turn l.reverse m.reverse := by
  obtain ⟨A, B, rfl, rfl⟩ := h
  exact ⟨B.reverse, A.reverse, by simp, by simp⟩
theorem rotZ_turn (l : List Z2) : Turn l (rotZ l) := ⟨l.take (firstTo l l.length), l.drop (firstTo l l.length), by rw [List.take_append_drop], rfl⟩
/-- equal first elements -/
theorem Turn.eq {l m : List Z2} (h : Turn l m) (hn : l.Nodup) {x : Z2} {l' m' : List Z2} (h1 : l = x :: l') (h2 : m = x :: m') : l = m := by
  obtain ⟨A, B, rfl, rfl⟩ := h
  cases A with
  | nil => simp
  | cons a A =>
    cases B with
    | nil => simp
    | cons b B =>
      simp only [List.cons_append, List.cons.injEq] at h1 h2
      rw [List.nodup_append] at hn
      exact absurd (h1.1.trans h2.1.symm) (hn.2.2 a (by simp) b (by simp))

theorem lessZ_irr (a : Z2) : lessZ a a = false := by rw [Bool.eq_false_iff]; intro h; rw [lessZ_iff] at h; omega
theorem lessZ_trans' {a b c : Z2} (h1 : lessZ b a = false) (h2 : lessZ c b = false) : lessZ c a = false := by
  rw [Bool.eq_false_iff] at *
  intro h
  rw [ne_eq, lessZ_iff] at h1 h2
  rw [lessZ_iff] at h
  omega
theorem lessZ_total {a b : Z2} (h1 : lessZ a b = false) (h2 : lessZ b a = false) : a = b := by
  rw [Bool.eq_false_iff] at h1 h2
  rw [ne_eq, lessZ_iff] at h1 h2
  have hx : a.x = b.x := by omega
  have hy : a.y = b.y := by omega
  cases a; cases b; simp_all
theorem firstTo_least (l : List Z2) (k : Nat) : ∀ j, j < k → lessZ (pt l j) (pt l (firstTo l k)) = false := by
  induction k with
  | zero => intro j hj; omega
  | succ k ih =>
    intro j hj
    simp only [firstTo]
    cases hl : lessZ (pt l k) (pt l (firstTo l k)) with
    | true =>
      rw [if_pos rfl]
      by_cases e : j = k
      · subst e; exact lessZ_irr _
      · have h1 := ih j (by omega)
        rw [Bool.eq_false_iff] at h1 ⊢
        rw [ne_eq, lessZ_iff] at h1 ⊢
        rw [lessZ_iff] at hl
        omega
    | false =>
      simp only [Bool.false_eq_true, if_false]
      by_cases e : j = k
      · subst e; exact hl
      · exact ih j (by omega)
/-- the normal list begins with its least element -/
theorem rotZ_head {l : List Z2} (hne : l ≠ []) : ∃ x m, rotZ l = x :: m ∧ x ∈ l ∧ ∀ y ∈ l, lessZ y x = false := by
  have hp : 0 < l.length := by cases l with | nil => exact absurd rfl hne | cons => simp
  have hf := firstTo_lt l l.length hp
  refine ⟨pt l (firstTo l l.length), l.drop (firstTo l l.length + 1) ++ l.take (firstTo l l.length), ?_, pt_mem hf, fun y hy => ?_⟩
  · unfold rotZ
    rw [List.drop_eq_getElem_cons hf, pt_eq hf]; rfl
  · obtain ⟨j, hj, rfl⟩ := List.getElem_of_mem hy
    rw [← pt_eq hj]
    exact firstTo_least l l.length j hj
theorem rotZ_same {l m : List Z2} (h : Turn l m) (hn : l.Nodup) : rotZ l = rotZ m := by
  by_cases hne : l = []
  · subst hne
    have := h.perm.length_eq
    have : m = [] := List.length_eq_zero_iff.1 (by simpa using this.symm)
    rw [this]
  · have hne2 : m ≠ [] := fun e => hne (List.length_eq_zero_iff.1 (by have := h.perm.length_eq; rw [e] at this; simpa using this))
    obtain ⟨x, l', e1, x1, x2⟩ := rotZ_head hne
    obtain ⟨y, m', e2, y1, y2⟩ := rotZ_head hne2
    have exy : x = y := lessZ_total (y2 x (h.perm.mem_iff.1 x1)) (x2 y (h.perm.mem_iff.2 y1))
    subst exy
    have ht := ((rotZ_turn l).symm.trans h).trans (rotZ_turn m)
    exact ht.eq ((rotZ_perm l).nodup_iff.2 hn) e1 e2

/-- the corners as a filter -/
theorem corners_filter {ps : List Z2} (h : Simple (poly ps)) : cornersTo ps ps.length = ps.filter fun p => !Geo.flatB (poly ps) (toPt p) := by
  have key : ∀ k, k ≤ ps.length → cornersTo ps k = (ps.take k).filter fun p => !Geo.flatB (poly ps) (toPt p) := by
    intro k
    induction k with
    | zero => intro _; simp [cornersTo]
    | succ k ih =>
      intro hk
      have hlt : k < ps.length := by omega
      simp only [cornersTo]
      rw [ih (by omega), List.take_succ_eq_append_getElem hlt, List.filter_append]
      have e : Geo.flatB (poly ps) (toPt ps[k]) = decide (bendZ ps k = 0) := by
        rw [Bool.eq_iff_iff, Geo.flatB_iff, decide_eq_true_eq, bend_flat h hlt, pt_eq hlt]
      by_cases hb : bendZ ps k = 0
      · rw [if_pos hb]; simp [e, hb]
      · rw [if_neg hb]; simp [e, hb, pt_eq hlt]
  have := key ps.length (Nat.le_refl _)
  rwa [List.take_length] at this
theorem flatB_same {l m : List Pt} (h : ∀ v, Geo.Flat l v ↔ Geo.Flat m v) (v : Pt) : Geo.flatB l v = Geo.flatB m v := by
  rw [Bool.eq_iff_iff, Geo.flatB_iff, Geo.flatB_iff]; exact h v
theorem nodup_Z {ps : List Z2} (h : Simple (poly ps)) : ps.Nodup := by
  have := h.nodup
  unfold poly at this
  unfold List.Nodup at this ⊢
  rw [List.pairwise_map] at this
  exact this.imp fun h e => h (by rw [e])
theorem corn_nodup {ps : List Z2} (h : Simple (poly ps)) : (corn ps).Nodup := by
  have hf : (cornersTo ps ps.length).Nodup := by
    rw [corners_filter h]
    exact (nodup_Z h).sublist List.filter_sublist
  unfold corn
  split
  · exact List.pairwise_reverse.2 (List.Pairwise.imp (fun h e => h e.symm) hf)
  · exact hf
theorem corn_turn {ps qs : List Z2} (h : Simple (poly ps)) (t : Turn ps qs) : Turn (corn ps) (corn qs) := by
  have hq := t.rot.simple h
  have ha : areaZ qs = areaZ ps := (areaZ_same t.edges).symm
  have hc : Turn (cornersTo ps ps.length) (cornersTo qs qs.length) := by
    rw [corners_filter h, corners_filter hq]
    have e : (fun p : Z2 => !Geo.flatB (poly qs) (toPt p)) = fun p => !Geo.flatB (poly ps) (toPt p) := by
      funext p
      rw [flatB_same (fun v => (Geo.Flat.rot t.rot).symm)]
    rw [e]
    exact t.filter _
  unfold corn
  rw [ha]
  split
  · exact hc.reverse
  · exact hc
theorem corn_rev {ps : List Z2} (h : Simple (poly ps)) : corn ps.reverse = corn ps := by
  have hr : Simple (poly ps.reverse) := by rw [poly_reverse]; exact h.reverse
  have hne := area_ne h
  have e : cornersTo ps.reverse ps.reverse.length = (cornersTo ps ps.length).reverse := by
    rw [corners_filter h, corners_filter hr, List.filter_reverse]
    congr 2
    funext p
    rw [poly_reverse, flatB_same (fun v => flat_reverse)]
  unfold corn
  rw [e, areaZ_reverse]
  by_cases ha : areaZ ps < 0
  · rw [if_neg (by omega), if_pos ha]
  · rw [if_pos (by omega), if_neg ha, List.reverse_reverse]
theorem chk_turn {ps qs : List Z2} (t : Turn ps qs) : chkZ qs = chkZ ps := by
  refine chkZ_same t.perm.length_eq.symm ?_ fun _ => ⟨fun h => t.rot.symm.simple h, fun h => t.rot.simple h⟩
  rw [Bool.eq_iff_iff, List.any_eq_true, List.any_eq_true]
  exact ⟨fun ⟨x, hx, h⟩ => ⟨x, t.perm.mem_iff.2 hx, h⟩, fun ⟨x, hx, h⟩ => ⟨x, t.perm.mem_iff.1 hx, h⟩⟩
/-- independent of the first vertex -/
theorem norm_turn {ps qs : List Z2} (t : Turn ps qs) : normZ qs = normZ ps := by
  by_cases h : chkZ ps = 0
  · rw [normZ_pos h, normZ_pos (by rw [chk_turn t]; exact h)]
    unfold normR
    exact (rotZ_same (corn_turn (chk_simple h) t) (corn_nodup (chk_simple h))).symm
  · rw [normZ_neg h, normZ_neg (by rw [chk_turn t]; exact h)]
/-- independent of the direction -/
theorem norm_rev (ps : List Z2) : normZ ps.reverse = normZ ps := by
  by_cases h : chkZ ps = 0
  · rw [normZ_pos h, normZ_pos (by rw [chkZ_reverse]; exact h)]
    unfold normR
    rw [corn_rev (chk_simple h)]
  · rw [normZ_neg h, normZ_neg (by rw [chkZ_reverse]; exact h)]
theorem normZ_le (ps : List Z2) : (normZ ps).length ≤ ps.length := by
  by_cases h : chkZ ps = 0
  · rw [normZ_pos h]
    unfold normR
    rw [(rotZ_perm _).length_eq]
    exact corn_length ps
  · rw [normZ_neg h]; simp
theorem norm_chk {ps : List Z2} (h : chkZ ps = 0) : chkZ (normZ ps) = 0 := by
  have n := norm_norm h
  have h3 : 3 ≤ (normZ ps).length := by have := n.simple.three; simpa using this
  have h40 := Nat.le_trans (normZ_le ps) (chkZ_zero h).1
  have ha : (normZ ps).any outZ = false := by
    rw [List.any_eq_false]; intro p hp; rw [n.in_range h p hp]; simp
  have hs : simpleZ (normZ ps) = true := (simpleZ_iff h3).2 n.simple
  unfold chkZ
  rw [if_neg (by omega), if_neg (by omega), if_neg (by rw [ha]; simp), if_pos hs]
/-- its own normal form -/
theorem norm_self {ps : List Z2} (h : chkZ ps = 0) : normZ (normZ ps) = normZ ps := by
  have n := norm_norm h
  have hc : corn (normZ ps) = normZ ps := by
    unfold corn
    rw [if_neg (by have := n.pos; omega), corners_filter n.simple, List.filter_eq_self]
    intro p hp
    have := n.strict (toPt p) (List.mem_map_of_mem hp)
    cases hb : Geo.flatB (poly (normZ ps)) (toPt p) with
    | false => rfl
    | true => exact absurd ((Geo.flatB_iff _ _).1 hb) this
  rw [normZ_pos (norm_chk h)]
  unfold normR
  rw [hc]
  have e : normZ ps = rotZ (corn ps) := by rw [normZ_pos h]; rfl
  have := rotZ_same (rotZ_turn (corn ps)) (corn_nodup (chk_simple h))
  rw [← e] at this
  rw [← this, e]
theorem norm_least {ps : List Z2} (h : chkZ ps = 0) {i : Nat} (hi : i < (normZ ps).length) (h0 : 0 < i) : lessZ (pt (normZ ps) 0) (pt (normZ ps) i) = true := by
  have n := norm_norm h
  have hne : corn ps ≠ [] := fun e => by
    have h3 := n.simple.three
    rw [normZ_pos h] at h3
    unfold normR at h3
    rw [e] at h3
    simp [rotZ] at h3
  obtain ⟨x, m, e1, x1, x2⟩ := rotZ_head hne
  have e : normZ ps = x :: m := by rw [normZ_pos h]; exact e1
  have hnd := nodup_Z n.simple
  have hm : pt (normZ ps) i ∈ corn ps := by
    have : pt (normZ ps) i ∈ normZ ps := pt_mem hi
    generalize pt (normZ ps) i = z at this ⊢
    rw [normZ_pos h] at this
    exact (rotZ_perm _).mem_iff.1 this
  have hx : pt (normZ ps) 0 = x := by rw [e]; rfl
  rw [hx]
  have l1 := x2 _ hm
  cases l2 : lessZ x (pt (normZ ps) i) with
  | true => rfl
  | false =>
    exfalso
    have e2 := lessZ_total l2 l1
    rw [← hx, pt_eq hi, pt_eq (show 0 < (normZ ps).length by omega)] at e2
    have := (List.getElem_inj hnd).1 e2
    omega
theorem norm_bend {ps : List Z2} (h : chkZ ps = 0) {i : Nat} (hi : i < (normZ ps).length) : bendZ (normZ ps) i ≠ 0 := fun e => by
  have n := norm_norm h
  exact n.strict _ (List.mem_map_of_mem (pt_mem hi)) ((bend_flat n.simple hi).1 e)
theorem turn_at (ps : List Z2) (k : Nat) : Turn ps (ps.drop k ++ ps.take k) := ⟨ps.take k, ps.drop k, by rw [List.take_append_drop], rfl⟩
end Go.Proofs.Ytfgeengdmbabhaa
