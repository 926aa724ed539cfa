import Derived.Test.YtfgeengdmbabhaaPl
namespace Go.Proofs.Ytfgeengdmbabhaa
open Geo (W2 W2_on W2_off W2_tri W2_ear W2_flat at1 at1_self at1_ne InT Good LT Ears Rot Cuttable)

theorem W2_sv {a b c : Z2} (h : 0 < crZ a b c) (q : Z2) : W2 [toPt a, toPt b, toPt c] (toPt q) = SVg (crZ a b q).sign (crZ b c q).sign (crZ c a q).sign := by
  have h' : 0 < Geo.cr (toPt a) (toPt b) (toPt c) := by rw [cr_toPt]; exact Rat.intCast_pos.2 h
  obtain ⟨t1, t2, t3⟩ := W2_tri h' (toPt q)
  unfold Geo.InT at t2 t3
  rw [cr_toPt, cr_toPt, cr_toPt] at t1 t2 t3
  simp only [Rat.intCast_pos, Rat.intCast_nonneg] at t1 t2 t3
  have o : ∀ x : Int, x.sign = 1 ↔ 0 < x := fun x => Int.sign_eq_one_iff_pos
  have nn : ∀ x : Int, 0 ≤ x.sign ↔ 0 ≤ x := fun x => by
    rcases sg_cases x with ⟨k, e⟩ | ⟨k, e⟩ | ⟨k, e⟩ <;> rw [e] <;> constructor <;> intro _ <;> omega
  unfold SVg
  simp only [o, nn]
  by_cases k1 : 0 < crZ a b q ∧ 0 < crZ b c q ∧ 0 < crZ c a q
  · rw [if_pos k1]; exact t1 k1
  · rw [if_neg k1]
    by_cases k2 : 0 ≤ crZ a b q ∧ 0 ≤ crZ b c q ∧ 0 ≤ crZ c a q
    · rw [if_pos k2]; exact t2 k2 k1
    · rw [if_neg k2]; exact t3 k2
def dZ (v : Z2) (k : Int) (x y : Int) : Int := if x = v.x ∧ y = v.y then k else 0
theorem dZ_at (v : Z2) (k : Int) : dZ v k v.x v.y = k := if_pos ⟨rfl, rfl⟩
theorem dZ_off {v q : Z2} (k : Int) (h : q ≠ v) : dZ v k q.x q.y = 0 := if_neg fun hh => h (by cases q; cases v; simp_all)
theorem KZ_left (a b : Z2) : KZ a b a.x a.y = 0 := by
  unfold KZ
  have : crZ a b ⟨a.x, a.y⟩ = 0 := by unfold crZ; simp only; grind
  rw [this]; simp
theorem KZ_right (a b : Z2) : KZ a b b.x b.y = 0 := by
  unfold KZ
  have : crZ a b ⟨b.x, b.y⟩ = 0 := by unfold crZ; simp only; grind
  rw [this]; simp
theorem corner_sum {a b c : Z2} (h : 0 < crZ a b c) : KZ b c a.x a.y + KZ c a b.x b.y + KZ a b c.x c.y = 2 := by
  unfold KZ
  have e1 : crZ b c ⟨a.x, a.y⟩ = crZ a b c := by unfold crZ; simp only; grind
  have e2 : crZ c a ⟨b.x, b.y⟩ = crZ a b c := by unfold crZ; simp only; grind
  have e3 : crZ a b ⟨c.x, c.y⟩ = crZ a b c := by unfold crZ; simp only
  have hx : ¬ (a.x = b.x ∧ b.x = c.x) := fun ⟨h1, h2⟩ => by
    have : crZ a b c = 0 := by unfold crZ; rw [h1, h2]; grind
    omega
  rw [e1, e2, e3, sg_pos h]
  unfold kx
  have r1 : (b.x - a.x).sign = - (a.x - b.x).sign := by rw [← Int.sign_neg]; congr 1; omega
  have r2 : (c.x - b.x).sign = - (b.x - c.x).sign := by rw [← Int.sign_neg]; congr 1; omega
  have r3 : (a.x - c.x).sign = - (c.x - a.x).sign := by rw [← Int.sign_neg]; congr 1; omega
  rw [r1, r2, r3]
  rcases sg_cases (a.x - b.x) with ⟨k1, f1⟩ | ⟨k1, f1⟩ | ⟨k1, f1⟩ <;> rcases sg_cases (b.x - c.x) with ⟨k2, f2⟩ | ⟨k2, f2⟩ | ⟨k2, f2⟩ <;> rcases sg_cases (c.x - a.x) with ⟨k3, f3⟩ | ⟨k3, f3⟩ | ⟨k3, f3⟩ <;> rw [f1, f2, f3] <;> first | (exfalso; omega) | rfl
def InG (X Y : Int) (n m : Nat) (z : Z2) : Prop := X ≤ z.x ∧ z.x < X + n ∧ Y ≤ z.y ∧ z.y < Y + m
/-- the theorem of Pick for a triangle -/
theorem tri_pick {a b c : Z2} (h : 0 < crZ a b c) {X Y : Int} {n m : Nat} (ha : InG X Y n m a) (hb : InG X Y n m b) (hc : InG X Y n m c) :
    gsum (fun x y => W2 [toPt a, toPt b, toPt c] (toPt ⟨x, y⟩)) X Y n m = crZ a b c + 2 := by
  have nab : a ≠ b := by rintro rfl; have : crZ a a c = 0 := by unfold crZ; grind
                         omega
  have nbc : b ≠ c := by rintro rfl; have : crZ a b b = 0 := by unfold crZ; grind
                         omega
  have nca : c ≠ a := by rintro rfl; have : crZ c b c = 0 := by unfold crZ; grind
                         omega
  have pw : ∀ x y, 2 * W2 [toPt a, toPt b, toPt c] (toPt ⟨x, y⟩) = KZ a b x y + (KZ b c x y + (KZ c a x y + (dZ a (2 - KZ b c a.x a.y) x y + (dZ b (2 - KZ c a b.x b.y) x y + dZ c (2 - KZ a b c.x c.y) x y)))) := fun x y => by
    have eT : ∀ q, (∃ e ∈ Geo.edges [toPt a, toPt b, toPt c], Geo.On e.1 e.2 q) ↔ Geo.On (toPt a) (toPt b) q ∨ Geo.On (toPt b) (toPt c) q ∨ Geo.On (toPt c) (toPt a) q := fun q => by
      have : Geo.edges [toPt a, toPt b, toPt c] = [(toPt a, toPt b), (toPt b, toPt c), (toPt c, toPt a)] := rfl
      rw [this]; simp
    by_cases qa : (⟨x, y⟩ : Z2) = a
    · subst qa
      rw [W2_on ((eT _).2 (.inl (Geo.on_left _ _)))]
      have l1 := KZ_left ⟨x, y⟩ b; have l2 := KZ_right c ⟨x, y⟩
      have d1 := dZ_at ⟨x, y⟩ (2 - KZ b c x y)
      have d2 := dZ_off (2 - KZ c ⟨x, y⟩ b.x b.y) nab
      have d3 := dZ_off (2 - KZ ⟨x, y⟩ b c.x c.y) nca.symm
      simp only at l1 l2 d1 d2 d3 ⊢
      omega
    by_cases qb : (⟨x, y⟩ : Z2) = b
    · subst qb
      rw [W2_on ((eT _).2 (.inl (Geo.on_right _ _)))]
      have l1 := KZ_right a ⟨x, y⟩; have l2 := KZ_left ⟨x, y⟩ c
      have d1 := dZ_off (2 - KZ ⟨x, y⟩ c a.x a.y) nab.symm
      have d2 := dZ_at ⟨x, y⟩ (2 - KZ c a x y)
      have d3 := dZ_off (2 - KZ a ⟨x, y⟩ c.x c.y) nbc
      simp only at l1 l2 d1 d2 d3 ⊢
      omega
    by_cases qc : (⟨x, y⟩ : Z2) = c
    · subst qc
      rw [W2_on ((eT _).2 (.inr (.inl (Geo.on_right _ _))))]
      have l1 := KZ_right b ⟨x, y⟩; have l2 := KZ_left ⟨x, y⟩ a
      have d1 := dZ_off (2 - KZ b ⟨x, y⟩ a.x a.y) nca
      have d2 := dZ_off (2 - KZ ⟨x, y⟩ a b.x b.y) nbc.symm
      have d3 := dZ_at ⟨x, y⟩ (2 - KZ a b x y)
      simp only at l1 l2 d1 d2 d3 ⊢
      omega
    · have e := tri_point h qa qb qc
      have d1 := dZ_off (2 - KZ b c a.x a.y) qa
      have d2 := dZ_off (2 - KZ c a b.x b.y) qb
      have d3 := dZ_off (2 - KZ a b c.x c.y) qc
      rw [W2_sv h, ← e]
      simp only at d1 d2 d3 ⊢
      omega
  have e := gsum_congr (X := X) (Y := Y) (n := n) (m := m) (fun x y _ _ _ _ => pw x y)
  rw [gsum_mul, gsum_add, gsum_add, gsum_add, gsum_add, gsum_add, K_sum ha hb, K_sum hb hc, K_sum hc ha,
    gsum_delta ha.1 ha.2.1 ha.2.2.1 ha.2.2.2 (dZ a _) (fun x y hn => if_neg hn), gsum_delta hb.1 hb.2.1 hb.2.2.1 hb.2.2.2 (dZ b _) (fun x y hn => if_neg hn), gsum_delta hc.1 hc.2.1 hc.2.2.1 hc.2.2.2 (dZ c _) (fun x y hn => if_neg hn), dZ_at, dZ_at, dZ_at] at e
  have s := corner_sum h
  have id1 : 2 * (b.x - a.x) * (Y + (Y + m - 1) - (a.y + b.y)) + (2 * (c.x - b.x) * (Y + (Y + m - 1) - (b.y + c.y)) + 2 * (a.x - c.x) * (Y + (Y + m - 1) - (c.y + a.y))) = 2 * crZ a b c := by unfold crZ; grind
  omega

/-- the sum over the grid of a polygon -/
noncomputable def pickS (l : List Geo.Pt) (X Y : Int) (n m : Nat) : Int := gsum (fun x y => W2 l (toPt ⟨x, y⟩)) X Y n m
theorem at1_sum {X Y : Int} {n m : Nat} {z : Z2} (h : InG X Y n m z) : gsum (fun x y => at1 (toPt z) (toPt ⟨x, y⟩)) X Y n m = 1 := by
  rw [gsum_delta h.1 h.2.1 h.2.2.1 h.2.2.2 _ (fun x y hn => at1_ne (fun e => hn (by have := toPt_inj e; rw [← this]; exact ⟨rfl, rfl⟩)))]
  exact at1_self _
theorem pick_main {X Y : Int} {n m : Nat} (k : Nat) : ∀ l : List Geo.Pt, l.length = k → Geo.Simple l → LT l → (∀ p ∈ l, ∃ z, p = toPt z ∧ InG X Y n m z) → ((pickS l X Y n m : Int) : Rat) = Geo.ar l + 2 := by
  induction k with
  | zero => intro l hl hs; have := hs.three; omega
  | succ k ih =>
    intro l hl hs hL hG
    obtain ⟨v, hv⟩ := List.exists_mem_of_ne_nil l (fun e => by have := hs.three; rw [e] at this; simp at this)
    obtain ⟨c, hc⟩ := Geo.edge_from hv
    obtain ⟨u, _, _, hu⟩ := hL.ears hs (v, c) hc
    obtain ⟨p, s, R, r, hcut⟩ := hu.form hs
    have hs' := r.simple hs
    have hL' := hL.rot r
    have hlen := r.1.length_eq
    have hG' : ∀ q ∈ p :: u :: s :: R, ∃ z, q = toPt z ∧ InG X Y n m z := fun q hq => hG q (r.1.mem_iff.2 hq)
    have e1 : pickS l X Y n m = pickS (p :: u :: s :: R) X Y n m := gsum_congr fun x y _ _ _ _ => Geo.W2.rot r _
    rw [e1, Geo.ar_perm r.2]
    by_cases hR : R = []
    · subst hR
      have hpos := Geo.LT_tri hL'
      obtain ⟨a, rfl, ha⟩ := hG' p (by simp)
      obtain ⟨b, rfl, hb⟩ := hG' u (by simp)
      obtain ⟨c, rfl, hc⟩ := hG' s (by simp)
      rw [Geo.ar_tri]
      rw [cr_toPt] at hpos ⊢
      have := tri_pick (Rat.intCast_pos.1 hpos) ha hb hc
      unfold pickS
      rw [this, Rat.intCast_add]; rfl
    have hrest := Geo.cut_rest hs' hR hcut
    have hLr := Geo.cut_LT hs' hR hcut hL' (fun l _ h3 h4 => h4.good h3)
    have hi := ih (p :: s :: R) (by simp at hlen ⊢; omega) hrest hLr (fun q hq => hG' q (by
      rcases List.mem_cons.1 hq with e | e
      · rw [e]; simp
      · exact List.mem_cons_of_mem _ (List.mem_cons_of_mem _ e)))
    rw [Geo.ar_cut]
    rcases hcut with h0 | ⟨hpos, hno⟩
    · have e2 : pickS (p :: u :: s :: R) X Y n m = pickS (p :: s :: R) X Y n m := gsum_congr fun x y _ _ _ _ => W2_flat hs' h0 _
      rw [e2, hi, h0]; grind
    · obtain ⟨a, ea, ha⟩ := hG' p (by simp)
      obtain ⟨b, eb, hb⟩ := hG' u (by simp)
      obtain ⟨c, ec, hc⟩ := hG' s (by simp)
      have hpos' := hpos
      rw [ea, eb, ec, cr_toPt] at hpos'
      have t := tri_pick (Rat.intCast_pos.1 hpos') ha hb hc
      have e2 : pickS (p :: u :: s :: R) X Y n m = pickS (p :: s :: R) X Y n m + (gsum (fun x y => W2 [toPt a, toPt b, toPt c] (toPt ⟨x, y⟩)) X Y n m + ((-1) * gsum (fun x y => at1 (toPt a) (toPt ⟨x, y⟩)) X Y n m + (-1) * gsum (fun x y => at1 (toPt c) (toPt ⟨x, y⟩)) X Y n m)) := by
        unfold pickS
        rw [← gsum_mul, ← gsum_mul, ← gsum_add, ← gsum_add, ← gsum_add]
        refine gsum_congr fun x y _ _ _ _ => ?_
        rw [W2_ear hs' hR hpos hno (hLr.good hrest), ← ea, ← eb, ← ec]
        omega
      rw [at1_sum ha, at1_sum hc, t] at e2
      rw [e2, ea, eb, ec, cr_toPt]
      rw [ea, ec] at hi
      have e3 : pickS (toPt a :: toPt c :: R) X Y n m + (crZ a b c + 2 + (-1 * 1 + -1 * 1)) = pickS (toPt a :: toPt c :: R) X Y n m + crZ a b c := by omega
      rw [e3, Rat.intCast_add, hi]
      grind
end Go.Proofs.Ytfgeengdmbabhaa
