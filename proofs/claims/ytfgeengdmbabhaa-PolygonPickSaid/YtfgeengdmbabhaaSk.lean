import Derived.Test.YtfgeengdmbabhaaB2
import Derived.Test.YtfgeengdmbabhaaSc
/- Sums over a grid, and the theorem of Pick. -/
namespace Geo

/-- 1 on the sides, twice the winding number elsewhere -/
noncomputable def W2 (l : List Pt) (q : Pt) : Int := open Classical in if ∃ e ∈ edges l, On e.1 e.2 q then 1 else 2 * w l q
theorem W2_on {l : List Pt} {q : Pt} (h : ∃ e ∈ edges l, On e.1 e.2 q) : W2 l q = 1 := by unfold W2; rw [if_pos h]
theorem W2_off {l : List Pt} {q : Pt} (h : ¬ ∃ e ∈ edges l, On e.1 e.2 q) : W2 l q = 2 * w l q := by unfold W2; rw [if_neg h]
theorem W2_congr {l m : List Pt} {q : Pt} (hw : w l q = w m q) (ho : (∃ e ∈ edges l, On e.1 e.2 q) ↔ ∃ e ∈ edges m, On e.1 e.2 q) : W2 l q = W2 m q := by
  by_cases h : ∃ e ∈ edges l, On e.1 e.2 q
  · rw [W2_on h, W2_on (ho.1 h)]
  · rw [W2_off h, W2_off (fun k => h (ho.2 k)), hw]
theorem W2.rot {l m : List Pt} (r : Rot l m) (q : Pt) : W2 l q = W2 m q :=
  W2_congr (w_perm r.2 q) ⟨fun ⟨e, h, o⟩ => ⟨e, r.2.mem_iff.1 h, o⟩, fun ⟨e, h, o⟩ => ⟨e, r.2.mem_iff.2 h, o⟩⟩

noncomputable def at1 (p q : Pt) : Int := open Classical in if q = p then 1 else 0
theorem at1_self (p : Pt) : at1 p p = 1 := by unfold at1; rw [if_pos rfl]
theorem at1_ne {p q : Pt} (h : q ≠ p) : at1 p q = 0 := by unfold at1; rw [if_neg h]

section
variable {p u s : Pt} {R : List Pt}
theorem W2_ear (h : Simple (p :: u :: s :: R)) (hR : R ≠ []) (hpos : 0 < cr p u s) (hno : ∀ x ∈ R, ¬ InT p u s x) (hg : Good (p :: s :: R)) (q : Pt) :
    W2 (p :: u :: s :: R) q = W2 (p :: s :: R) q + W2 [p, u, s] q - at1 p q - at1 s q := by
  have eP : (∃ e ∈ edges (p :: u :: s :: R), On e.1 e.2 q) ↔ On p u q ∨ On u s q ∨ ∃ f ∈ chain (s :: R ++ [p]), On f.1 f.2 q := by
    rw [edges3]; simp
  have eQ : (∃ e ∈ edges (p :: s :: R), On e.1 e.2 q) ↔ On p s q ∨ ∃ f ∈ chain (s :: R ++ [p]), On f.1 f.2 q := by
    rw [edges2]; simp
  have eT : (∃ e ∈ edges [p, u, s], On e.1 e.2 q) ↔ On p u q ∨ On u s q ∨ On s p q := by
    have : edges [p, u, s] = [(p, u), (u, s), (s, p)] := rfl
    rw [this]; simp
  have hd := h.dist
  have c1 : 0 < cr u s p := by rw [cr_rot]; exact hpos
  have c2 : 0 < cr s p u := by rw [cr_rot2]; exact hpos
  by_cases qp : q = p
  · subst qp
    obtain ⟨k, hk, _⟩ := before_p h hR
    rw [W2_on (eP.2 (.inl (on_left _ _))), W2_on (eQ.2 (.inl (on_left _ _))), W2_on (eT.2 (.inl (on_left _ _))), at1_self, at1_ne hd.ps]; rfl
  by_cases qs : q = s
  · subst qs
    rw [W2_on (eP.2 (.inr (.inl (on_right _ _)))), W2_on (eQ.2 (.inl (on_right _ _))), W2_on (eT.2 (.inr (.inl (on_right _ _)))), at1_self, at1_ne qp]; rfl
  rw [at1_ne qp, at1_ne qs]
  by_cases C : ∃ f ∈ chain (s :: R ++ [p]), On f.1 f.2 q
  · obtain ⟨f, hf, ho⟩ := id C
    have nT : ¬ InT p u s q := fun t => by
      rcases cut_free h hR hpos hno hf ho t with e | e
      · exact qp e
      · exact qs e
    have nB : ¬ ∃ e ∈ edges [p, u, s], On e.1 e.2 q := fun k => nT (inT_of_side hpos (eT.1 k))
    rw [W2_on (eP.2 (.inr (.inr C))), W2_on (eQ.2 (.inr C)), W2_off nB, tri_out hpos nT]; rfl
  by_cases x3 : On p s q
  · have n1 : ¬ On p u q := fun x1 => by
      have e1 := cr_on x1; have e3 := cr_on x3
      apply qp
      refine adj_only (a := u) (b := p) (c := s) (fun o' => ?_) (fun o' => ?_) (on_comm x1) x3
      · have := cr_on o'; have := cr_swap p u s; grind
      · have := cr_on o'; have := cr_rot2 p u s; have := cr_swap p s u; grind
    have n2 : ¬ On u s q := fun x2 => by
      apply qs
      refine adj_only (a := u) (b := s) (c := p) (fun o' => ?_) (fun o' => ?_) x2 (on_comm x3)
      · have := cr_on o'; grind
      · have := cr_on o'; grind
    rw [W2_off (fun k => by rcases eP.1 k with k | k | k; exact n1 k; exact n2 k; exact C k), W2_on (eQ.2 (.inl x3)), W2_on (eT.2 (.inr (.inr (on_comm x3)))), ear_on h hpos hg x3 qp qs]; rfl
  have nQ : ¬ ∃ e ∈ edges (p :: s :: R), On e.1 e.2 q := fun k => by rcases eQ.1 k with k | k; exact x3 k; exact C k
  by_cases x : On p u q ∨ On u s q
  · have t : InT p u s q := inT_of_side hpos (by rcases x with x | x; exact .inl x; exact .inr (.inl x))
    have c : 0 < cr s p q := by
      have := t.2.2
      have : cr s p q ≠ 0 := fun z => x3 (on_comm (tri_side c2 z t.1 t.2.1))
      grind
    have e1 := ear_in h hR hpos hno hg t c
    have e2 := w_cut p u s R q
    rw [W2_on (eP.2 (by rcases x with x | x; exact .inl x; exact .inr (.inl x))), W2_off nQ, W2_on (eT.2 (by rcases x with x | x; exact .inl x; exact .inr (.inl x)))]
    omega
  · have nP : ¬ ∃ e ∈ edges (p :: u :: s :: R), On e.1 e.2 q := fun k => by
      rcases eP.1 k with k | k | k
      · exact x (.inl k)
      · exact x (.inr k)
      · exact C k
    have nB : ¬ ∃ e ∈ edges [p, u, s], On e.1 e.2 q := fun k => by
      rcases eT.1 k with k | k | k
      · exact x (.inl k)
      · exact x (.inr k)
      · exact x3 (on_comm k)
    rw [W2_off nP, W2_off nQ, W2_off nB, w_cut]
    omega
end
theorem W2_flat {p u s : Pt} {R : List Pt} (h : Simple (p :: u :: s :: R)) (h0 : cr p u s = 0) (q : Pt) : W2 (p :: u :: s :: R) q = W2 (p :: s :: R) q := by
  have d := drop_one (A := [p]) (B := s :: R) (u := u) h ⟨p, s, by simp [edges3], by simp [edges3], h0⟩
  exact W2_congr (d.2.2.1 q) (d.2.2.2.2 q).symm
/-- the number at a point of a triangle -/
theorem W2_tri {a b c : Pt} (h : 0 < cr a b c) (q : Pt) :
    (0 < cr a b q ∧ 0 < cr b c q ∧ 0 < cr c a q → W2 [a, b, c] q = 2) ∧ (InT a b c q → ¬ (0 < cr a b q ∧ 0 < cr b c q ∧ 0 < cr c a q) → W2 [a, b, c] q = 1) ∧ (¬ InT a b c q → W2 [a, b, c] q = 0) := by
  have eT : (∃ e ∈ edges [a, b, c], On e.1 e.2 q) ↔ On a b q ∨ On b c q ∨ On c a q := by
    have : edges [a, b, c] = [(a, b), (b, c), (c, a)] := rfl
    rw [this]; simp
  refine ⟨fun ⟨h1, h2, h3⟩ => ?_, fun hT hn => ?_, fun hT => ?_⟩
  · have nB : ¬ ∃ e ∈ edges [a, b, c], On e.1 e.2 q := fun k => by
      rcases eT.1 k with k | k | k <;> have := cr_on k <;> grind
    rw [W2_off nB, tri_in h1 h2 h3]; rfl
  · refine W2_on (eT.2 ?_)
    by_cases k1 : On a b q
    · exact .inl k1
    by_cases k2 : On b c q
    · exact .inr (.inl k2)
    by_cases k3 : On c a q
    · exact .inr (.inr k3)
    exact absurd (inT_pos h hT k1 k2 k3) hn
  · have nB : ¬ ∃ e ∈ edges [a, b, c], On e.1 e.2 q := fun k => hT (inT_of_side h (eT.1 k))
    rw [W2_off nB, tri_out h hT]; rfl
end Geo

namespace Geo
/-- the sum of f over a, a + 1, .., a + n - 1 -/
def isum (f : Int → Int) (a : Int) : Nat → Int
  | 0 => 0
  | n + 1 => isum f a n + f (a + n)
theorem isum_congr {f g : Int → Int} {a : Int} {n : Nat} (h : ∀ x, a ≤ x → x < a + n → f x = g x) : isum f a n = isum g a n := by
  induction n with
  | zero => rfl
  | succ n ih =>
    simp only [isum]
    rw [ih (fun x h1 h2 => h x h1 (by omega)), h _ (by omega) (by omega)]
theorem isum_add (f g : Int → Int) (a : Int) (n : Nat) : isum (fun x => f x + g x) a n = isum f a n + isum g a n := by
  induction n with
  | zero => rfl
  | succ n ih => simp only [isum]; rw [ih]; omega
theorem isum_mul (c : Int) (f : Int → Int) (a : Int) (n : Nat) : isum (fun x => c * f x) a n = c * isum f a n := by
  induction n with
  | zero => simp [isum]
  | succ n ih => simp only [isum]; rw [ih, Int.mul_add]
theorem isum_neg (f : Int → Int) (a : Int) (n : Nat) : isum (fun x => - f x) a n = - isum f a n := by
  induction n with
  | zero => rfl
  | succ n ih => simp only [isum]; rw [ih]; omega
theorem isum_const (c : Int) (a : Int) (n : Nat) : isum (fun _ => c) a n = n * c := by
  induction n with
  | zero => simp [isum]
  | succ n ih => simp only [isum]; rw [ih]; grind
theorem isum_split (f : Int → Int) (a : Int) (n m : Nat) : isum f a (n + m) = isum f a n + isum f (a + n) m := by
  induction m with
  | zero => simp [isum]
  | succ m ih =>
    have e : n + (m + 1) = (n + m) + 1 := by omega
    rw [e]
    simp only [isum]
    rw [ih]
    have e2 : a + ((n + m : Nat) : Int) = a + (n : Int) + (m : Int) := by omega
    rw [e2]; omega
theorem isum_first (f : Int → Int) (a : Int) (n : Nat) : isum f a (n + 1) = f a + isum f (a + 1) n := by
  have e := isum_split f a 1 n
  rw [Nat.add_comm 1 n] at e
  rw [e]; simp [isum]
theorem isum_rev (f : Int → Int) (a : Int) (n : Nat) : isum (fun x => f (2 * a + n - 1 - x)) a n = isum f a n := by
  induction n generalizing a with
  | zero => rfl
  | succ n ih =>
    rw [isum_first]
    simp only [isum]
    have e := ih (a + 1)
    have e2 : isum (fun x => f (2 * a + ((n + 1 : Nat) : Int) - 1 - x)) (a + 1) n = isum (fun x => f (2 * (a + 1) + (n : Int) - 1 - (x + 1))) (a + 1) n := isum_congr fun x _ _ => by congr 1; omega
    have sh : ∀ (g : Int → Int) (b : Int) (m : Nat), isum (fun x => g (x + 1)) b m = isum g (b + 1) m := fun g b m => by
      induction m with
      | zero => rfl
      | succ m ih => simp only [isum]; rw [ih]; congr 2; omega
    have e3 : isum f a n = isum (fun x => f (2 * a + (n : Int) - 1 - x)) a n := (ih a).symm
    rw [e2]
    have e4 := sh (fun x => f (2 * (a + 1) + (n : Int) - 1 - x)) (a + 1) n
    have e5 := sh (fun x => f (2 * (a + 1) + (n : Int) - 1 - x - 1)) a n
    have e6 : isum (fun x => f (2 * (a + 1) + (n : Int) - 1 - (x + 1) - 1)) a n = isum f a n := by
      rw [← ih a]; exact isum_congr fun x _ _ => by congr 1; omega
    have e7 : isum (fun x => f (2 * (a + 1) + (n : Int) - 1 - (x + 1))) (a + 1) n = isum (fun x => f (2 * (a + 1) + (n : Int) - 1 - x - 1)) (a + 1) n := isum_congr fun x _ _ => by congr 1; omega
    rw [e7, ← e5, e6]
    have e8 : 2 * a + ((n + 1 : Nat) : Int) - 1 - a = a + n := by omega
    rw [e8]; omega
theorem isum_zero {f : Int → Int} {a : Int} {n : Nat} (h : ∀ x, a ≤ x → x < a + n → f x = 0) : isum f a n = 0 := by
  rw [isum_congr h, isum_const]; simp
/-- a part outside of which f is 0 -/
theorem isum_part {f : Int → Int} {a : Int} {n : Nat} {c d : Int} (h1 : a ≤ c) (h2 : c ≤ d + 1) (h3 : d < a + n) (hl : ∀ x, x < c → f x = 0) (hr : ∀ x, d < x → f x = 0) : isum f a n = isum f c (d + 1 - c).toNat := by
  have e : n = (c - a).toNat + ((d + 1 - c).toNat + (a + n - (d + 1)).toNat) := by omega
  rw [e, isum_split, isum_split, isum_zero (fun x _ _ => hl x (by omega))]
  have e2 : a + ((c - a).toNat : Int) = c := by omega
  rw [e2]
  have e3 : isum f (c + ((d + 1 - c).toNat : Int)) (a + n - (d + 1)).toNat = 0 := isum_zero (fun x _ _ => hr x (by omega))
  rw [e3]; omega
theorem isum_delta {a c : Int} {n : Nat} (h1 : a ≤ c) (h2 : c < a + n) (f : Int → Int) (hf : ∀ x, x ≠ c → f x = 0) : isum f a n = f c := by
  rw [isum_part (c := c) (d := c) h1 (by omega) h2 (fun x hx => hf x (by omega)) (fun x hx => hf x (by omega))]
  have e : (c + 1 - c).toNat = 1 := by omega
  rw [e]; simp [isum]
/-- a column and its mirror -/
theorem isum_mirror {g : Int → Int} {a lo hi : Int} {n : Nat} (h1 : a ≤ lo) (h2 : lo ≤ hi) (h3 : hi < a + n) (hg : ∀ y, hi < y → g y = 1) (hl : ∀ y, y < lo → g y = -1) :
    isum g a n - isum (fun y => g (lo + hi - y)) a n = 2 * (a + (a + n - 1) - (lo + hi)) := by
  have e : n = (lo - a).toNat + ((hi + 1 - lo).toNat + (a + n - (hi + 1)).toNat) := by omega
  have e2 : a + ((lo - a).toNat : Int) = lo := by omega
  have e3 : lo + ((hi + 1 - lo).toNat : Int) = hi + 1 := by omega
  have s1 : isum g a n = - ((lo - a).toNat : Int) + isum g lo (hi + 1 - lo).toNat + ((a + n - (hi + 1)).toNat : Int) := by
    rw [e, isum_split, isum_split, e2, e3, ← e]
    rw [isum_congr (g := fun _ => -1) (fun x _ _ => hl x (by omega)), isum_const, isum_congr (f := g) (g := fun _ => 1) (a := hi + 1) (fun x _ _ => hg x (by omega)), isum_const]
    omega
  have s2 : isum (fun y => g (lo + hi - y)) a n = ((lo - a).toNat : Int) + isum g lo (hi + 1 - lo).toNat - ((a + n - (hi + 1)).toNat : Int) := by
    rw [e, isum_split, isum_split, e2, e3, ← e]
    rw [isum_congr (g := fun _ => 1) (a := a) (fun x _ _ => hg _ (by omega)), isum_const, isum_congr (f := fun y => g (lo + hi - y)) (g := fun _ => -1) (a := hi + 1) (fun x _ _ => hl _ (by omega)), isum_const]
    have r := isum_rev g lo (hi + 1 - lo).toNat
    have r2 : isum (fun y => g (lo + hi - y)) lo (hi + 1 - lo).toNat = isum g lo (hi + 1 - lo).toNat := by
      rw [← r]; exact isum_congr fun x _ _ => by congr 1; omega
    rw [r2]; omega
  rw [s1, s2]; omega
theorem isum_sign {a c : Int} {n : Nat} (h1 : a ≤ c) (h2 : c < a + n) : isum (fun x => (x - c).sign) a n = a + (a + n - 1) - 2 * c := by
  have := isum_mirror (g := fun x => (x - c).sign) (a := a) (lo := c) (hi := c) (n := n) h1 (by omega) h2 (fun y hy => Int.sign_eq_one_of_pos (by omega)) (fun y hy => Int.sign_eq_neg_one_of_neg (by omega))
  have e : isum (fun y => (c + c - y - c).sign) a n = - isum (fun x => (x - c).sign) a n := by
    rw [← isum_neg]; exact isum_congr fun x _ _ => by rw [← Int.sign_neg]; congr 1; omega
  rw [e] at this
  omega
end Geo
