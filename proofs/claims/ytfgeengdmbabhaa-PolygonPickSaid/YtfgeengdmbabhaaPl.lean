import Derived.Test.YtfgeengdmbabhaaA5
import Derived.Test.YtfgeengdmbabhaaSk
namespace Go.Proofs.Ytfgeengdmbabhaa
open Geo (isum isum_congr isum_add isum_mul isum_neg isum_const isum_split isum_rev isum_zero isum_part isum_delta isum_mirror isum_sign)

def kx (a b : Z2) (x : Int) : Int := (x - a.x).sign - (x - b.x).sign
def KZ (a b : Z2) (x y : Int) : Int := ((kx a b x).natAbs : Int) * (crZ a b ⟨x, y⟩).sign
def gsum (F : Int → Int → Int) (X Y : Int) (n m : Nat) : Int := isum (fun x => isum (fun y => F x y) Y m) X n
theorem gsum_congr {F G : Int → Int → Int} {X Y : Int} {n m : Nat} (h : ∀ x y, X ≤ x → x < X + n → Y ≤ y → y < Y + m → F x y = G x y) : gsum F X Y n m = gsum G X Y n m :=
  isum_congr fun x h1 h2 => isum_congr fun y h3 h4 => h x y h1 h2 h3 h4
theorem gsum_add (F G : Int → Int → Int) (X Y : Int) (n m : Nat) : gsum (fun x y => F x y + G x y) X Y n m = gsum F X Y n m + gsum G X Y n m := by
  unfold gsum
  rw [← isum_add]
  exact isum_congr fun x _ _ => isum_add _ _ _ _
theorem gsum_mul (c : Int) (F : Int → Int → Int) (X Y : Int) (n m : Nat) : gsum (fun x y => c * F x y) X Y n m = c * gsum F X Y n m := by
  unfold gsum
  rw [← isum_mul]
  exact isum_congr fun x _ _ => isum_mul _ _ _ _
theorem gsum_delta {X Y : Int} {n m : Nat} {c : Z2} (h1 : X ≤ c.x) (h2 : c.x < X + n) (h3 : Y ≤ c.y) (h4 : c.y < Y + m) (F : Int → Int → Int) (hF : ∀ x y, ¬ (x = c.x ∧ y = c.y) → F x y = 0) : gsum F X Y n m = F c.x c.y := by
  unfold gsum
  rw [isum_delta h1 h2 _ (fun x hx => isum_zero fun y _ _ => hF x y (fun h => hx h.1))]
  exact isum_delta h3 h4 _ (fun y hy => hF _ y (fun h => hy h.2))

theorem sg_pos {z : Int} (h : 0 < z) : z.sign = 1 := Int.sign_eq_one_of_pos h
theorem sg_neg {z : Int} (h : z < 0) : z.sign = -1 := Int.sign_eq_neg_one_of_neg h
theorem sg_cases (z : Int) : (0 < z ∧ z.sign = 1) ∨ (z = 0 ∧ z.sign = 0) ∨ (z < 0 ∧ z.sign = -1) := by
  rcases Int.lt_trichotomy z 0 with h | h | h
  · exact .inr (.inr ⟨h, sg_neg h⟩)
  · exact .inr (.inl ⟨h, by rw [h]; rfl⟩)
  · exact .inl ⟨h, sg_pos h⟩
theorem kx_in {a b : Z2} (h : a.x ≤ b.x) (x : Int) : 0 ≤ kx a b x ∧ ((kx a b x).natAbs : Int) = kx a b x := by
  have : 0 ≤ kx a b x := by
    unfold kx
    rcases sg_cases (x - a.x) with ⟨h1, e1⟩ | ⟨h1, e1⟩ | ⟨h1, e1⟩ <;> rcases sg_cases (x - b.x) with ⟨h2, e2⟩ | ⟨h2, e2⟩ | ⟨h2, e2⟩ <;> omega
  exact ⟨this, by omega⟩
theorem kx_out {a b : Z2} (h : a.x ≤ b.x) {x : Int} (hx : x < a.x ∨ b.x < x) : kx a b x = 0 := by
  unfold kx
  rcases sg_cases (x - a.x) with ⟨h1, e1⟩ | ⟨h1, e1⟩ | ⟨h1, e1⟩ <;> rcases sg_cases (x - b.x) with ⟨h2, e2⟩ | ⟨h2, e2⟩ | ⟨h2, e2⟩ <;> omega
theorem kx_mir (a b : Z2) (x : Int) : kx a b (a.x + b.x - x) = kx a b x := by
  unfold kx
  have e1 : a.x + b.x - x - a.x = -(x - b.x) := by omega
  have e2 : a.x + b.x - x - b.x = -(x - a.x) := by omega
  rw [e1, e2, Int.sign_neg, Int.sign_neg]; omega
theorem cr_mir (a b : Z2) (x y : Int) : crZ a b ⟨a.x + b.x - x, y⟩ = - crZ a b ⟨x, a.y + b.y - y⟩ := by unfold crZ; simp only; grind
theorem cr_col (a b : Z2) (x y : Int) : crZ a b ⟨x, y⟩ = (b.x - x) * (y - a.y) + (x - a.x) * (y - b.y) := by unfold crZ; simp only; grind

theorem col_sum {a b : Z2} (hab : a.x < b.x) {x : Int} (h1 : a.x ≤ x) (h2 : x ≤ b.x) {Y : Int} {m : Nat} (ha : Y ≤ a.y ∧ a.y < Y + m) (hb : Y ≤ b.y ∧ b.y < Y + m) :
    isum (fun y => (crZ a b ⟨x, y⟩).sign) Y m + isum (fun y => (crZ a b ⟨a.x + b.x - x, y⟩).sign) Y m = 2 * (Y + (Y + m - 1) - (a.y + b.y)) := by
  obtain ⟨lo, hi, e, g1, g2, g3, g4⟩ : ∃ lo hi, lo + hi = a.y + b.y ∧ lo ≤ a.y ∧ lo ≤ b.y ∧ a.y ≤ hi ∧ b.y ≤ hi ∧ Y ≤ lo ∧ hi < Y + m ∧ lo ≤ hi := by
    by_cases h : a.y ≤ b.y
    · exact ⟨a.y, b.y, by omega, by omega, by omega, by omega, by omega, by omega, by omega, by omega⟩
    · exact ⟨b.y, a.y, by omega, by omega, by omega, by omega, by omega, by omega, by omega, by omega⟩
  have pos : ∀ y, hi < y → (crZ a b ⟨x, y⟩).sign = 1 := fun y hy => by
    apply sg_pos
    rw [cr_col]
    have t1 : 0 ≤ (b.x - x) * (y - a.y) := Int.mul_nonneg (by omega) (by omega)
    have t2 : 0 ≤ (x - a.x) * (y - b.y) := Int.mul_nonneg (by omega) (by omega)
    by_cases h : x < b.x
    · have : 0 < (b.x - x) * (y - a.y) := Int.mul_pos (by omega) (by omega)
      omega
    · have : 0 < (x - a.x) * (y - b.y) := Int.mul_pos (by omega) (by omega)
      omega
  have neg : ∀ y, y < lo → (crZ a b ⟨x, y⟩).sign = -1 := fun y hy => by
    apply sg_neg
    have e : crZ a b ⟨x, y⟩ = - ((b.x - x) * (a.y - y) + (x - a.x) * (b.y - y)) := by unfold crZ; simp only; grind
    rw [e]
    have t1 : 0 ≤ (b.x - x) * (a.y - y) := Int.mul_nonneg (by omega) (by omega)
    have t2 : 0 ≤ (x - a.x) * (b.y - y) := Int.mul_nonneg (by omega) (by omega)
    by_cases h : x < b.x
    · have : 0 < (b.x - x) * (a.y - y) := Int.mul_pos (by omega) (by omega)
      omega
    · have : 0 < (x - a.x) * (b.y - y) := Int.mul_pos (by omega) (by omega)
      omega
  have M := isum_mirror (g := fun y => (crZ a b ⟨x, y⟩).sign) (a := Y) (lo := lo) (hi := hi) (n := m) (by omega) (by omega) (by omega) pos neg
  have e2 : isum (fun y => (crZ a b ⟨a.x + b.x - x, y⟩).sign) Y m = - isum (fun y => (crZ a b ⟨x, lo + hi - y⟩).sign) Y m := by
    rw [← isum_neg]
    exact isum_congr fun y _ _ => by rw [cr_mir, Int.sign_neg, e]
  rw [e2, ← e]
  omega
theorem K_sum_lt {a b : Z2} (hab : a.x < b.x) {X Y : Int} {n m : Nat} (ha : X ≤ a.x ∧ a.x < X + n ∧ Y ≤ a.y ∧ a.y < Y + m) (hb : X ≤ b.x ∧ b.x < X + n ∧ Y ≤ b.y ∧ b.y < Y + m) :
    gsum (KZ a b) X Y n m = 2 * (b.x - a.x) * (Y + (Y + m - 1) - (a.y + b.y)) := by
  have e1 : gsum (KZ a b) X Y n m = isum (fun x => kx a b x * isum (fun y => (crZ a b ⟨x, y⟩).sign) Y m) X n := by
    unfold gsum KZ
    refine isum_congr fun x _ _ => ?_
    rw [isum_mul, (kx_in (by omega) x).2]
  have e2 := isum_part (f := fun x => kx a b x * isum (fun y => (crZ a b ⟨x, y⟩).sign) Y m) (a := X) (n := n) (c := a.x) (d := b.x) (by omega) (by omega) (by omega)
    (fun x hx => by rw [kx_out (by omega) (.inl hx), Int.zero_mul]) (fun x hx => by rw [kx_out (by omega) (.inr hx), Int.zero_mul])
  have e3 := isum_rev (fun x => kx a b x * isum (fun y => (crZ a b ⟨x, y⟩).sign) Y m) a.x (b.x + 1 - a.x).toNat
  have e4 : isum (fun x => kx a b x * isum (fun y => (crZ a b ⟨a.x + b.x - x, y⟩).sign) Y m) a.x (b.x + 1 - a.x).toNat = isum (fun x => kx a b x * isum (fun y => (crZ a b ⟨x, y⟩).sign) Y m) a.x (b.x + 1 - a.x).toNat := by
    rw [← e3]
    refine isum_congr fun x _ _ => ?_
    have : 2 * a.x + ((b.x + 1 - a.x).toNat : Int) - 1 - x = a.x + b.x - x := by omega
    rw [this, kx_mir]
  have e5 := isum_add (fun x => kx a b x * isum (fun y => (crZ a b ⟨x, y⟩).sign) Y m) (fun x => kx a b x * isum (fun y => (crZ a b ⟨a.x + b.x - x, y⟩).sign) Y m) a.x (b.x + 1 - a.x).toNat
  have e6 : isum (fun x => kx a b x * isum (fun y => (crZ a b ⟨x, y⟩).sign) Y m + kx a b x * isum (fun y => (crZ a b ⟨a.x + b.x - x, y⟩).sign) Y m) a.x (b.x + 1 - a.x).toNat = (2 * (Y + (Y + m - 1) - (a.y + b.y))) * isum (fun x => kx a b x) a.x (b.x + 1 - a.x).toNat := by
    rw [← isum_mul]
    refine isum_congr fun x h1 h2 => ?_
    rw [← Int.mul_add, col_sum hab h1 (by omega) ha.2.2 hb.2.2, Int.mul_comm]
  have e7 : isum (fun x => kx a b x) a.x (b.x + 1 - a.x).toNat = 2 * (b.x - a.x) := by
    have f1 := isum_sign (a := a.x) (c := a.x) (n := (b.x + 1 - a.x).toNat) (by omega) (by omega)
    have f2 := isum_sign (a := a.x) (c := b.x) (n := (b.x + 1 - a.x).toNat) (by omega) (by omega)
    have f3 := isum_add (fun x => (x - a.x).sign) (fun x => - (x - b.x).sign) a.x (b.x + 1 - a.x).toNat
    rw [isum_neg] at f3
    have f4 : isum (fun x => kx a b x) a.x (b.x + 1 - a.x).toNat = isum (fun x => (x - a.x).sign + - (x - b.x).sign) a.x (b.x + 1 - a.x).toNat := isum_congr fun x _ _ => by unfold kx; omega
    rw [f4, f3, f1, f2]; omega
  rw [e5, e4, e7] at e6
  rw [e1, e2]
  grind
theorem KZ_swap (a b : Z2) (x y : Int) : KZ b a x y = -1 * KZ a b x y := by
  unfold KZ
  have e : (kx b a x).natAbs = (kx a b x).natAbs := by unfold kx; omega
  rw [e, crZ_swap, Int.sign_neg]; grind
theorem K_sum {a b : Z2} {X Y : Int} {n m : Nat} (ha : X ≤ a.x ∧ a.x < X + n ∧ Y ≤ a.y ∧ a.y < Y + m) (hb : X ≤ b.x ∧ b.x < X + n ∧ Y ≤ b.y ∧ b.y < Y + m) :
    gsum (KZ a b) X Y n m = 2 * (b.x - a.x) * (Y + (Y + m - 1) - (a.y + b.y)) := by
  rcases Int.lt_trichotomy a.x b.x with h | h | h
  · exact K_sum_lt h ha hb
  · have : gsum (KZ a b) X Y n m = 0 := by
      refine isum_zero fun x _ _ => isum_zero fun y _ _ => ?_
      unfold KZ kx; rw [h, Int.sub_self]; simp
    rw [this, h]; grind
  · have e := K_sum_lt h hb ha
    have e2 : gsum (KZ a b) X Y n m = -1 * gsum (KZ b a) X Y n m := by
      rw [← gsum_mul]; exact gsum_congr fun x y _ _ _ _ => KZ_swap b a x y
    rw [e2, e]; grind

/-- the signs at a point of a triangle -/
def SVg (s1 s2 s3 : Int) : Int := if s1 = 1 ∧ s2 = 1 ∧ s3 = 1 then 2 else if 0 ≤ s1 ∧ 0 ≤ s2 ∧ 0 ≤ s3 then 1 else 0
def CSg (s1 s2 s3 ta tb tc : Int) : Bool :=
  decide (s1 = 1 ∨ s2 = 1 ∨ s3 = 1) && decide ((s2 * ta = 0 ∧ s3 * tb = 0 ∧ s1 * tc = 0) ∨ ((s2 * ta = 1 ∨ s3 * tb = 1 ∨ s1 * tc = 1) ∧ (s2 * ta = -1 ∨ s3 * tb = -1 ∨ s1 * tc = -1))) &&
  decide (ta = 0 → tb = 0 → s1 = 0) && decide (tb = 0 → tc = 0 → s2 = 0) && decide (tc = 0 → ta = 0 → s3 = 0) &&
  decide (s1 = 0 → (ta = 0 ↔ tb = 0)) && decide (s2 = 0 → (tb = 0 ↔ tc = 0)) && decide (s3 = 0 → (tc = 0 ↔ ta = 0))
def RSg (s1 s2 s3 ta tb tc : Int) : Bool := !CSg s1 s2 s3 ta tb tc || decide (((ta - tb).natAbs : Int) * s1 + ((tb - tc).natAbs : Int) * s2 + ((tc - ta).natAbs : Int) * s3 = 2 * SVg s1 s2 s3)
theorem sign_all : ([-1, 0, 1].all fun s1 => [-1, 0, 1].all fun s2 => [-1, 0, 1].all fun s3 => [-1, 0, 1].all fun ta => [-1, 0, 1].all fun tb => [-1, 0, 1].all fun tc => RSg s1 s2 s3 ta tb tc) = true := by
  decide +kernel
theorem sg_mem (z : Int) : z.sign ∈ [-1, 0, 1] := by
  rcases sg_cases z with ⟨_, e⟩ | ⟨_, e⟩ | ⟨_, e⟩ <;> rw [e] <;> simp
theorem sign_check {s1 s2 s3 ta tb tc : Int} (h1 : s1 ∈ [-1, 0, 1]) (h2 : s2 ∈ [-1, 0, 1]) (h3 : s3 ∈ [-1, 0, 1]) (h4 : ta ∈ [-1, 0, 1]) (h5 : tb ∈ [-1, 0, 1]) (h6 : tc ∈ [-1, 0, 1]) (hc : CSg s1 s2 s3 ta tb tc = true) :
    ((ta - tb).natAbs : Int) * s1 + ((tb - tc).natAbs : Int) * s2 + ((tc - ta).natAbs : Int) * s3 = 2 * SVg s1 s2 s3 := by
  have h := sign_all
  simp only [List.all_eq_true] at h
  have r := h s1 h1 s2 h2 s3 h3 ta h4 tb h5 tc h6
  unfold RSg at r
  rw [hc] at r
  simpa using r

/-- the sum at a point that is no corner -/
theorem tri_point {a b c q : Z2} (h : 0 < crZ a b c) (na : q ≠ a) (nb : q ≠ b) (nc : q ≠ c) :
    KZ a b q.x q.y + KZ b c q.x q.y + KZ c a q.x q.y = 2 * SVg (crZ a b q).sign (crZ b c q).sign (crZ c a q).sign := by
  have ne : ∀ {p : Z2}, q ≠ p → ¬ (q.x = p.x ∧ q.y = p.y) := fun {p} hn hh => hn (by cases q; cases p; simp_all)
  have m1 := sg_mem (crZ a b q); have m2 := sg_mem (crZ b c q); have m3 := sg_mem (crZ c a q)
  have m4 := sg_mem (q.x - a.x); have m5 := sg_mem (q.x - b.x); have m6 := sg_mem (q.x - c.x)
  refine sign_check m1 m2 m3 m4 m5 m6 ?_
  have hs : crZ a b q + crZ b c q + crZ c a q = crZ a b c := by unfold crZ; grind
  have hb : crZ b c q * (q.x - a.x) + crZ c a q * (q.x - b.x) + crZ a b q * (q.x - c.x) = 0 := by unfold crZ; grind
  have v1 : q.x = a.x → q.x = b.x → crZ a b q = 0 := fun e1 e2 => by unfold crZ; rw [← e1, ← e2]; grind
  have v2 : q.x = b.x → q.x = c.x → crZ b c q = 0 := fun e1 e2 => by unfold crZ; rw [← e1, ← e2]; grind
  have v3 : q.x = c.x → q.x = a.x → crZ c a q = 0 := fun e1 e2 => by unfold crZ; rw [← e1, ← e2]; grind
  have l : ∀ {u v : Z2}, q ≠ u → q ≠ v → crZ u v q = 0 → (q.x = u.x ↔ q.x = v.x) := fun {u v} hu hv h0 => by
    have e1 : q.x = u.x → (v.x - u.x) * (q.y - u.y) = 0 := fun e => by unfold crZ at h0; rw [e] at h0; grind
    have e2 : q.x = v.x → (v.x - u.x) * (q.y - v.y) = 0 := fun e => by unfold crZ at h0; rw [e] at h0; grind
    constructor
    · intro e
      rcases Int.mul_eq_zero.1 (e1 e) with z | z
      · omega
      · exact absurd ⟨e, by omega⟩ (ne hu)
    · intro e
      rcases Int.mul_eq_zero.1 (e2 e) with z | z
      · omega
      · exact absurd ⟨e, by omega⟩ (ne hv)
  have l1 := l (u := a) (v := b) na nb; have l2 := l (u := b) (v := c) nb nc; have l3 := l (u := c) (v := a) nc na
  clear l ne m1 m2 m3 m4 m5 m6
  generalize crZ a b q = s1 at *; generalize crZ b c q = s2 at *; generalize crZ c a q = s3 at *
  have hb' := hb
  generalize ea : q.x - a.x = ta at *; generalize eb : q.x - b.x = tb at *; generalize ec : q.x - c.x = tc at *
  have z : ∀ x : Int, x.sign = 0 ↔ x = 0 := fun x => Int.sign_eq_zero_iff_zero
  have o : ∀ x : Int, x.sign = 1 ↔ 0 < x := fun x => Int.sign_eq_one_iff_pos
  have mn : ∀ x : Int, x.sign = -1 ↔ x < 0 := fun x => Int.sign_eq_neg_one_iff_neg
  unfold CSg
  simp only [Bool.and_eq_true, decide_eq_true_eq, ← Int.sign_mul, z, o, mn]
  refine ⟨⟨⟨⟨⟨⟨⟨?_, ?_⟩, ?_⟩, ?_⟩, ?_⟩, ?_⟩, ?_⟩, ?_⟩
  · omega
  · omega
  · exact fun x y => v1 (by omega) (by omega)
  · exact fun x y => v2 (by omega) (by omega)
  · exact fun x y => v3 (by omega) (by omega)
  · intro x; have := l1 x; omega
  · intro x; have := l2 x; omega
  · intro x; have := l3 x; omega
end Go.Proofs.Ytfgeengdmbabhaa
