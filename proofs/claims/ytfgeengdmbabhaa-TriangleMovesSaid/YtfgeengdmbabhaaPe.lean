/- Plain laws of triangles: three spots that are not on a line are a polygon, and positions in it. -/
import Derived.Test.YtfgeengdmbabhaaPd
import Derived.Test.YtfgeengdmbabhaaTa
namespace Go.Proofs.Ytfgeengdmbabhaa
open Geo (Pt cr On Simple edges mem_edges esum)

theorem tri_simple {a b c : Pt} (h : cr a b c ≠ 0) : Simple [a, b, c] := by
  have h1 : cr b c a ≠ 0 := by rw [Geo.cr_rot]; exact h
  have h2 : cr c a b ≠ 0 := by rw [Geo.cr_rot2]; exact h
  have ab : a ≠ b := fun e => h (by rw [e]; exact Geo.cr_self'' _ _)
  have bc : b ≠ c := fun e => h (by rw [e]; exact Geo.cr_self' _ _)
  have ca : c ≠ a := fun e => h (by rw [e]; exact Geo.cr_self _ _)
  have he : edges [a, b, c] = [(a, b), (b, c), (c, a)] := rfl
  have adj : ∀ x y z : Pt, cr x y z ≠ 0 → ∀ p, On x y p → On y z p → p = y := fun x y z hh p h1 h2 =>
    Geo.adj_only (fun o => hh (Geo.cr_on o)) (fun o => hh (by rw [← Geo.cr_rot]; exact Geo.cr_on o)) h1 h2
  refine ⟨by simp, by simp [ab, bc, ca.symm], fun e hE f hF hne p h3 h4 => ?_⟩
  rw [he] at hE hF
  simp only [List.mem_cons, List.not_mem_nil, or_false] at hE hF
  rcases hE with rfl | rfl | rfl <;> rcases hF with rfl | rfl | rfl
  · exact absurd rfl hne
  · have := adj a b c h p h3 h4; exact .inr ⟨this, this⟩
  · have := adj c a b h2 p h4 h3; exact .inl ⟨this, this⟩
  · have := adj a b c h p h4 h3; exact .inl ⟨this, this⟩
  · exact absurd rfl hne
  · have := adj b c a h1 p h3 h4; exact .inr ⟨this, this⟩
  · have := adj c a b h2 p h3 h4; exact .inr ⟨this, this⟩
  · have := adj b c a h1 p h4 h3; exact .inl ⟨this, this⟩
  · exact absurd rfl hne
theorem simple_tri {a b c : Pt} (h : Simple [a, b, c]) : cr a b c ≠ 0 := fun h0 => by
  have := Geo.no_flat3 h rfl (v := b)
  exact this ⟨a, c, by simp [edges, Geo.chain], by simp [edges, Geo.chain], h0⟩

theorem crZ_rot (a b c : Z2) : crZ b c a = crZ a b c := by unfold crZ; grind
theorem crZ_rot2 (a b c : Z2) : crZ c a b = crZ a b c := by unfold crZ; grind
theorem crZ_flip (a b c : Z2) : crZ a c b = - crZ a b c := by unfold crZ; grind

theorem poly3 (a b c : Z2) : poly [a, b, c] = [toPt a, toPt b, toPt c] := rfl
theorem simple3 (a b c : Z2) : Simple (poly [a, b, c]) ↔ crZ a b c ≠ 0 := by
  rw [poly3]
  constructor
  · intro h e; exact simple_tri h (by rw [cr_toPt, e]; rfl)
  · intro h; exact tri_simple (by rw [cr_toPt]; simpa using h)
theorem area3 (a b c : Z2) : areaZ [a, b, c] = crZ a b c := by
  have := ar_poly [a, b, c]
  rw [poly3, Geo.ar_tri, cr_toPt, Rat.intCast_inj] at this
  exact this.symm
/-- when three spots are a polygon -/
theorem chk3 (a b c : Z2) : chkZ [a, b, c] = if outZ a || outZ b || outZ c then 3 else if crZ a b c = 0 then 11 else 0 := by
  unfold chkZ
  have e1 : [a, b, c].any outZ = (outZ a || outZ b || outZ c) := by simp [Bool.or_assoc]
  rw [if_neg (by simp), if_neg (by simp), e1]
  cases outZ a || outZ b || outZ c with
  | true => rfl
  | false =>
    simp only [Bool.false_eq_true, if_false]
    by_cases hz : crZ a b c = 0
    · rw [if_pos hz]
      cases hs : simpleZ [a, b, c] with
      | false => rfl
      | true => exact absurd hz ((simple3 a b c).1 ((simpleZ_iff (by simp)).1 hs))
    · rw [if_neg hz, (simpleZ_iff (by simp)).2 ((simple3 a b c).2 hz)]
      rfl

theorem tri3Z_pos {a b c q : Z2} (h : 0 < crZ a b c) : tri3Z a b c q = sgn (min (crZ a b q) (min (crZ b c q) (crZ c a q))) := by
  unfold tri3Z; rw [if_neg (by omega), if_neg (by omega)]
theorem tri3Z_neg {a b c q : Z2} (h : crZ a b c < 0) : tri3Z a b c q = sgn (min (crZ a c q) (min (crZ c b q) (crZ b a q))) := by
  unfold tri3Z; rw [if_neg (by omega), if_pos (by omega)]
theorem tri3Z_rot (a b c q : Z2) : tri3Z b c a q = tri3Z a b c q := by
  have h1 := crZ_rot a b c
  by_cases hz : crZ a b c = 0
  · unfold tri3Z; rw [if_pos hz, if_pos (by omega)]
  by_cases hp : 0 < crZ a b c
  · rw [tri3Z_pos hp, tri3Z_pos (by omega)]; congr 1; omega
  · rw [tri3Z_neg (a := a) (by omega), tri3Z_neg (by omega)]; congr 1; omega
theorem tri3Z_swap (a b c q : Z2) : tri3Z b a c q = tri3Z a b c q := by
  have h1 : crZ b a c = - crZ a b c := crZ_swap a b c
  by_cases hz : crZ a b c = 0
  · unfold tri3Z; rw [if_pos hz, if_pos (by omega)]
  by_cases hp : 0 < crZ a b c
  · rw [tri3Z_pos hp, tri3Z_neg (by omega)]; congr 1; omega
  · rw [tri3Z_neg (a := a) (by omega), tri3Z_pos (by omega)]; congr 1; omega
theorem holds3 (a b c q : Z2) : holdsZ [a, b, c] q = if outZ q || outZ a || outZ b || outZ c then -1 else tri3Z a b c q := by
  unfold holdsZ; rw [if_neg (by simp)]; rfl
theorem holds_rot (a b c q : Z2) : holdsZ [b, c, a] q = holdsZ [a, b, c] q := by
  rw [holds3, holds3, tri3Z_rot]
  cases outZ q <;> cases outZ a <;> cases outZ b <;> cases outZ c <;> rfl
theorem holds_swap (a b c q : Z2) : holdsZ [b, a, c] q = holdsZ [a, b, c] q := by
  rw [holds3, holds3, tri3Z_swap]
  cases outZ q <;> cases outZ a <;> cases outZ b <;> cases outZ c <;> rfl

theorem sgn_cases (n : Int) : (0 < n ∧ sgn n = 1) ∨ (n = 0 ∧ sgn n = 0) ∨ (n < 0 ∧ sgn n = -1) := by
  rcases Int.lt_trichotomy n 0 with h | h | h
  · exact .inr (.inr ⟨h, sgn_neg h⟩)
  · exact .inr (.inl ⟨h, sgn_zero h⟩)
  · exact .inl ⟨h, sgn_pos h⟩

/-- in a triangle that turns to the left -/
theorem place_tri {a b c q : Z2} (h : 0 < crZ a b c) (hq : outZ q = false) : placeZ [a, b, c] q = tri3Z a b c q := by
  have hs : Simple (poly [a, b, c]) := (simple3 a b c).2 (by omega)
  have ha : 0 < areaZ [a, b, c] := by rw [area3]; exact h
  have hcr : 0 < cr (toPt a) (toPt b) (toPt c) := by rw [cr_toPt]; exact Rat.intCast_pos.2 h
  have hcr1 : 0 < cr (toPt b) (toPt c) (toPt a) := by rw [Geo.cr_rot]; exact hcr
  have hcr2 : 0 < cr (toPt c) (toPt a) (toPt b) := by rw [Geo.cr_rot2]; exact hcr
  have he : edges (poly [a, b, c]) = [(toPt a, toPt b), (toPt b, toPt c), (toPt c, toPt a)] := rfl
  have c1 := cr_toPt a b q; have c2 := cr_toPt b c q; have c3 := cr_toPt c a q
  have hon : onAny [a, b, c] q = true ↔ On (toPt a) (toPt b) (toPt q) ∨ On (toPt b) (toPt c) (toPt q) ∨ On (toPt c) (toPt a) (toPt q) := by
    rw [on_poly, he]; simp
  have hInT : Geo.InT (toPt a) (toPt b) (toPt c) (toPt q) ↔ (0 ≤ crZ a b q ∧ 0 ≤ crZ b c q ∧ 0 ≤ crZ c a q) := by
    unfold Geo.InT; rw [c1, c2, c3]
    simp only [Rat.intCast_nonneg]
  rw [tri3Z_pos h]
  rcases sgn_cases (min (crZ a b q) (min (crZ b c q) (crZ c a q))) with ⟨hm, e⟩ | ⟨hm, e⟩ | ⟨hm, e⟩
  · rw [e]
    have hw : Geo.w (poly [a, b, c]) (toPt q) = 1 := Geo.tri_in (by rw [c1]; exact Rat.intCast_pos.2 (by omega)) (by rw [c2]; exact Rat.intCast_pos.2 (by omega)) (by rw [c3]; exact Rat.intCast_pos.2 (by omega))
    rcases place_good hs ha hq with ⟨p1, p2⟩ | ⟨p1, _⟩ | ⟨_, _, p3⟩
    · exfalso
      rcases hon.1 p2 with o | o | o
      · have := Geo.cr_on o; rw [c1] at this; have : crZ a b q = 0 := by simpa using this
        omega
      · have := Geo.cr_on o; rw [c2] at this; have : crZ b c q = 0 := by simpa using this
        omega
      · have := Geo.cr_on o; rw [c3] at this; have : crZ c a q = 0 := by simpa using this
        omega
    · exact p1
    · omega
  · rw [e]
    have hT : Geo.InT (toPt a) (toPt b) (toPt c) (toPt q) := hInT.2 (by omega)
    have ho : onAny [a, b, c] q = true := hon.2 (by
      have : crZ a b q = 0 ∨ crZ b c q = 0 ∨ crZ c a q = 0 := by omega
      rcases this with z | z | z
      · exact .inl (Geo.tri_side hcr (by rw [c1, z]; rfl) hT.2.1 hT.2.2)
      · exact .inr (.inl (Geo.tri_side hcr1 (by rw [c2, z]; rfl) hT.2.2 hT.1))
      · exact .inr (.inr (Geo.tri_side hcr2 (by rw [c3, z]; rfl) hT.1 hT.2.1)))
    rcases place_good hs ha hq with ⟨p1, p2⟩ | ⟨_, p2, _⟩ | ⟨_, p2, _⟩
    · exact p1
    · rw [ho] at p2; cases p2
    · rw [ho] at p2; cases p2
  · rw [e]
    have hT : ¬ Geo.InT (toPt a) (toPt b) (toPt c) (toPt q) := fun h => by have := hInT.1 h; omega
    have hw : Geo.w (poly [a, b, c]) (toPt q) = 0 := Geo.tri_out hcr hT
    rcases place_good hs ha hq with ⟨p1, p2⟩ | ⟨_, _, p3⟩ | ⟨p1, _⟩
    · exfalso
      rcases hon.1 p2 with o | o | o
      · exact hT (Geo.inT_conv (x := toPt a) (y := toPt b) ⟨by rw [Geo.cr_self]; grind, by grind, by rw [Geo.cr_self']; grind⟩ ⟨by rw [Geo.cr_self']; grind, by rw [Geo.cr_self]; grind, by grind⟩ o)
      · exact hT (Geo.inT_conv (x := toPt b) (y := toPt c) ⟨by rw [Geo.cr_self']; grind, by rw [Geo.cr_self]; grind, by grind⟩ ⟨by grind, by rw [Geo.cr_self']; grind, by rw [Geo.cr_self]; grind⟩ o)
      · exact hT (Geo.inT_conv (x := toPt c) (y := toPt a) ⟨by grind, by rw [Geo.cr_self']; grind, by rw [Geo.cr_self]; grind⟩ ⟨by rw [Geo.cr_self]; grind, by grind, by rw [Geo.cr_self']; grind⟩ o)
    · omega
    · exact p1
theorem where_tri (a b c q : Z2) : (chkZ [a, b, c] = 0 → holdsZ [a, b, c] q = whereZ [a, b, c] q) ∧ (chkZ [a, b, c] ≠ 0 → holdsZ [a, b, c] q = -1) := by
  constructor
  · intro h0
    have hc := chk3 a b c
    rw [h0] at hc
    rw [whereZ_pos h0, holds3]
    cases ho : outZ a || outZ b || outZ c with
    | true => rw [ho] at hc; simp at hc
    | false =>
      rw [ho] at hc
      simp only [Bool.false_eq_true, if_false] at hc
      by_cases hz : crZ a b c = 0
      · rw [if_pos hz] at hc; omega
      simp only [Bool.or_eq_false_iff] at ho
      cases hq : outZ q with
      | true => unfold placeZ; rw [hq]; rfl
      | false =>
        rw [ho.1.1, ho.1.2, ho.2]
        simp only [Bool.or_false, Bool.false_eq_true, if_false]
        by_cases hp : 0 < crZ a b c
        · exact (place_tri hp hq).symm
        · have e1 := placeZ_reverse [a, b, c] q
          have e2 : [a, b, c].reverse = [c, b, a] := rfl
          rw [e2] at e1
          have e3 : crZ c b a = - crZ a b c := by unfold crZ; grind
          rw [← e1, place_tri (by omega) hq, tri3Z_swap b c a q]
          exact (tri3Z_rot a b c q).symm
  · intro h0
    have hc := chk3 a b c
    rw [holds3]
    cases ho : outZ a || outZ b || outZ c with
    | true =>
      have : (outZ q || outZ a || outZ b || outZ c) = true := by
        rw [Bool.or_assoc, Bool.or_assoc, ← Bool.or_assoc (outZ a), ho]; simp
      rw [this]; rfl
    | false =>
      rw [ho] at hc
      simp only [Bool.false_eq_true, if_false] at hc
      by_cases hz : crZ a b c = 0
      · unfold tri3Z; rw [if_pos hz]; split <;> rfl
      · rw [if_neg hz] at hc; exact absurd hc h0
/-- a vertex lies on the boundary -/
theorem holds_vertex {a b c : Z2} (h : chkZ [a, b, c] = 0) : holdsZ [a, b, c] a = 0 ∧ holdsZ [a, b, c] c = 0 := by
  have h1 := place_vertex h (k := 0) (by simp)
  have h2 := place_vertex h (k := 2) (by simp)
  rw [(where_tri a b c a).1 h, (where_tri a b c c).1 h]
  exact ⟨h1, h2⟩
end Go.Proofs.Ytfgeengdmbabhaa
