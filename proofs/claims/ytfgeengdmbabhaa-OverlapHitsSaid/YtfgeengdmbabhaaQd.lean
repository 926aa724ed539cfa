import Derived.Test.YtfgeengdmbabhaaQc
/- Plain laws of Hits, for any bound. -/
namespace Go.Proofs.Ytfgeengdmbabhaa
open Geo (Pt cr On Simple edges mem_edges esum Ri Rg IntT InT Cov)

def hitM (M : Int) (ps : List Z2) (r : R4) : Bool :=
  if max r.x (-M) < min (r.x + r.w) M ∧ max r.y (-M) < min (r.y + r.h) M then
    (splitZ ps).any fun t => decide (contactZ t (recZ (max r.x (-M)) (max r.y (-M)) (min (r.x + r.w) M) (min (r.y + r.h) M)) = 1)
  else false
theorem max_rat {a m q : Rat} {x : Int} {M : Int} (hm : m = ((max x M : Int) : Rat)) (ha : a = (x : Rat)) (hq : (M : Rat) < q) : m < q ↔ a < q := by
  subst hm ha
  by_cases e : M ≤ x
  · rw [show max x M = x by omega]
  · rw [show max x M = M by omega]
    have := ri (show x ≤ M by omega)
    constructor <;> intro _ <;> grind
theorem min_rat {a m q : Rat} {x : Int} {M : Int} (hm : m = ((min x M : Int) : Rat)) (ha : a = (x : Rat)) (hq : q < (M : Rat)) : q < m ↔ q < a := by
  subst hm ha
  by_cases e : x ≤ M
  · rw [show min x M = x by omega]
  · rw [show min x M = M by omega]
    have := ri (show M ≤ x by omega)
    constructor <;> intro _ <;> grind
theorem hitM_iff {M : Int} (hM : 1048576 ≤ M) {ps : List Z2} (h : chkZ ps = 0) (r : R4) : hitM M ps r = true ↔ ∃ q, Inn ps q ∧ (r.x : Rat) < q.x ∧ q.x < ((r.x + r.w : Int) : Rat) ∧ (r.y : Rat) < q.y ∧ q.y < ((r.y + r.h : Int) : Rat) := by
  have hbx := box_in h
  have clip : ∀ q, Inn ps q → ((((max r.x (-M) : Int) : Rat) < q.x ↔ (r.x : Rat) < q.x) ∧ (q.x < ((min (r.x + r.w) M : Int) : Rat) ↔ q.x < ((r.x + r.w : Int) : Rat)) ∧ (((max r.y (-M) : Int) : Rat) < q.y ↔ (r.y : Rat) < q.y) ∧ (q.y < ((min (r.y + r.h) M : Int) : Rat) ↔ q.y < ((r.y + r.h : Int) : Rat))) := fun q hq => by
    obtain ⟨b1, b2, b3, b4⟩ := inn_box h hq
    have c1 := ri (show -M ≤ (boxR ps).x by omega)
    have c2 := ri (show (boxR ps).x + (boxR ps).w ≤ M by omega)
    have c3 := ri (show -M ≤ (boxR ps).y by omega)
    have c4 := ri (show (boxR ps).y + (boxR ps).h ≤ M by omega)
    exact ⟨max_rat rfl rfl (by grind), min_rat rfl rfl (by grind), max_rat rfl rfl (by grind), min_rat rfl rfl (by grind)⟩
  unfold hitM
  constructor
  · intro hh
    split at hh
    · rename_i g
      obtain ⟨t, ht, hc⟩ := List.any_eq_true.1 hh
      obtain ⟨u, rfl, u1, _⟩ := split_tri h ht
      obtain ⟨q, q1, q2⟩ := (contact_in (CZ.tri u1) (CZ.box g.1 g.2)).1 (by simpa using hc)
      have hi := inn_of h ht q1
      obtain ⟨p1, p2, p3, p4⟩ := (rec_pos g.1 g.2 q).1 q2
      obtain ⟨c1, c2, c3, c4⟩ := clip q hi
      exact ⟨q, hi, c1.1 p1, c2.1 p2, c3.1 p3, c4.1 p4⟩
    · cases hh
  · rintro ⟨q, hi, p1, p2, p3, p4⟩
    obtain ⟨c1, c2, c3, c4⟩ := clip q hi
    have g1 := lt_of_rat (c1.2 p1) (c2.2 p2)
    have g2 := lt_of_rat (c3.2 p3) (c4.2 p4)
    rw [if_pos ⟨g1, g2⟩, List.any_eq_true]
    obtain ⟨s, hs, p, p5, p6⟩ := inn_near h (all_open _) hi ((rec_pos g1 g2 q).2 ⟨c1.2 p1, c2.2 p2, c3.2 p3, c4.2 p4⟩)
    obtain ⟨u, rfl, u1, _⟩ := split_tri h hs
    exact ⟨_, hs, decide_eq_true ((contact_in (CZ.tri u1) (CZ.box g1 g2)).2 ⟨p, p5, p6⟩)⟩
/-- the bound does not matter -/
theorem hitM_hitZ {ps : List Z2} (h : chkZ ps = 0) (r : R4) : hitM 1048577 ps r = hitZ ps r := by
  rw [Bool.eq_iff_iff, hitM_iff (by omega) h, hit_iff h]
end Go.Proofs.Ytfgeengdmbabhaa
