/- What Split returns, and where spots lie in its triangles. -/
import Derived.Test.YtfgeengdmbabhaaPf
import Derived.Test.YtfgeengdmbabhaaPg
namespace Go.Proofs.Ytfgeengdmbabhaa
open Geo (Pt cr On Simple edges mem_edges esum)

theorem split_ok {ps : List Z2} (h : chkZ ps = 0) : ∃ ts : List TZ, splitZ ps = ts.map toL ∧ splitE ps = 0 ∧ Geo.Cov (poly (normZ ps)) (ts.map toT) := by
  have n := norm_norm h
  obtain ⟨ts, h1, h2⟩ := splitG_law _ (normZ ps) [] rfl n.simple n.LT (n.in_range h)
  refine ⟨ts, ?_, ?_, h2⟩
  · unfold splitZ; rw [if_pos h, h1]; simp
  · unfold splitE; rw [if_pos h, h1]; rfl
theorem split_no {ps : List Z2} (h : ¬ chkZ ps = 0) : splitZ ps = [] ∧ splitE ps = chkZ ps := by
  unfold splitZ splitE; rw [if_neg h, if_neg h]; exact ⟨rfl, rfl⟩
theorem splitE_eq (ps : List Z2) : splitE ps = chkZ ps := by
  by_cases h : chkZ ps = 0
  · obtain ⟨ts, _, h2, _⟩ := split_ok h; rw [h2, h]
  · exact (split_no h).2

/-- the triangles' spots -/
theorem tri_facts {ps : List Z2} (h : chkZ ps = 0) {ts : List TZ} (hc : Geo.Cov (poly (normZ ps)) (ts.map toT)) {t : TZ} (ht : t ∈ ts) :
    0 < crZ t.1 t.2.1 t.2.2 ∧ t.1 ∈ normZ ps ∧ t.2.1 ∈ normZ ps ∧ t.2.2 ∈ normZ ps ∧ outZ t.1 = false ∧ outZ t.2.1 = false ∧ outZ t.2.2 = false := by
  have n := norm_norm h
  have hp := hc.pos _ (List.mem_map_of_mem ht)
  obtain ⟨m1, m2, m3⟩ := hc.mem _ (List.mem_map_of_mem ht)
  have un : ∀ x : Z2, toPt x ∈ poly (normZ ps) → x ∈ normZ ps := fun x hx => by
    obtain ⟨y, hy, e⟩ := List.mem_map.1 hx
    rw [← toPt_inj e]; exact hy
  simp only [toT] at hp m1 m2 m3
  rw [cr_toPt] at hp
  have a := un _ m1; have b := un _ m2; have c := un _ m3
  exact ⟨Rat.intCast_pos.1 hp, a, b, c, n.in_range h _ a, n.in_range h _ b, n.in_range h _ c⟩

/-- no vertex lies inside a triangle -/
theorem apart_law {ps : List Z2} {t : List Z2} (ht : t ∈ splitZ ps) {k : Nat} (hk : k < ps.length) : holdsZ t (pt ps k) ≠ 1 := by
  by_cases h : chkZ ps = 0
  · obtain ⟨ts, h1, _, hc⟩ := split_ok h
    rw [h1] at ht
    obtain ⟨t', ht', rfl⟩ := List.mem_map.1 ht
    obtain ⟨f1, _, _, _, f5, f6, f7⟩ := tri_facts h hc ht'
    have n := norm_norm h
    have ho : outZ (pt ps k) = false := (out_iff _).2 (in_of_chk h _ (pt_mem hk))
    intro e
    rcases holds_geo f1 f5 f6 f7 ho with ⟨_, hi⟩ | ⟨e', _⟩ | ⟨e', _⟩
    · have hr := hc.int _ (List.mem_map_of_mem ht') _ hi
      have hp := place_vertex h hk
      rw [whereZ_pos h, ← n.place] at hp
      rcases place_good n.simple n.pos ho with ⟨_, p2⟩ | ⟨p1, _⟩ | ⟨p1, _⟩
      · obtain ⟨e0, he0, ho0⟩ := (on_poly _ _).1 p2
        exact hr.1 e0 he0 ho0
      · omega
      · omega
    · change holdsZ [t'.1, t'.2.1, t'.2.2] (pt ps k) = 1 at e; omega
    · change holdsZ [t'.1, t'.2.1, t'.2.2] (pt ps k) = 1 at e; omega
  · rw [(split_no h).1] at ht; simp at ht
theorem split_some {ps : List Z2} (h : chkZ ps = 0) : splitZ ps ≠ [] := by
  obtain ⟨ts, h1, _, hc⟩ := split_ok h
  rw [h1]
  intro e
  have := hc.one
  simp at e
  rw [e] at this
  exact this rfl
theorem split_len (ps : List Z2) : (splitZ ps).length ≤ ps.length := by
  by_cases h : chkZ ps = 0
  · obtain ⟨ts, h1, _, hc⟩ := split_ok h
    have := hc.len
    have h2 : (normZ ps).length ≤ ps.length := by
      have h1 := cornersTo_length ps ps.length
      have h2 : (corn ps).length ≤ ps.length := by
        unfold corn; split
        · rw [List.length_reverse]; exact h1
        · exact h1
      have h3 := (rotZ_perm (corn ps)).length_eq
      rw [normZ_pos h]; unfold normR; omega
    rw [h1]; simp at this ⊢; omega
  · rw [(split_no h).1]; simp

/-- how many triangles pass a test -/
def cntL (f : List Z2 → Bool) : List (List Z2) → Nat
  | [] => 0
  | t :: ts => (if f t then 1 else 0) + cntL f ts
def isIn (q : Z2) (t : List Z2) : Bool := decide (holdsZ t q = 1)
def isOn (q : Z2) (t : List Z2) : Bool := decide (holdsZ t q = 0)
theorem cntL_zero {f : List Z2 → Bool} {l : List (List Z2)} (h : ∀ t ∈ l, f t = false) : cntL f l = 0 := by
  induction l with
  | nil => rfl
  | cons t l ih => simp only [cntL]; rw [h t (by simp), ih (fun t ht => h t (by simp [ht]))]; rfl
theorem cntL_pos {f : List Z2 → Bool} {l : List (List Z2)} {t : List Z2} (ht : t ∈ l) (h : f t = true) : 0 < cntL f l := by
  induction l with
  | nil => simp at ht
  | cons x l ih =>
    simp only [cntL]
    rcases List.mem_cons.1 ht with rfl | ht
    · rw [h]; simp; omega
    · have := ih ht; omega
theorem covers_law {ps : List Z2} (h : chkZ ps = 0) (q : Z2) :
    ((cntL (isIn q) (splitZ ps) = 0 ∨ (cntL (isIn q) (splitZ ps) = 1 ∧ cntL (isOn q) (splitZ ps) = 0 ∧ whereZ ps q = 1)) ∧ (whereZ ps q = -1 ↔ cntL (isIn q) (splitZ ps) + cntL (isOn q) (splitZ ps) = 0)) := by
  obtain ⟨ts, h1, _, hc⟩ := split_ok h
  have n := norm_norm h
  rw [whereZ_pos h, ← n.place, h1]
  cases ho : outZ q with
  | true =>
    have e1 : ∀ t ∈ ts.map toL, holdsZ t q = -1 := fun t ht => by
      obtain ⟨t', ht', rfl⟩ := List.mem_map.1 ht
      unfold toL; rw [holds3, ho]; rfl
    have i0 : cntL (isIn q) (ts.map toL) = 0 := cntL_zero fun t ht => by unfold isIn; rw [e1 t ht]; rfl
    have o0 : cntL (isOn q) (ts.map toL) = 0 := cntL_zero fun t ht => by unfold isOn; rw [e1 t ht]; rfl
    rw [i0, o0]
    refine ⟨.inl rfl, fun _ => rfl, fun _ => ?_⟩
    unfold placeZ; rw [ho]; rfl
  | false =>
    have key : ∀ t ∈ ts, (holdsZ (toL t) q = 1 ∧ Geo.IntT (toT t).1 (toT t).2.1 (toT t).2.2 (toPt q)) ∨ (holdsZ (toL t) q = 0 ∧ Geo.InT (toT t).1 (toT t).2.1 (toT t).2.2 (toPt q) ∧ ¬ Geo.IntT (toT t).1 (toT t).2.1 (toT t).2.2 (toPt q)) ∨ (holdsZ (toL t) q = -1 ∧ ¬ Geo.InT (toT t).1 (toT t).2.1 (toT t).2.2 (toPt q)) := fun t ht => by
      obtain ⟨f1, _, _, _, f5, f6, f7⟩ := tri_facts h hc ht
      exact holds_geo f1 f5 f6 f7 ho
    constructor
    · by_cases hin : ∃ t ∈ ts, Geo.IntT (toT t).1 (toT t).2.1 (toT t).2.2 (toPt q)
      · right
        obtain ⟨t, ht, hi⟩ := hin
        have hr := hc.int _ (List.mem_map_of_mem ht) _ hi
        have cnt : ∀ ts : List TZ, t ∈ ts → (∀ t ∈ ts, (holdsZ (toL t) q = 1 ∧ Geo.IntT (toT t).1 (toT t).2.1 (toT t).2.2 (toPt q)) ∨ (holdsZ (toL t) q = 0 ∧ Geo.InT (toT t).1 (toT t).2.1 (toT t).2.2 (toPt q) ∧ ¬ Geo.IntT (toT t).1 (toT t).2.1 (toT t).2.2 (toPt q)) ∨ (holdsZ (toL t) q = -1 ∧ ¬ Geo.InT (toT t).1 (toT t).2.1 (toT t).2.2 (toPt q))) →
            ((ts.map toT).Pairwise fun t t' => ∀ q, (Geo.IntT t.1 t.2.1 t.2.2 q → ¬ Geo.InT t'.1 t'.2.1 t'.2.2 q) ∧ (Geo.IntT t'.1 t'.2.1 t'.2.2 q → ¬ Geo.InT t.1 t.2.1 t.2.2 q)) → cntL (isIn q) (ts.map toL) = 1 ∧ cntL (isOn q) (ts.map toL) = 0 := by
          intro ts
          induction ts with
          | nil => intro ht; simp at ht
          | cons x ts ih =>
            intro ht hk hp
            simp only [List.map_cons, List.pairwise_cons] at hp
            rcases List.mem_cons.1 ht with rfl | ht
            · have hx : holdsZ (toL t) q = 1 := by
                rcases hk t (by simp) with ⟨e, _⟩ | ⟨_, _, e⟩ | ⟨_, e⟩
                · exact e
                · exact absurd hi e
                · exact absurd hi.inT e
              have hrest : ∀ t' ∈ ts, holdsZ (toL t') q = -1 := fun t' ht' => by
                have := (hp.1 _ (List.mem_map_of_mem ht') (toPt q)).1 hi
                rcases hk t' (by simp [ht']) with ⟨_, e⟩ | ⟨_, e, _⟩ | ⟨e, _⟩
                · exact absurd e.inT this
                · exact absurd e this
                · exact e
              have z1 : cntL (isIn q) (ts.map toL) = 0 := cntL_zero fun l hl => by obtain ⟨t', ht', rfl⟩ := List.mem_map.1 hl; unfold isIn; rw [hrest t' ht']; rfl
              have z2 : cntL (isOn q) (ts.map toL) = 0 := cntL_zero fun l hl => by obtain ⟨t', ht', rfl⟩ := List.mem_map.1 hl; unfold isOn; rw [hrest t' ht']; rfl
              simp only [List.map_cons, cntL, z1, z2]
              unfold isIn isOn; rw [hx]; exact ⟨rfl, rfl⟩
            · have hx : holdsZ (toL x) q = -1 := by
                have := (hp.1 _ (List.mem_map_of_mem ht) (toPt q)).2 hi
                rcases hk x (by simp) with ⟨_, e⟩ | ⟨_, e, _⟩ | ⟨e, _⟩
                · exact absurd e.inT this
                · exact absurd e this
                · exact e
              obtain ⟨c1, c2⟩ := ih ht (fun t ht => hk t (by simp [ht])) hp.2
              simp only [List.map_cons, cntL, c1, c2]
              unfold isIn isOn; rw [hx]; exact ⟨rfl, rfl⟩
        obtain ⟨c1, c2⟩ := cnt ts ht key hc.uniq
        refine ⟨c1, c2, ?_⟩
        rcases place_good n.simple n.pos ho with ⟨_, p2⟩ | ⟨p1, _⟩ | ⟨_, _, p3⟩
        · obtain ⟨e0, he0, ho0⟩ := (on_poly _ _).1 p2
          exact absurd ho0 (hr.1 e0 he0)
        · exact p1
        · have := hr.2; omega
      · left
        refine cntL_zero fun l hl => ?_
        obtain ⟨t, ht, rfl⟩ := List.mem_map.1 hl
        unfold isIn
        rw [decide_eq_false_iff_not]
        intro e
        rcases key t ht with ⟨_, hi⟩ | ⟨e', _⟩ | ⟨e', _⟩
        · exact hin ⟨t, ht, hi⟩
        · omega
        · omega
    · have hR : Geo.Rg (poly (normZ ps)) (toPt q) ↔ ∃ t ∈ ts, Geo.InT (toT t).1 (toT t).2.1 (toT t).2.2 (toPt q) := by
        rw [hc.cov]
        constructor
        · rintro ⟨t, ht, hT⟩
          obtain ⟨t', ht', rfl⟩ := List.mem_map.1 ht
          exact ⟨t', ht', hT⟩
        · rintro ⟨t, ht, hT⟩
          exact ⟨_, List.mem_map_of_mem ht, hT⟩
      have hP : placeZ (normZ ps) q = -1 ↔ ¬ Geo.Rg (poly (normZ ps)) (toPt q) := by
        unfold Geo.Rg
        rcases place_good n.simple n.pos ho with ⟨p1, p2⟩ | ⟨p1, p2, p3⟩ | ⟨p1, p2, p3⟩
        · rw [p1]
          have := (on_poly _ _).1 p2
          constructor
          · intro e; omega
          · intro e; exact absurd (.inl this) e
        · rw [p1, p3]; simp
        · rw [p1, p3]
          constructor
          · rintro _ (⟨e0, he0, ho0⟩ | e)
            · have := (on_poly _ _).2 ⟨e0, he0, ho0⟩
              rw [p2] at this; cases this
            · omega
          · intro _; rfl
      rw [hP, hR]
      constructor
      · intro hno
        have e1 : ∀ t ∈ ts.map toL, holdsZ t q = -1 := fun l hl => by
          obtain ⟨t, ht, rfl⟩ := List.mem_map.1 hl
          rcases key t ht with ⟨_, e⟩ | ⟨_, e, _⟩ | ⟨e, _⟩
          · exact absurd ⟨t, ht, e.inT⟩ hno
          · exact absurd ⟨t, ht, e⟩ hno
          · exact e
        have i0 : cntL (isIn q) (ts.map toL) = 0 := cntL_zero fun t ht => by unfold isIn; rw [e1 t ht]; rfl
        have o0 : cntL (isOn q) (ts.map toL) = 0 := cntL_zero fun t ht => by unfold isOn; rw [e1 t ht]; rfl
        rw [i0, o0]
      · rintro hz ⟨t, ht, hT⟩
        rcases key t ht with ⟨e, _⟩ | ⟨e, _⟩ | ⟨_, e⟩
        · have := cntL_pos (f := isIn q) (List.mem_map_of_mem (f := toL) ht) (by unfold isIn; rw [e]; rfl)
          omega
        · have := cntL_pos (f := isOn q) (List.mem_map_of_mem (f := toL) ht) (by unfold isOn; rw [e]; rfl)
          omega
        · exact e hT
end Go.Proofs.Ytfgeengdmbabhaa
