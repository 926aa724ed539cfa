import Derived.Test.YtfgeengdmbabhaaWj
namespace Go.Proofs.Ytfgeengdmbabhaa
open Go.RowKit
attribute [local go_sem ↓] Go.wp_at_zero Go.wp_at_succ

/-- the list after i exchanges -/
def revTo (qs : List Z2) : Nat → List Z2
  | 0 => qs
  | i + 1 => ((revTo qs i).set i (pt (revTo qs i) (qs.length - 1 - i))).set (qs.length - 1 - i) (pt (revTo qs i) i)
theorem revTo_length (qs : List Z2) (i : Nat) : (revTo qs i).length = qs.length := by
  induction i with
  | zero => rfl
  | succ i ih => simp [revTo, ih]
theorem pt_set (l : List Z2) (k t : Nat) (q : Z2) (ht : t < l.length) : pt (l.set k q) t = if k = t then q else pt l t := by
  have h : t < (l.set k q).length := by simpa using ht
  rw [pt_eq h, pt_eq ht, List.getElem_set]
theorem pt_ext {l m : List Z2} (h : l.length = m.length) (hp : ∀ t, t < l.length → pt l t = pt m t) : l = m := by
  apply List.ext_getElem h
  intro t h1 h2
  have := hp t h1
  rwa [pt_eq h1, pt_eq h2] at this
theorem revTo_at (qs : List Z2) (i : Nat) (hi : 2 * i ≤ qs.length) (t : Nat) (ht : t < qs.length) : pt (revTo qs i) t = if t < i ∨ qs.length - i ≤ t then pt qs (qs.length - 1 - t) else pt qs t := by
  induction i generalizing t with
  | zero => rw [if_neg (by omega)]; rfl
  | succ i ih =>
    have hl := revTo_length qs i
    simp only [revTo]
    rw [pt_set _ _ _ _ (by simp [hl]; omega), pt_set _ _ _ _ (by omega)]
    have a1 := ih (by omega) i (by omega)
    have a2 := ih (by omega) (qs.length - 1 - i) (by omega)
    have a3 := ih (by omega) t ht
    rw [if_neg (by omega)] at a1 a2
    by_cases c1 : qs.length - 1 - i = t
    · rw [if_pos c1, a1, if_pos (by omega)]; congr 1; omega
    · rw [if_neg c1]
      by_cases c2 : i = t
      · rw [if_pos c2, a2, if_pos (by omega)]; congr 1; omega
      · rw [if_neg c2, a3]
        by_cases c3 : t < i ∨ qs.length - i ≤ t
        · rw [if_pos c3, if_pos (by omega)]
        · rw [if_neg c3, if_neg (by omega)]
theorem pt_reverse (qs : List Z2) (t : Nat) (ht : t < qs.length) : pt qs.reverse t = pt qs (qs.length - 1 - t) := by
  rw [pt_eq (by simpa using ht), pt_eq (by omega), List.getElem_reverse]
theorem revTo_end (qs : List Z2) (i : Nat) (h1 : 2 * i ≤ qs.length) (h2 : qs.length ≤ 2 * i + 1) : revTo qs i = qs.reverse := by
  apply pt_ext (by rw [revTo_length, List.length_reverse])
  intro t ht
  rw [revTo_length] at ht
  rw [revTo_at qs i h1 t ht, pt_reverse qs t ht]
  split
  · rfl
  · congr 1; omega

theorem flat_set_app (l : List Z2) (rest : List Value) (k : Nat) (q : Z2) (hk : k < l.length) : ((flat l ++ rest).set (k * 2) (iv q.x)).set (k * 2 + 1) (iv q.y) = flat (l.set k q) ++ rest := by
  have h := flat_length l
  rw [List.set_append_left _ _ (by omega), List.set_append_left _ _ (by simp; omega), flat_set]
theorem Blk.setSpotApp {w : World} {g : Nat} {l : List Z2} {rest : List Value} (h : Blk w g 30 (flat l ++ rest).toArray) (k : Nat) (q : Z2) (hk : k < l.length) :
    Blk ((w.setCell ⟨g, k * 2, none⟩ (iv q.x)).setCell ⟨g, k * 2 + 1, none⟩ (iv q.y)) g 30 (flat (l.set k q) ++ rest).toArray := by
  have h2 := (h.set_ (k * 2) (iv q.x)).set_ (k * 2 + 1) (iv q.y)
  rw [← flat_set_app l rest k q hk]
  simpa using h2
theorem Blk.cellApp {w : World} {g : Nat} {l : List Z2} {rest : List Value} (h : Blk w g 30 (flat l ++ rest).toArray) (k : Nat) (hk : k < l.length) :
    w.cell? ⟨g, k * 2, none⟩ = some (iv (pt l k).x) ∧ w.cell? ⟨g, k * 2 + 1, none⟩ = some (iv (pt l k).y) := by
  have h1 := flat_at l k hk
  have hl := flat_length l
  rw [h.cell, h.cell]
  simp only [List.getElem?_toArray]
  rw [List.getElem?_append_left (by omega), List.getElem?_append_left (by omega)]
  exact h1

theorem grown_set {a w : World} {g : Nat} (h : a.grownBy w (some g)) (o : Nat) (u : Value) : a.grownBy (w.setCell ⟨g, o, none⟩ u) (some g) :=
  ⟨h.os, h.tape, h.output, by simpa [World.setCell] using h.size, fun i hi hne => (Below.heap_setCell w ⟨g, o, none⟩ u i (by rintro rfl; exact hne rfl)).trans (h.block i hi hne)⟩
theorem grown_drew {a w : World} {row : Option Nat} (h : a.grownBy w row) : a.grownBy w.drew row := ⟨h.os, h.tape, h.output, h.size, h.block⟩

set_option maxHeartbeats 1000000 in
/-- slices.Reverse -/
theorem reverse75 (g n cap : Nat) (qs : List Z2) (rest : List Value) (w : World) (hb : Blk w g 30 (flat qs ++ rest).toArray) (hl : qs.length = n) (hn : n ≤ 100000) :
    Calls Try.prog 75 #[.slice (some ⟨g, 0, none⟩) n cap] w fun e w' => e = .returned (.tuple #[]) ∧ Blk w' g 30 (flat qs.reverse ++ rest).toArray ∧ w.grownBy w' (some g) := by
  subst hl
  have HB := Lib.hid hb
  clear hb
  go_enter Try.func75, Try.ntmps75
  go_wp2
  go_loopw [2, 3] (fun a b wr => ∃ (k : Nat) (j : Int), a = iv k ∧ b = iv j ∧ Hid (j = (qs.length : Int) - 1 - k) ∧ 2 * k ≤ qs.length ∧ Blk wr g 30 (flat (revTo qs k) ++ rest).toArray ∧ w.grownBy wr (some g)) (fun a _ _ => qs.length - (intOf a).toNat)
  case atStart => exact ⟨0, _, rfl, rfl, Lib.hid (by omega), by omega, HB.out, World.grownBy.refl w _⟩
  case round =>
    obtain ⟨k, j, rfl, rfl, HJ, hk, hb, hg⟩ := hrel
    have HB2 := Lib.hid hb
    by_cases hlt : (k : Int) < j
    · obtain ⟨m, rfl⟩ : ∃ m : Nat, j = m := ⟨j.toNat, by omega⟩
      have hj := HJ.out
      have hl := revTo_length qs k
      obtain ⟨f1, f2⟩ := hb.cellApp k (by omega)
      obtain ⟨f3, f4⟩ := hb.cellApp m (by omega)
      have z1 := hb.frozen (k * 2); have z2 := hb.frozen (k * 2 + 1); have z3 := hb.frozen (m * 2); have z4 := hb.frozen (m * 2 + 1)
      have n1 : (m : Int) < (qs.length : Int) := by omega
      have n2 : (k : Int) < (qs.length : Int) := by omega
      have n3 : (0 : Int) ≤ (k : Int) := by omega
      have n4 : (0 : Int) ≤ (m : Int) := by omega
      have d1 : k * 2 ≠ m * 2 := by omega
      have d2 : k * 2 + 1 ≠ m * 2 := by omega
      have d3 : k * 2 ≠ m * 2 + 1 := by omega
      have d4 : k * 2 + 1 ≠ m * 2 + 1 := by omega
      have d5 : k ≠ m := by omega
      clear hb hj hl
      go_wp2
      go_region
      go_wp2
      go_roundw
      case rel =>
        have hj := HJ.out
        have hl := revTo_length qs k
        have b1 := HB2.out.setSpotApp k (pt (revTo qs k) m) (by omega)
        have b2 := b1.setSpotApp m (pt (revTo qs k) k) (by simp; omega)
        have e1 : qs.length - 1 - k = m := by omega
        have e2 : ((revTo qs k).set k (pt (revTo qs k) m)).set m (pt (revTo qs k) k) = revTo qs (k + 1) := by simp only [revTo, e1]
        rw [e2] at b2
        exact ⟨k + 1, (m : Int) - 1, by go_num, rfl, Lib.hid (by omega), by omega, b2, grown_drew (grown_set (grown_set (grown_set (grown_set hg _ _) _ _) _ _) _ _)⟩
      case measure => simp [intOf]; omega
    · go_wp2
      go_end0
      have hj := HJ.out
      have b1 := HB2.out
      rw [revTo_end qs k hk (by omega)] at b1
      exact ⟨rfl, b1, hg⟩

theorem sliceBlock {w : World} {base : Nat} {v : Value} {qs : List Z2} (h : Own w base v qs) : (v = .slice none 0 0 ∧ qs = []) ∨ ∃ g cap rest, v = .slice (some ⟨g, 0, none⟩) qs.length cap ∧ base ≤ g ∧ Blk w g 30 (flat qs ++ rest).toArray ∧ qs.length ≤ cap ∧ cap ≤ maxLen ∧ (flat qs ++ rest).length = cap * 2 := by
  rcases h.2 with ⟨rfl, hn⟩ | ⟨g, cap, cur, rfl, hb, hg, hnc, hcm, hcs, htake⟩
  · exact .inl ⟨rfl, List.eq_nil_of_length_eq_zero hn⟩
  · refine .inr ⟨g, cap, cur.toList.drop (qs.length * 2), rfl, hb, ?_, hnc, hcm, ?_⟩
    · rw [← htake, List.take_append_drop]
      exact hg
    · rw [← htake, List.take_append_drop]
      simpa using hcs
theorem ownOf {w : World} {base g cap : Nat} {qs : List Z2} {rest : List Value} (hb : base ≤ g) (h : Blk w g 30 (flat qs ++ rest).toArray) (h1 : qs.length ≤ cap) (h2 : cap ≤ maxLen) (h3 : (flat qs ++ rest).length = cap * 2) :
    Own w base (.slice (some ⟨g, 0, none⟩) qs.length cap) qs := by
  refine ⟨flat_length qs, .inr ⟨g, cap, _, rfl, hb, h, h1, h2, by simpa using h3, ?_⟩⟩
  rw [← flat_length qs]
  simp

set_option maxHeartbeats 1000000 in
/-- slices.Reverse of a slice of the call's own -/
theorem reverseOwn (base : Nat) (v : Value) (qs : List Z2) (w : World) (h : Own w base v qs) (hn : qs.length ≤ 100000) :
    Calls Try.prog 75 #[v] w fun e w' => e = .returned (.tuple #[]) ∧ Own w' base v qs.reverse ∧ w.grownBy w' v.ownBlock := by
  rcases sliceBlock h with ⟨rfl, rfl⟩ | ⟨g, cap, rest, rfl, hb, hB, h1, h2, h3⟩
  · clear h
    go_enter Try.func75, Try.ntmps75
    go_wp2
    go_loopw [2, 3] (fun a b wr => a = iv 0 ∧ b = iv (-1) ∧ wr = w) (fun _ _ _ => 0)
    case atStart => exact ⟨rfl, rfl, rfl⟩
    case round =>
      obtain ⟨rfl, rfl, rfl⟩ := hrel
      go_wp2
      go_end0
      exact ⟨rfl, Own.nil _ _, World.grownBy.refl _ _⟩
  · refine (reverse75 g qs.length cap qs rest w hB rfl hn).mono ?_
    rintro e w' ⟨rfl, hB', hg⟩
    have e : qs.length = qs.reverse.length := by simp
    refine ⟨rfl, ?_, hg⟩
    rw [e]
    refine ownOf hb hB' (by simpa using h1) h2 ?_
    rw [List.length_append, flat_length] at h3 ⊢
    simpa using h3
end Go.Proofs.Ytfgeengdmbabhaa
