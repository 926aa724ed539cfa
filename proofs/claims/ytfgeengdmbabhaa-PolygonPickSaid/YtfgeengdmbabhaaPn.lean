import Derived.Test.YtfgeengdmbabhaaPm
namespace Go.Proofs.Ytfgeengdmbabhaa
open Geo (isum isum_congr isum_add isum_mul isum_const isum_zero isum_part W2 W2_on W2_off)

def i1 (n : Int) : Int := if n = 1 then 1 else 0
def i0 (n : Int) : Int := if n = 0 then 1 else 0
/-- the numbers of the points of the grid inside and on the sides -/
def inS (ps : List Z2) (X Y : Int) (n m : Nat) : Int := gsum (fun x y => i1 (placeZ ps ⟨x, y⟩)) X Y n m
def onS (ps : List Z2) (X Y : Int) (n m : Nat) : Int := gsum (fun x y => i0 (placeZ ps ⟨x, y⟩)) X Y n m
theorem gsum_part {F : Int → Int → Int} {X Y : Int} {n m : Nat} {c d c' d' : Int} (h1 : X ≤ c) (h2 : c ≤ d + 1) (h3 : d < X + n) (k1 : Y ≤ c') (k2 : c' ≤ d' + 1) (k3 : d' < Y + m)
    (hF : ∀ x y, x < c ∨ d < x ∨ y < c' ∨ d' < y → F x y = 0) : gsum F X Y n m = gsum F c c' (d + 1 - c).toNat (d' + 1 - c').toNat := by
  unfold gsum
  rw [isum_part h1 h2 h3 (fun x hx => isum_zero fun y _ _ => hF x y (.inl hx)) (fun x hx => isum_zero fun y _ _ => hF x y (.inr (.inl hx)))]
  exact isum_congr fun x _ _ => isum_part k1 k2 k3 (fun y hy => hF x y (.inr (.inr (.inl hy)))) (fun y hy => hF x y (.inr (.inr (.inr hy))))
theorem box_mem {ps : List Z2} {p : Z2} (hp : p ∈ ps) : (boxR ps).x ≤ p.x ∧ p.x ≤ (boxR ps).x + (boxR ps).w ∧ (boxR ps).y ≤ p.y ∧ p.y ≤ (boxR ps).y + (boxR ps).h := by
  obtain ⟨k, hk, rfl⟩ := List.getElem_of_mem hp
  rw [← pt_eq hk]
  have h1 := loTo_le (ps := ps) hk; have h2 := hiTo_ge (ps := ps) hk
  unfold boxR
  simp only
  omega
theorem box_out {ps : List Z2} {x y : Int} (h : x < (boxR ps).x ∨ (boxR ps).x + (boxR ps).w < x ∨ y < (boxR ps).y ∨ (boxR ps).y + (boxR ps).h < y) : placeZ ps ⟨x, y⟩ = -1 := by
  refine place_out ?_
  rcases h with h | h | h | h
  · exact .inr (.inl fun p hp => by have := box_mem hp; simp only; omega)
  · exact .inl fun p hp => by have := box_mem hp; simp only; omega
  · exact .inr (.inr (.inr fun p hp => by have := box_mem hp; simp only; omega))
  · exact .inr (.inr (.inl fun p hp => by have := box_mem hp; simp only; omega))
theorem box_bd {ps : List Z2} (h : chkZ ps = 0) : -1048576 ≤ (boxR ps).x ∧ (boxR ps).x + (boxR ps).w ≤ 1048576 ∧ -1048576 ≤ (boxR ps).y ∧ (boxR ps).y + (boxR ps).h ≤ 1048576 ∧ 0 ≤ (boxR ps).w ∧ 0 ≤ (boxR ps).h := by
  have hn : 0 < ps.length := by have := (chkZ_zero h).2.1; omega
  obtain ⟨⟨j1, a1, _, c1⟩, ⟨j2, a2, _, c2⟩⟩ := loTo_at hn (Nat.le_refl _)
  obtain ⟨⟨j3, a3, _, c3⟩, ⟨j4, a4, _, c4⟩⟩ := hiTo_at hn (Nat.le_refl _)
  have b1 := in_of_chk h _ (pt_mem a1); have b2 := in_of_chk h _ (pt_mem a2)
  have b3 := in_of_chk h _ (pt_mem a3); have b4 := in_of_chk h _ (pt_mem a4)
  have l := loTo_le (ps := ps) (k := ps.length) hn; have g := hiTo_ge (ps := ps) (k := ps.length) hn
  unfold boxR
  simp only
  omega
theorem val_W2 {ps : List Z2} (h : Geo.Simple (poly ps)) (ha : 0 < areaZ ps) {q : Z2} (hq : outZ q = false) : 2 * i1 (placeZ ps q) + i0 (placeZ ps q) = W2 (poly ps) (toPt q) := by
  rcases place_good h ha hq with ⟨e, o⟩ | ⟨e, o, hw⟩ | ⟨e, o, hw⟩
  · rw [e, W2_on ((on_poly ps q).1 o)]; rfl
  · rw [e, W2_off (fun k => by rw [(on_poly ps q).2 k] at o; cases o), hw]; rfl
  · rw [e, W2_off (fun k => by rw [(on_poly ps q).2 k] at o; cases o), hw]; rfl
theorem pick_pos {ps : List Z2} (h : Geo.Simple (poly ps)) (ha : 0 < areaZ ps) {X Y : Int} {n m : Nat} (hb : ∀ x y, X ≤ x → x < X + n → Y ≤ y → y < Y + m → outZ ⟨x, y⟩ = false) (hp : ∀ p ∈ ps, InG X Y n m p) :
    2 * inS ps X Y n m + onS ps X Y n m = areaZ ps + 2 := by
  have e : 2 * inS ps X Y n m + onS ps X Y n m = pickS (poly ps) X Y n m := by
    unfold inS onS pickS
    rw [← gsum_mul, ← gsum_add]
    exact gsum_congr fun x y h1 h2 h3 h4 => val_W2 h ha (hb x y h1 h2 h3 h4)
  have p := pick_main (X := X) (Y := Y) (n := n) (m := m) _ (poly ps) rfl h ((LT_area h).2 ha) (fun q hq => by
    obtain ⟨z, hz, rfl⟩ := List.mem_map.1 hq
    exact ⟨z, rfl, hp z hz⟩)
  rw [ar_poly] at p
  rw [e]
  have : ((pickS (poly ps) X Y n m : Int) : Rat) = ((areaZ ps + 2 : Int) : Rat) := by rw [p, Rat.intCast_add]; rfl
  exact Rat.intCast_inj.1 this
/-- the law -/
theorem pick_law {ps : List Z2} (h : chkZ ps = 0) : 2 * inS ps ((boxR ps).x - 1) ((boxR ps).y - 1) ((boxR ps).w + 3).toNat ((boxR ps).h + 3).toNat + onS ps ((boxR ps).x - 1) ((boxR ps).y - 1) ((boxR ps).w + 3).toNat ((boxR ps).h + 3).toNat - 2 = max (aZ ps) (- aZ ps) := by
  have bb := box_bd h
  have hs := chk_simple h
  have hne := area_ne hs
  rw [aZ_pos h]
  have e1 : inS ps ((boxR ps).x - 1) ((boxR ps).y - 1) ((boxR ps).w + 3).toNat ((boxR ps).h + 3).toNat = inS ps (boxR ps).x (boxR ps).y ((boxR ps).x + (boxR ps).w + 1 - (boxR ps).x).toNat ((boxR ps).y + (boxR ps).h + 1 - (boxR ps).y).toNat :=
    gsum_part (by omega) (by omega) (by omega) (by omega) (by omega) (by omega) (fun x y hx => by rw [box_out hx]; rfl)
  have e2 : onS ps ((boxR ps).x - 1) ((boxR ps).y - 1) ((boxR ps).w + 3).toNat ((boxR ps).h + 3).toNat = onS ps (boxR ps).x (boxR ps).y ((boxR ps).x + (boxR ps).w + 1 - (boxR ps).x).toNat ((boxR ps).y + (boxR ps).h + 1 - (boxR ps).y).toNat :=
    gsum_part (by omega) (by omega) (by omega) (by omega) (by omega) (by omega) (fun x y hx => by rw [box_out hx]; rfl)
  rw [e1, e2]
  have hb : ∀ x y, (boxR ps).x ≤ x → x < (boxR ps).x + ((boxR ps).x + (boxR ps).w + 1 - (boxR ps).x).toNat → (boxR ps).y ≤ y → y < (boxR ps).y + ((boxR ps).y + (boxR ps).h + 1 - (boxR ps).y).toNat → outZ ⟨x, y⟩ = false := fun x y h1 h2 h3 h4 => (out_iff _).2 (by simp only; omega)
  have hp : ∀ p ∈ ps, InG (boxR ps).x (boxR ps).y ((boxR ps).x + (boxR ps).w + 1 - (boxR ps).x).toNat ((boxR ps).y + (boxR ps).h + 1 - (boxR ps).y).toNat p := fun p hp => by
    have := box_mem hp
    exact ⟨by omega, by omega, by omega, by omega⟩
  by_cases ha : 0 < areaZ ps
  · rw [pick_pos hs ha hb hp]; omega
  · have hr := pick_pos (ps := ps.reverse) (by have := hs.reverse; rwa [poly, ← List.map_reverse] at this) (by rw [areaZ_reverse]; omega) hb (fun p hp' => hp p (List.mem_reverse.1 hp'))
    unfold inS onS at hr ⊢
    simp only [placeZ_reverse] at hr
    rw [hr, areaZ_reverse]; omega
theorem isum_bd {f : Int → Int} {c : Int} (hf : ∀ x, 0 ≤ f x ∧ f x ≤ c) (a : Int) (n : Nat) : 0 ≤ isum f a n ∧ isum f a n ≤ n * c := by
  induction n with
  | zero => simp [isum]
  | succ n ih =>
    have := hf (a + n)
    simp only [isum]
    have e : ((n + 1 : Nat) : Int) * c = n * c + c := by grind
    rw [e]; omega
theorem i1_bd (n : Int) : 0 ≤ i1 n ∧ i1 n ≤ 1 := by unfold i1; split <;> omega
theorem i0_bd (n : Int) : 0 ≤ i0 n ∧ i0 n ≤ 1 := by unfold i0; split <;> omega
theorem gsum_bd {F : Int → Int → Int} (hF : ∀ x y, 0 ≤ F x y ∧ F x y ≤ 1) (X Y : Int) {n m : Nat} (hn : n ≤ 30) (hm : m ≤ 30) : 0 ≤ gsum F X Y n m ∧ gsum F X Y n m ≤ 900 := by
  have h : ∀ x, 0 ≤ isum (fun y => F x y) Y m ∧ isum (fun y => F x y) Y m ≤ 30 := fun x => by
    have := isum_bd (f := fun y => F x y) (hF x) Y m; omega
  have := isum_bd h X n
  unfold gsum; omega
end Go.Proofs.Ytfgeengdmbabhaa
