import Derived.Test.YtfgeengdmbabhaaL25
import Derived.Test.YtfgeengdmbabhaaQe
namespace Go.Proofs.Ytfgeengdmbabhaa
open Go.RowKit
attribute [local go_sem ↓] Go.wp_at_zero Go.wp_at_succ

theorem boxesT (w : World) (d : Z2) (f : Bool) (q : Int) : Below w.heap.size w ((w.alloc (.cells #[iv d.x, iv d.y] 30)).alloc (.cells #[.bool f, iv q] 51)) ∧ ((w.alloc (.cells #[iv d.x, iv d.y] 30)).alloc (.cells #[.bool f, iv q] 51)).cell? ⟨w.heap.size, 0, none⟩ = some (iv d.x) ∧ ((w.alloc (.cells #[iv d.x, iv d.y] 30)).alloc (.cells #[.bool f, iv q] 51)).cell? ⟨w.heap.size, 1, none⟩ = some (iv d.y) ∧ ((w.alloc (.cells #[iv d.x, iv d.y] 30)).alloc (.cells #[.bool f, iv q] 51)).cell? ⟨w.heap.size + 1, 0, none⟩ = some (.bool f) ∧ ((w.alloc (.cells #[iv d.x, iv d.y] 30)).alloc (.cells #[.bool f, iv q] 51)).cell? ⟨w.heap.size + 1, 1, none⟩ = some (iv q) := by
  exact ⟨below_trans (below_alloc _ _) (below_alloc _ _), by simp, by simp, by simp, by simp⟩
set_option maxRecDepth 100000 in
set_option maxHeartbeats 4000000 in
/-- garmentlaw15.OverlapMoves -/
theorem lawMovesO (A B : Option Addr) (c c2 : Nat) (a b : List Z2) (d : Z2) (f : Bool) (q : Int) (w : World) (h1 : Sp w A a) (hca : a.length ≤ c) (h2 : Sp w B b) (hcb : b.length ≤ c2) :
    Calls Try.prog 12 #[.slice A a.length c, .slice B b.length c2, sv d, .agg #[.bool f, .int .i64 q]] w fun e w' => e = .returned (.bool true) ∧ Below w.heap.size w w' := by
  have HA := Lib.hid h1; have HB := Lib.hid h2
  clear h1 h2
  obtain ⟨m, hm, hq⟩ := and3 q
  have HQ := Lib.hid (And.intro hm hq)
  clear hm hq
  go_enter Try.func12, Try.ntmps12
  go_upto_region 1 with fail
  have F := boxesT w d f q
  revert F
  generalize ((w.alloc (.cells #[iv d.x, iv d.y] 30)).alloc (.cells #[.bool f, iv q] 51)) = W
  rintro ⟨hW, f1, f2, t1, t2⟩
  have HW := Lib.hid hW
  clear hW
  go_wp2_with fail
  refine (few45 _ _ _ _ _ _ _).mono ?_
  rintro e w1 ⟨rfl, rfl⟩
  cases hf : (decide (a.length ≤ 10) && decide (b.length ≤ 10))
  case false =>
    clear hf
    go_wp2_with fail
    refine (example47 _).mono ?_
    rintro e w9 ⟨rfl, hb⟩
    go_wp2
    go_ret
    exact ⟨rfl, below_trans HW.out hb⟩
  case true =>
  clear hf
  go_wp2_with fail
  refine (check46 A _ c a _ rfl (HA.out.later HW.out)).mono ?_
  rintro e w2 ⟨rfl, hb⟩
  replace HW := Lib.hid (below_trans HW.out hb)
  replace f1 := cell_later hb f1; replace f2 := cell_later hb f2; replace t1 := cell_later hb t1; replace t2 := cell_later hb t2
  clear hb
  by_cases ha : chkZ a = 0
  case neg =>
    have hd : (chkZ a != 0) = true := by simpa using ha
    clear ha
    go_wp2_with fail
    refine (example47 _).mono ?_
    rintro e w9 ⟨rfl, hb⟩
    go_wp2
    go_ret
    exact ⟨rfl, below_trans HW.out hb⟩
  case pos =>
  have Ha := Lib.hid ha
  rw [ha]
  clear ha
  go_wp2_with fail
  refine (check46 B _ c2 b _ rfl (HB.out.later HW.out)).mono ?_
  rintro e w3 ⟨rfl, hb⟩
  replace HW := Lib.hid (below_trans HW.out hb)
  replace f1 := cell_later hb f1; replace f2 := cell_later hb f2; replace t1 := cell_later hb t1; replace t2 := cell_later hb t2
  clear hb
  by_cases hb : chkZ b = 0
  case neg =>
    have hd : (chkZ b != 0) = true := by simpa using hb
    clear hb
    go_wp2_with fail
    refine (example47 _).mono ?_
    rintro e w9 ⟨rfl, hb⟩
    go_wp2
    go_ret
    exact ⟨rfl, below_trans HW.out hb⟩
  case pos =>
  have Hb := Lib.hid hb
  rw [hb]
  clear hb
  have E1 := Lib.hid (ov_ok Ha.out Hb.out)
  by_cases x1 : d.x < -1048576
  case pos =>
    go_wp2_with fail
    refine (example47 _).mono ?_
    rintro e w9 ⟨rfl, hb⟩
    go_wp2
    go_ret
    exact ⟨rfl, below_trans HW.out hb⟩
  case neg =>
  by_cases x2 : 1048576 < d.x
  case pos =>
    go_wp2_with fail
    refine (example47 _).mono ?_
    rintro e w9 ⟨rfl, hb⟩
    go_wp2
    go_ret
    exact ⟨rfl, below_trans HW.out hb⟩
  case neg =>
  by_cases x3 : d.y < -1048576
  case pos =>
    go_wp2_with fail
    refine (example47 _).mono ?_
    rintro e w9 ⟨rfl, hb⟩
    go_wp2
    go_ret
    exact ⟨rfl, below_trans HW.out hb⟩
  case neg =>
  by_cases x4 : 1048576 < d.y
  case pos =>
    go_wp2_with fail
    refine (example47 _).mono ?_
    rintro e w9 ⟨rfl, hb⟩
    go_wp2
    go_ret
    exact ⟨rfl, below_trans HW.out hb⟩
  case neg =>
  have L1 := Lib.hid (chkZ_zero Ha.out).1
  have L2 := Lib.hid (chkZ_zero Hb.out).1
  have HP := Lib.hid (fun (l : List Z2) (X : Option Addr) (n : Nat) (w : World) (h : chkZ l = 0) (hs : Sp w X l) => poly54 f q m X n l w HQ.out.1 HQ.out.2 hs (by have := (chkZ_zero h).1; omega) (polyZ_bd h))
  have HM := Lib.hid (show ∀ (l : List Z2) (X : Option Addr) (n : Nat) (w : World) (h : chkZ l = 0) (hs : Sp w X (polyZ f m l)), Calls Try.prog 52 #[.slice X (polyZ f m l).length n, sv d] w (RetSl (movedZ f m d l) w) from fun l X n w h hs => by
    have e := move52 X n (polyZ f m l) d w hs (by rw [polyZ_length]; have := (chkZ_zero h).1; omega)
    rw [moveZ_moved h f m (by omega)] at e
    exact e)
  have HE := Lib.hid (fun h1 h2 => rel_moved f HQ.out.1 d (a := a) (b := b) Ha.out Hb.out h1 h2)
  replace HW := HW.out
  have SA := HA.out.later HW
  have SB := HB.out.later HW
  go_upto_region 3 with fail
  go_region_held3 (fun w' => Below w.heap.size w w' ∧ Sp w' A a ∧ Sp w' B b ∧ w'.cell? ⟨w.heap.size, 0, none⟩ = some (iv d.x) ∧ w'.cell? ⟨w.heap.size, 1, none⟩ = some (iv d.y) ∧ w'.cell? ⟨w.heap.size + 1, 0, none⟩ = some (.bool f) ∧ w'.cell? ⟨w.heap.size + 1, 1, none⟩ = some (iv q))
    (first | exact ⟨HW.drew, SA.drew, SB.drew, f1, f2, t1, t2⟩ | assumption | (go_split_ands; refine ⟨below_trans (by assumption) hbq, Sp.later (by assumption) hbq, Sp.later (by assumption) hbq, ?_, ?_, ?_, ?_⟩ <;> exact cell_later hbq (by assumption)))
    (first
      | (go_at_call 54; (try go_split_ands); refine (HP.out _ _ _ _ ?_ ?_).mono ?_; (first | with_reducible exact Ha.out | with_reducible exact Hb.out); (assumption); rintro e w' ⟨Ap, cp, rfl, hcp, hsp, hbq⟩; (try replace hsm := Sp.later hsm hbq))
      | (go_at_call 52; (try go_split_ands); refine (HM.out _ _ _ _ ?_ ?_).mono ?_; (first | with_reducible exact Ha.out | with_reducible exact Hb.out); (assumption); rintro e w' ⟨Am, cm, rfl, hcm, hsn, hbq⟩; (first | (replace hsm := Sp.later hsm hbq) | (have hsm := hsn; have hcm0 := hcm))))
  rename_i hHeld
  have HW2 := Lib.hid hHeld.1
  have HPa := Lib.hid hsm
  have HPb := Lib.hid hsn
  have HCa := hcm0
  have HCb := hcm
  clear hHeld hsm hsn hcm0 hcm hsp hcp hbq x1 x2 x3 x4 f1 f2 t1 t2 SA SB HW HP HM L1 L2
  generalize movedZ f m d a = P at *
  generalize movedZ f m d b = Q at *
  go_wp2_with fail
  refine (check46 _ _ _ P _ rfl HPa.out).mono ?_
  rintro e w2 ⟨rfl, hb⟩
  replace HW2 := Lib.hid (below_trans HW2.out hb)
  replace HPa := Lib.hid (HPa.out.later hb)
  replace HPb := Lib.hid (HPb.out.later hb)
  clear hb
  by_cases hp : chkZ P = 0
  case neg =>
    have hd : (chkZ P != 0) = true := by simpa using hp
    clear hp
    go_wp2_with fail
    refine (example47 _).mono ?_
    rintro e w9 ⟨rfl, hb⟩
    go_wp2
    go_ret
    exact ⟨rfl, below_trans HW2.out hb⟩
  case pos =>
  have Hp := Lib.hid hp
  rw [hp]
  clear hp
  go_wp2_with fail
  refine (check46 _ _ _ Q _ rfl HPb.out).mono ?_
  rintro e w3 ⟨rfl, hb⟩
  replace HW2 := Lib.hid (below_trans HW2.out hb)
  replace HPa := Lib.hid (HPa.out.later hb)
  replace HPb := Lib.hid (HPb.out.later hb)
  clear hb
  by_cases hq : chkZ Q = 0
  case neg =>
    have hd : (chkZ Q != 0) = true := by simpa using hq
    clear hq
    go_wp2_with fail
    refine (example47 _).mono ?_
    rintro e w9 ⟨rfl, hb⟩
    go_wp2
    go_ret
    exact ⟨rfl, below_trans HW2.out hb⟩
  case pos =>
  have Hq := Lib.hid hq
  rw [hq]
  clear hq
  have E2 := Lib.hid (ov_ok Hp.out Hq.out)
  have E3 := Lib.hid (HE.out Hp.out Hq.out)
  clear HE
  go_wp2_with fail
  refine (overlap48 A B _ _ c c2 a b _ rfl rfl (HA.out.later HW2.out) (HB.out.later HW2.out) hca hcb).mono ?_
  rintro e w4 ⟨rfl, hb⟩
  rw [E1.out.1, E1.out.2.1]
  replace HW2 := Lib.hid (below_trans HW2.out hb)
  replace HPa := Lib.hid (HPa.out.later hb)
  replace HPb := Lib.hid (HPb.out.later hb)
  clear hb
  go_wp2_with fail
  refine (overlap48 _ _ _ _ _ _ P Q _ rfl rfl HPa.out HPb.out HCa HCb).mono ?_
  rintro e w5 ⟨rfl, hb⟩
  rw [E2.out.1, E2.out.2.1, E3.out]
  replace HW2 := Lib.hid (below_trans HW2.out hb)
  replace HPa := Lib.hid (HPa.out.later hb)
  replace HPb := Lib.hid (HPb.out.later hb)
  clear hb
  go_wp2_with fail
  refine (touch55 A B _ _ c c2 a b _ rfl rfl (HA.out.later HW2.out) (HB.out.later HW2.out) hca hcb).mono ?_
  rintro e w6 ⟨rfl, hb⟩
  rw [E1.out.1, E1.out.2.2]
  replace HW2 := Lib.hid (below_trans HW2.out hb)
  replace HPa := Lib.hid (HPa.out.later hb)
  replace HPb := Lib.hid (HPb.out.later hb)
  clear hb
  go_wp2_with fail
  refine (touch55 _ _ _ _ _ _ P Q _ rfl rfl HPa.out HPb.out HCa HCb).mono ?_
  rintro e w7 ⟨rfl, hb⟩
  rw [E2.out.1, E2.out.2.2, E3.out]
  replace HW2 := Lib.hid (below_trans HW2.out hb)
  replace HPa := Lib.hid (HPa.out.later hb)
  replace HPb := Lib.hid (HPb.out.later hb)
  clear hb
  generalize decide (relZ a b = 1) = d1 at *
  generalize decide (relZ a b = 0) = d2 at *
  clear E1 E2 E3
  cases d1
  · cases d2
    · go_wp2_with fail
      refine (example47 _).mono ?_
      rintro e w9 ⟨rfl, hb⟩
      go_wp2
      go_ret
      exact ⟨rfl, below_trans HW2.out hb⟩
    · go_wp2_with fail
      refine (example47 _).mono ?_
      rintro e w9 ⟨rfl, hb⟩
      go_wp2
      go_ret
      exact ⟨rfl, below_trans HW2.out hb⟩
  · cases d2
    · go_wp2_with fail
      refine (example47 _).mono ?_
      rintro e w9 ⟨rfl, hb⟩
      go_wp2
      go_ret
      exact ⟨rfl, below_trans HW2.out hb⟩
    · go_wp2_with fail
      refine (example47 _).mono ?_
      rintro e w9 ⟨rfl, hb⟩
      go_wp2
      go_ret
      exact ⟨rfl, below_trans HW2.out hb⟩
end Go.Proofs.Ytfgeengdmbabhaa
