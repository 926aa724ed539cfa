import Derived.Test.YtfgeengdmbabhaaPn
namespace Go.Proofs.Ytfgeengdmbabhaa
open Go.RowKit
open Geo (isum)
attribute [local go_sem ↓] Go.wp_at_zero Go.wp_at_succ

/-- the counts of a column, and of the first columns -/
def colI (ps : List Z2) (Y : Int) (x : Int) (j : Nat) : Int := isum (fun y => i1 (placeZ ps ⟨x, y⟩)) Y j
def colO (ps : List Z2) (Y : Int) (x : Int) (j : Nat) : Int := isum (fun y => i0 (placeZ ps ⟨x, y⟩)) Y j
def ctI (ps : List Z2) (X Y : Int) (m : Nat) (k : Nat) : Int := isum (fun x => colI ps Y x m) X k
def ctO (ps : List Z2) (X Y : Int) (m : Nat) (k : Nat) : Int := isum (fun x => colO ps Y x m) X k
theorem colI_bd (ps : List Z2) (Y x : Int) {j : Nat} (hj : j ≤ 30) : 0 ≤ colI ps Y x j ∧ colI ps Y x j ≤ 30 := by
  have := isum_bd (f := fun y => i1 (placeZ ps ⟨x, y⟩)) (fun _ => i1_bd _) Y j
  unfold colI; omega
theorem colO_bd (ps : List Z2) (Y x : Int) {j : Nat} (hj : j ≤ 30) : 0 ≤ colO ps Y x j ∧ colO ps Y x j ≤ 30 := by
  have := isum_bd (f := fun y => i0 (placeZ ps ⟨x, y⟩)) (fun _ => i0_bd _) Y j
  unfold colO; omega
theorem ctI_bd (ps : List Z2) (X Y : Int) {m k : Nat} (hm : m ≤ 30) (hk : k ≤ 30) : 0 ≤ ctI ps X Y m k ∧ ctI ps X Y m k ≤ 900 := by
  have := isum_bd (f := fun x => colI ps Y x m) (fun x => colI_bd ps Y x hm) X k
  unfold ctI; omega
theorem ctO_bd (ps : List Z2) (X Y : Int) {m k : Nat} (hm : m ≤ 30) (hk : k ≤ 30) : 0 ≤ ctO ps X Y m k ∧ ctO ps X Y m k ≤ 900 := by
  have := isum_bd (f := fun x => colO ps Y x m) (fun x => colO_bd ps Y x hm) X k
  unfold ctO; omega

set_option maxRecDepth 100000 in
set_option maxHeartbeats 8000000 in
/-- garmentlaw11.PolygonPick -/
theorem lawPick (A : Option Addr) (c : Nat) (ps : List Z2) (w : World) (hsp : Sp w A ps) (hcap : ps.length ≤ c) :
    Calls Try.prog 6 #[.slice A ps.length c] w fun e w' => e = .returned (.bool true) ∧ Below w.heap.size w w' := by
  have HS := Lib.hid hsp; clear hsp
  go_enter Try.func6, Try.ntmps6
  go_wp2_with fail
  refine (box42 A c ps _ HS.out hcap).mono ?_
  rintro e w1 ⟨rfl, hW⟩
  go_upto_region 2 with fail
  have hb := below_alloc w1 (.cells #[iv (boxZ ps).x, iv (boxZ ps).y, iv (boxZ ps).w, iv (boxZ ps).h] 41)
  have k1 : Blk (w1.alloc (.cells #[iv (boxZ ps).x, iv (boxZ ps).y, iv (boxZ ps).w, iv (boxZ ps).h] 41)) w1.heap.size 41 #[iv (boxZ ps).x, iv (boxZ ps).y, iv (boxZ ps).w, iv (boxZ ps).h] := Blk.new _ _ _
  revert hb k1
  generalize w1.alloc (.cells #[iv (boxZ ps).x, iv (boxZ ps).y, iv (boxZ ps).w, iv (boxZ ps).h] 41) = W1
  intro hb k1
  replace hW := below_trans hW hb
  clear hb
  generalize w1.heap.size = g at *
  have r0 := k1.cell 0; have r1 := k1.cell 1; have r2 := k1.cell 2; have r3 := k1.cell 3
  simp at r0 r1 r2 r3
  clear k1
  have HW := Lib.hid hW
  clear hW
  by_cases hf : ps.length ≤ 50
  case neg =>
    have dF := decide_eq_false hf
    go_wp2_with fail
    refine (few30 _ _ _ _).mono ?_
    rintro e w' ⟨rfl, rfl⟩
    rw [dF]
    clear dF hf
    go_wp2_with fail
    refine (awake31 _).mono ?_
    rintro e w8 ⟨rfl, hb⟩
    go_wp2
    go_ret
    exact ⟨rfl, below_trans HW.out hb⟩
  case pos =>
  have dF := decide_eq_true hf
  go_wp2_with fail
  refine (few30 _ _ _ _).mono ?_
  rintro e w' ⟨rfl, rfl⟩
  rw [dF]
  clear dF
  by_cases h0 : chkZ ps = 0
  case neg =>
    have hd : (chkZ ps != 0) = true := by simpa using h0
    clear h0
    go_wp2_with fail
    refine (awake31 _).mono ?_
    rintro e w8 ⟨rfl, hb⟩
    go_wp2
    go_ret
    exact ⟨rfl, below_trans HW.out hb⟩
  case pos =>
  have H0 := Lib.hid h0
  have LW := Lib.hid (pick_law h0)
  have AB := Lib.hid (aZ_bd ps)
  have bb := box_bd h0
  rw [boxZ_pos h0] at r0 r1 r2 r3
  have HAR := Lib.hid (fun w (hs : Sp w A ps) => area2_39 A c ps w hs hcap)
  have HWH := Lib.hid (fun q w (hs : Sp w A ps) => where35 A c ps q w hs hcap)
  rw [h0]
  clear h0
  generalize boxR ps = br at *
  obtain ⟨bx, bY, bw, bh⟩ := br
  simp only at bb r0 r1 r2 r3 LW
  by_cases hw : 20 < bw
  case pos =>
    go_wp2_with fail
    refine (awake31 _).mono ?_
    rintro e w8 ⟨rfl, hb⟩
    go_wp2
    go_ret
    exact ⟨rfl, below_trans HW.out hb⟩
  case neg =>
  by_cases hh : 20 < bh
  case pos =>
    go_wp2_with fail
    refine (awake31 _).mono ?_
    rintro e w8 ⟨rfl, hb⟩
    go_wp2
    go_ret
    exact ⟨rfl, below_trans HW.out hb⟩
  case neg =>
  have s1 : IntKind.i64.wrap (bx - 1) = bx - 1 := IntWalk.i64_in _ (by omega)
  have s2 : IntKind.i64.wrap (bY - 1) = bY - 1 := IntWalk.i64_in _ (by omega)
  have s3 : IntKind.i64.wrap (bx + bw) = bx + bw := IntWalk.i64_in _ (by omega)
  have s4 : IntKind.i64.wrap (bY + bh) = bY + bh := IntWalk.i64_in _ (by omega)
  have s5 : IntKind.i64.wrap (bx + bw + 1) = bx + bw + 1 := IntWalk.i64_in _ (by omega)
  have s6 : IntKind.i64.wrap (bY + bh + 1) = bY + bh + 1 := IntWalk.i64_in _ (by omega)
  obtain ⟨N, hN⟩ : ∃ N : Nat, (bw + 3).toNat = N := ⟨_, rfl⟩
  obtain ⟨M, hM⟩ : ∃ M : Nat, (bh + 3).toNat = M := ⟨_, rfl⟩
  rw [hN, hM] at LW
  have LW2 := Lib.hid (show 2 * ctI ps (bx - 1) (bY - 1) M N + ctO ps (bx - 1) (bY - 1) M N - 2 = max (aZ ps) (- aZ ps) from LW.out)
  clear LW
  have hN2 : (N : Int) = bw + 3 := by omega
  have hM2 : (M : Int) = bh + 3 := by omega
  clear hN hM
  go_wp2_with fail
  go_loopw [5, 6, 7] (fun a b i wr => ∃ k : Nat, k ≤ N ∧ i = .int .i64 (bx - 1 + k) ∧ a = .int .i64 (ctI ps (bx - 1) (bY - 1) M k) ∧ b = .int .i64 (ctO ps (bx - 1) (bY - 1) M k) ∧ Below w.heap.size w wr ∧ wr.cell? ⟨g, 0, none⟩ = some (iv bx) ∧ wr.cell? ⟨g, 1, none⟩ = some (iv bY) ∧ wr.cell? ⟨g, 2, none⟩ = some (iv bw) ∧ wr.cell? ⟨g, 3, none⟩ = some (iv bh)) (fun _ _ i _ => (bx - 1 + N - intOf i).toNat)
  case atStart => exact ⟨0, Nat.zero_le _, by go_num, rfl, rfl, HW.out, r0, r1, r2, r3⟩
  case round =>
    clear HW r0 r1 r2 r3
    obtain ⟨k, hk, rfl, rfl, rfl, hB, r0, r1, r2, r3⟩ := hrel
    have c1 := ctI_bd ps (bx - 1) (bY - 1) (m := M) (k := k) (by omega) (by omega)
    have c2 := ctO_bd ps (bx - 1) (bY - 1) (m := M) (k := k) (by omega) (by omega)
    by_cases hlt : k < N
    · have C1 := Lib.hid (show ctI ps (bx - 1) (bY - 1) M (k + 1) = ctI ps (bx - 1) (bY - 1) M k + colI ps (bY - 1) (bx - 1 + k) M from rfl)
      have C2 := Lib.hid (show ctO ps (bx - 1) (bY - 1) M (k + 1) = ctO ps (bx - 1) (bY - 1) M k + colO ps (bY - 1) (bx - 1 + k) M from rfl)
      have s7 : IntKind.i64.wrap (bx - 1 + k + 1) = bx - 1 + k + 1 := IntWalk.i64_in _ (by omega)
      have hx : -1048577 ≤ bx - 1 + (k : Int) ∧ bx - 1 + (k : Int) ≤ 1048577 := by omega
      have hxx : (bx - 1 + (k : Int) ≤ bx + bw + 1) := by omega
      generalize hx0 : bx - 1 + (k : Int) = x at *
      have JX := Lib.hid (show x + 1 = bx - 1 + ((k + 1 : Nat) : Int) by omega)
      have HX := Lib.hid hx0
      clear hx0
      generalize ctI ps (bx - 1) (bY - 1) M k = ca at *
      generalize ctO ps (bx - 1) (bY - 1) M k = cb at *
      go_wp2_with fail
      go_loopw [5, 6, 8] (fun a b i wr2 => ∃ j : Nat, j ≤ M ∧ i = .int .i64 (bY - 1 + j) ∧ a = .int .i64 (ca + colI ps (bY - 1) x j) ∧ b = .int .i64 (cb + colO ps (bY - 1) x j) ∧ Below w.heap.size w wr2 ∧ wr2.cell? ⟨g, 0, none⟩ = some (iv bx) ∧ wr2.cell? ⟨g, 1, none⟩ = some (iv bY) ∧ wr2.cell? ⟨g, 2, none⟩ = some (iv bw) ∧ wr2.cell? ⟨g, 3, none⟩ = some (iv bh)) (fun _ _ i _ => (bY - 1 + M - intOf i).toNat)
      case atStart => exact ⟨0, Nat.zero_le _, by go_num, by simp [colI, isum], by simp [colO, isum], hB, r0, r1, r2, r3⟩
      case round =>
        clear hB r0 r1 r2 r3
        obtain ⟨j, hj, rfl, rfl, rfl, hB, r0, r1, r2, r3⟩ := hrel
        have d1 := colI_bd ps (bY - 1) x (j := j) (by omega)
        have d2 := colO_bd ps (bY - 1) x (j := j) (by omega)
        by_cases hlj : j < M
        · have D1 := Lib.hid (show colI ps (bY - 1) x (j + 1) = colI ps (bY - 1) x j + i1 (placeZ ps ⟨x, bY - 1 + j⟩) from rfl)
          have D2 := Lib.hid (show colO ps (bY - 1) x (j + 1) = colO ps (bY - 1) x j + i0 (placeZ ps ⟨x, bY - 1 + j⟩) from rfl)
          have s8 : IntKind.i64.wrap (bY - 1 + j + 1) = bY - 1 + j + 1 := IntWalk.i64_in _ (by omega)
          have hyy : (bY - 1 + (j : Int) ≤ bY + bh + 1) := by omega
          have my : (bY - 1 + M - (bY - 1 + (j : Int) + 1)).toNat < (bY - 1 + M - (bY - 1 + (j : Int))).toNat := by omega
          have jy : bY - 1 + (j : Int) + 1 = bY - 1 + ((j + 1 : Nat) : Int) := by omega
          have JY := Lib.hid jy
          clear jy
          generalize bY - 1 + (j : Int) = y at *
          generalize colI ps (bY - 1) x j = da at *
          generalize colO ps (bY - 1) x j = db at *
          go_wp2_with fail
          refine (HWH.out ⟨x, y⟩ _ (HS.out.later hB)).mono ?_
          rintro e w2 ⟨rfl, hb⟩
          rw [whereZ_pos H0.out, H0.out]
          replace hB := below_trans hB hb; replace r0 := cell_later hb r0; replace r1 := cell_later hb r1; replace r2 := cell_later hb r2; replace r3 := cell_later hb r3
          clear hb
          generalize placeZ ps ⟨x, y⟩ = p at *
          by_cases p1 : p = 1
          · subst p1
            have z1 : IntKind.i64.wrap (ca + da + 1) = ca + da + 1 := IntWalk.i64_in _ (by omega)
            go_wp2_with fail
            go_roundw
            case rel => exact ⟨j + 1, by omega, by rw [JY.out], by rw [D1.out, Int.add_assoc]; rfl, by rw [D2.out]; simp [i0], hB, r0, r1, r2, r3⟩
            case measure => simp [intOf]; omega
          by_cases p0 : p = 0
          · subst p0
            have z1 : IntKind.i64.wrap (cb + db + 1) = cb + db + 1 := IntWalk.i64_in _ (by omega)
            go_wp2_with fail
            go_roundw
            case rel => exact ⟨j + 1, by omega, by rw [JY.out], by rw [D1.out]; simp [i1], by rw [D2.out, Int.add_assoc]; rfl, hB, r0, r1, r2, r3⟩
            case measure => simp [intOf]; omega
          · have q1 : (p == 1) = false := by simpa using p1
            have q0 : (p == 0) = false := by simpa using p0
            have P := Lib.hid (And.intro p1 p0)
            clear p1 p0
            go_wp2_with fail
            go_roundw
            case rel => exact ⟨j + 1, by omega, by rw [JY.out], by rw [D1.out, i1, if_neg P.out.1, Int.add_zero], by rw [D2.out, i0, if_neg P.out.2, Int.add_zero], hB, r0, r1, r2, r3⟩
            case measure => simp [intOf]; omega
        · obtain rfl : j = M := by omega
          have hyy : ¬ (bY - 1 + (j : Int) ≤ bY + bh + 1) := by omega
          go_wp2_with fail
          go_roundw
          case rel => exact ⟨k + 1, by omega, by rw [JX.out], by rw [C1.out], by rw [C2.out], hB, r0, r1, r2, r3⟩
          case measure => have := HX.out; simp [intOf]; omega
    · obtain rfl : k = N := by omega
      have hxx : ¬ (bx - 1 + (k : Int) ≤ bx + bw + 1) := by omega
      have ab := AB.out
      generalize ctI ps (bx - 1) (bY - 1) M k = ca at *
      generalize ctO ps (bx - 1) (bY - 1) M k = cb at *
      go_wp2_with fail
      refine (HAR.out _ (HS.out.later hB)).mono ?_
      rintro e w3 ⟨rfl, hb⟩
      replace hB := below_trans hB hb
      clear hb
      go_wp2_with fail
      refine (HAR.out _ (HS.out.later hB)).mono ?_
      rintro e w4 ⟨rfl, hb⟩
      replace hB := below_trans hB hb
      clear hb
      generalize aZ ps = az at *
      clear hxx hlt hk hN2 hM2 s1 s2 s3 s4 s5 s6 bb
      have z2 : IntKind.i64.wrap (2 * ca) = 2 * ca := IntWalk.i64_in _ (by omega)
      have z3 : IntKind.i64.wrap (2 * ca + cb) = 2 * ca + cb := IntWalk.i64_in _ (by omega)
      have z4 : IntKind.i64.wrap (2 * ca + cb - 2) = 2 * ca + cb - 2 := IntWalk.i64_in _ (by omega)
      have LL := LW2.out
      by_cases ha : 0 ≤ az
      · have z1 : IntKind.i64.wrap (- az) = - az := IntWalk.i64_in _ (by omega)
        have hq : (az == 2 * ca + cb - 2) = true := by rw [beq_iff_eq]; omega
        have mx : max az (-az) = az := by omega
        have l1 : ¬ az < - az := by omega
        have l2 : - az ≤ az := by omega
        clear LL LW2 ab c1 c2
        go_wp2_with fail
        refine (awake31 _).mono ?_
        rintro e w8 ⟨rfl, hb⟩
        go_wp2
        go_ret
        exact ⟨rfl, below_trans hB hb⟩
      · obtain ⟨u, rfl⟩ : ∃ u, az = - u := ⟨- az, by omega⟩
        have z1 : IntKind.i64.wrap (- - u) = u := by rw [Int.neg_neg]; exact IntWalk.i64_in _ (by omega)
        have z5 : IntKind.i64.wrap u = u := IntWalk.i64_in _ (by omega)
        have hq : (u == 2 * ca + cb - 2) = true := by rw [beq_iff_eq]; omega
        have mx : max (- u) u = u := by omega
        have l1 : - u < u := by omega
        have l2 : ¬ u ≤ - u := by omega
        clear LL LW2 ab c1 c2
        go_wp2_with fail
        refine (awake31 _).mono ?_
        rintro e w8 ⟨rfl, hb⟩
        go_wp2
        go_ret
        exact ⟨rfl, below_trans hB hb⟩
end Go.Proofs.Ytfgeengdmbabhaa
