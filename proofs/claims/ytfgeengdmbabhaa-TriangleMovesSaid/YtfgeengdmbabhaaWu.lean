import Derived.Test.YtfgeengdmbabhaaWt
import Derived.Test.YtfgeengdmbabhaaPd
namespace Go.Proofs.Ytfgeengdmbabhaa
open Go.RowKit
attribute [local go_sem ↓] Go.wp_at_zero Go.wp_at_succ

theorem firstTo_one (l : List Z2) : firstTo l 1 = 0 := by
  show (if lessZ (pt l 0) (pt l (firstTo l 0)) then 0 else firstTo l 0) = 0
  cases lessZ (pt l 0) (pt l (firstTo l 0)) <;> rfl
theorem firstTo_le (l : List Z2) (k : Nat) : firstTo l k ≤ k := by
  induction k with
  | zero => simp [firstTo]
  | succ k ih => simp only [firstTo]; split <;> omega

theorem append_sp_nil (w : World) (base : Nat) (A : Option Addr) (n c : Nat) (l : List Z2) (hsp : Sp w A l) (hl : l.length = n) (hn : n ≤ 1000000) (hbase : base ≤ w.heap.size) :
    ∃ v' w', (Builtin.append_ #[22, 22] 22 #[.slice none 0 0, .slice A n c]).run Try.prog w = .ok v' w' ∧ Own w' base v' l ∧ Below w.heap.size w w' := by
  obtain ⟨v', w', h1, h2, h3, _⟩ := run_append_sp w base (.slice none 0 0) [] A n c l (Own.nil _ _) hsp hl (by simp; omega) hbase
  exact ⟨v', w', h1, by simpa using h2, below_grown (Below.refl _ _) h3 (fun k hk => by simp [Value.ownBlock] at hk)⟩

set_option maxHeartbeats 1000000 in
/-- garmentref11.Least -/
theorem least78 (A : Option Addr) (n c : Nat) (ps : List Z2) (w : World) (hl : ps.length = n) (hsp : Sp w A ps) (hn : n ≤ 100000) (hcap : n ≤ c) (hne : ps ≠ []) :
    Calls Try.prog 78 #[.slice A n c] w (RetOwn w.heap.size (rotZ ps) w) := by
  subst hl
  have HS := Lib.hid hsp; clear hsp
  go_enter Try.func78, Try.ntmps78
  go_wp2
  go_loopw [3, 4] (fun u i wr => ∃ k : Nat, k ≤ ps.length + 1 ∧ 1 ≤ k ∧ i = .int .i64 k ∧ u = iv (firstTo ps k) ∧ (k ≤ ps.length ∨ ps.length = 0) ∧ Below w.heap.size w wr) (fun _ i _ => ps.length - (intOf i).toNat)
  case atStart => exact ⟨1, by omega, by omega, rfl, by rw [firstTo_one]; rfl, by omega, Below.refl _ _⟩
  case round =>
    obtain ⟨k, hk, hk1, rfl, rfl, hkn, hB⟩ := hrel
    by_cases hlt : k < ps.length
    · obtain ⟨b, off, rfl, hc⟩ := HS.out.later hB hne
      have hf : firstTo ps k < ps.length := by have := firstTo_lt ps k (by omega); omega
      obtain ⟨g1, g2⟩ := hc k hlt
      obtain ⟨g3, g4⟩ := hc _ hf
      have HF := Lib.hid (show firstTo ps (k + 1) = if lessZ (pt ps k) (pt ps (firstTo ps k)) then k else firstTo ps k from rfl)
      generalize firstTo ps k = f at *
      have HC := Lib.hid hc
      clear hc
      have q1 : (0 : Int) ≤ (f : Int) := by omega
      have q2 : (f : Int) < (ps.length : Int) := by omega
      go_wp2_with fail
      go_region_held3 (fun w' => Below w.heap.size w w' ∧ w'.cell? ⟨b, off + k * 2, none⟩ = some (iv (pt ps k).x) ∧ w'.cell? ⟨b, off + k * 2 + 1, none⟩ = some (iv (pt ps k).y) ∧ w'.cell? ⟨b, off + f * 2, none⟩ = some (iv (pt ps f).x) ∧ w'.cell? ⟨b, off + f * 2 + 1, none⟩ = some (iv (pt ps f).y))
        (first | exact ⟨hB.drew, g1, g2, g3, g4⟩ | assumption | (go_split_ands; refine ⟨below_trans (by assumption) hbq, ?_, ?_, ?_, ?_⟩ <;> exact cell_later hbq (by assumption)))
        (first | (go_at_call 40; refine (less40 (pt ps k) (pt ps f) _).mono ?_; rintro e w' ⟨rfl, hbq⟩))
      go_split_ands
      cases hz : lessZ (pt ps k) (pt ps f)
      all_goals
        have HZ := Lib.hid hz
        clear hz
        go_wp2
        go_roundw
        case rel =>
          refine ⟨k + 1, by omega, by omega, by go_num, ?_, by omega, by assumption⟩
          rw [HF.out, HZ.out]; rfl
        case measure => simp [intOf]; omega
    · have hp : 0 < ps.length := by cases ps with | nil => exact absurd rfl hne | cons => simp
      have hf : k = ps.length := by omega
      subst hf
      have hfl := firstTo_lt ps ps.length hp
      have HR := Lib.hid (show rotZ ps = ps.drop (firstTo ps ps.length) ++ ps.take (firstTo ps ps.length) from rfl)
      generalize firstTo ps ps.length = f at *
      obtain ⟨b, off, rfl, hc⟩ := HS.out.later hB hne
      clear hc
      have i1 : (0 : Int) ≤ (f : Int) := by omega
      have i2 : (f : Int) ≤ (ps.length : Int) := by omega
      have i3 : (f : Int) ≤ (c : Int) := by omega
      have i4 : f ≠ c := by omega
      have q1 : (ps.take f).length = f := by simp; omega
      have q2 : (ps.drop f).length = ps.length - f := by simp
      have Q1 := Lib.hid q1; have Q2 := Lib.hid q2
      clear q1 q2
      obtain ⟨v', w1, hr, o', hb1⟩ := append_sp_nil wr w.heap.size (some ⟨b, off + f * 2, none⟩) (ps.length - f) (c - f) (ps.drop f) ((HS.out.later hB).drop f) Q2.out (by omega) hB.size
      have hB1 := hB.trans (hb1.mono hB.size)
      obtain ⟨v2, w2, hr2, o2, hg2, _⟩ := run_append_sp w1 w.heap.size v' (ps.drop f) (some ⟨b, off, none⟩) f c (ps.take f) o' ((HS.out.later hB1).take f) Q1.out (by rw [Q2.out, Q1.out]; omega) hB1.size
      have hB2 := below_grown hB1 hg2 (fun k hk => (o'.lt k hk).1)
      have HH1 := Lib.hid hr; have HH2 := Lib.hid hr2
      have HO := Lib.hid (And.intro o2 hB2)
      clear hr hr2 o' o2 hg2 hb1 hB1 hB2
      go_wp2_with (at_builtin; first | refine Lib.wpList_append_run _ (by rfl) _ _ _ _ (by rfl) _ _ (by rfl) (by rfl) _ _ HH1.out ?_ | refine Lib.wpList_append_run _ (by rfl) _ _ _ _ (by rfl) _ _ (by rfl) (by rfl) _ _ HH2.out ?_)
      go_ret
      exact ⟨_, rfl, by rw [HR.out]; exact HO.out.1, HO.out.2⟩

theorem corn_length (ps : List Z2) : (corn ps).length ≤ ps.length := by
  have h1 := cornersTo_length ps ps.length
  unfold corn
  split
  · rw [List.length_reverse]; exact h1
  · exact h1
theorem corners_three {ps : List Z2} (h : chkZ ps = 0) : 3 ≤ (cornersTo ps ps.length).length := by
  have h1 := (Geo.keepF_simple (chk_simple h)).three
  rw [← corners_keep (chk_simple h)] at h1
  simpa using h1

set_option maxRecDepth 100000 in
set_option maxHeartbeats 4000000 in
/-- garmentref11.Normal -/
theorem normal33 (A : Option Addr) (n c : Nat) (ps : List Z2) (w : World) (hl : ps.length = n) (hsp : Sp w A ps) :
    Calls Try.prog 33 #[.slice A n c] w (RetSl2 (normZ ps) (chkZ ps) w) := by
  subst hl
  have HS := Lib.hid hsp; clear hsp
  by_cases h0 : chkZ ps = 0
  case neg =>
    have H0 := Lib.hid h0
    have hd : (chkZ ps != 0) = true := by simpa using h0
    clear h0
    go_enter Try.func33, Try.ntmps33
    go_wp2_with fail
    refine (check46 A _ c ps _ rfl HS.out).mono ?_
    rintro e w1 ⟨rfl, hb1⟩
    go_wp2
    go_ret2
    refine ⟨none, 0, ?_, ?_, ?_, hb1⟩
    · rw [normZ_neg H0.out]; rfl
    · rw [normZ_neg H0.out]; simp
    · rw [normZ_neg H0.out]; intro h; exact absurd rfl h
  case pos =>
    have H0 := Lib.hid h0
    have H3 := Lib.hid (corners_three h0)
    have HAR := Lib.hid (corners_area (chk_simple h0))
    obtain ⟨hl40, hl3, hD, _, _⟩ := chkZ_zero h0
    have HD := Lib.hid hD
    clear h0 hD
    go_enter Try.func33, Try.ntmps33
    go_wp2_with fail
    refine (check46 A _ c ps _ rfl HS.out).mono ?_
    rintro e w1 ⟨rfl, hb1⟩
    rw [H0.out]
    go_wp2
    go_loopw [5, 7] (fun v i wr => ∃ k : Nat, k ≤ ps.length ∧ i = .int .i64 k ∧ Own wr w.heap.size v (cornersTo ps k) ∧ Below w.heap.size w wr) (fun _ i _ => ps.length - (intOf i).toNat)
    case atStart => exact ⟨0, Nat.zero_le _, rfl, Own.nil _ _, hb1⟩
    case round =>
      clear hb1
      obtain ⟨k, hk, rfl, ho, hB⟩ := hrel
      have HO := Lib.hid ho
      clear ho
      by_cases hlt : k < ps.length
      · have hne : ps ≠ [] := by intro h; simp [h] at hlt
        have hp : 0 < ps.length := by omega
        obtain ⟨b, off, rfl, hc⟩ := HS.out.later hB hne
        have l1 : (k + 1) % ps.length < ps.length := Nat.mod_lt _ hp
        have l2 : (k + ps.length - 1) % ps.length < ps.length := Nat.mod_lt _ hp
        obtain ⟨g1, g2⟩ := hc k hlt
        obtain ⟨g3, g4⟩ := hc _ l1
        obtain ⟨g5, g6⟩ := hc _ l2
        have m1 := mod_one k ps.length
        have m2 := modN (k := k) (n := ps.length) hp
        have HE := Lib.hid (show bendZ ps k = crZ (pt ps ((k + ps.length - 1) % ps.length)) (pt ps k) (pt ps ((k + 1) % ps.length)) from rfl)
        generalize e1 : (k + 1) % ps.length = k1 at *
        generalize e2 : (k + ps.length - 1) % ps.length = k2 at *
        clear e1 e2 hc
        have q1 : (0 : Int) ≤ (k2 : Int) := by omega
        have q2 : (k2 : Int) < (ps.length : Int) := by omega
        have q5 : (0 : Int) ≤ (k1 : Int) := by omega
        have q6 : (k1 : Int) < (ps.length : Int) := by omega
        have q7 : (0 : Int) ≤ (k : Int) := by omega
        have q8 : (k : Int) < (ps.length : Int) := by omega
        have q3 : ((ps.length : Int) == 0) = false := beq_eq_false_iff_ne.2 (by omega)
        have q4 : ¬ ((ps.length : Int) = 0) := by omega
        have t1 : ((k : Int) + 1).tmod (ps.length : Int) = (k1 : Int) := by rw [Int.tmod_eq_emod_of_nonneg (by omega)]; exact m1
        have t2 : ((k : Int) + (ps.length : Int) - 1).tmod (ps.length : Int) = (k2 : Int) := by rw [Int.tmod_eq_emod_of_nonneg (by omega)]; exact m2
        clear m1 m2
        have s1 : IntKind.i64.wrap ((k : Int) + 1) = (k : Int) + 1 := IntWalk.i64_in _ (by omega)
        have s2 : IntKind.i64.wrap ((k : Int) + (ps.length : Int)) = (k : Int) + (ps.length : Int) := IntWalk.i64_in _ (by omega)
        have s3 : IntKind.i64.wrap ((k : Int) + (ps.length : Int) - 1) = (k : Int) + (ps.length : Int) - 1 := IntWalk.i64_in _ (by omega)
        go_wp2_with fail
        go_region_held3 (fun w' => Below wr.heap.size wr w' ∧ w'.cell? ⟨b, off + k * 2, none⟩ = some (iv (pt ps k).x) ∧ w'.cell? ⟨b, off + k * 2 + 1, none⟩ = some (iv (pt ps k).y) ∧ w'.cell? ⟨b, off + k1 * 2, none⟩ = some (iv (pt ps k1).x) ∧ w'.cell? ⟨b, off + k1 * 2 + 1, none⟩ = some (iv (pt ps k1).y)
            ∧ w'.cell? ⟨b, off + k2 * 2, none⟩ = some (iv (pt ps k2).x) ∧ w'.cell? ⟨b, off + k2 * 2 + 1, none⟩ = some (iv (pt ps k2).y))
          (first | exact ⟨below_drew wr, g1, g2, g3, g4, g5, g6⟩ | assumption | (go_split_ands; refine ⟨below_trans (by assumption) hbq, ?_, ?_, ?_, ?_, ?_, ?_⟩ <;> exact cell_later hbq (by assumption)))
          (first | (go_at_call 41; refine (cross41 (pt ps k2) (pt ps k) (pt ps k1) _ (bd_pt HD.out _) (bd_pt HD.out _) (bd_pt HD.out _)).mono ?_; rintro e w' ⟨rfl, hbq⟩))
        go_split_ands
        rename_i hbr _ _ _ _ _ _
        have hB3 := hB.trans (hbr.mono hB.size)
        have HO3 := Lib.hid (HO.out.later hbr)
        have f1 := cell_later hbr g1
        have f2 := cell_later hbr g2
        rw [← HE.out]
        clear t1 t2 s1 s2 s3 g1 g2 g3 g4 g5 g6 q1 q2 q5 q6
        by_cases hz : bendZ ps k = 0
        · have hd : (bendZ ps k != 0) = false := by simpa using hz
          have HZ := Lib.hid hz
          clear hz
          go_wp2
          go_roundw
          case rel => exact ⟨k + 1, by omega, by go_num, by simp only [cornersTo]; rw [if_pos HZ.out]; exact HO3.out, hB3⟩
          case measure => simp [intOf]; omega
        · have hd : (bendZ ps k != 0) = true := by simpa using hz
          have HZ := Lib.hid hz
          clear hz
          have hsq : Sp (w'.alloc (.cells #[iv (pt ps k).x, iv (pt ps k).y] 30)) (some ⟨w'.heap.size, 0, none⟩) [pt ps k] := Blk.sp (Blk.new w' 30 #[iv (pt ps k).x, iv (pt ps k).y])
          have hcl := cornersTo_length ps k
          obtain ⟨v', w4, hr, o', hg, hat⟩ := run_append_sp (w'.alloc (.cells #[iv (pt ps k).x, iv (pt ps k).y] 30)) w.heap.size _ (cornersTo ps k) _ 1 1 [pt ps k] (HO3.out.later (below_alloc _ _)) hsq rfl (by simp; omega) (Nat.le_trans hB3.size (by simp))
          have HH := Lib.hid hr
          have hB4 := hB3.trans ((below_alloc w' (.cells #[iv (pt ps k).x, iv (pt ps k).y] 30)).mono hB3.size)
          have HO4 := Lib.hid (And.intro o' (below_grown hB4 hg (fun k hk => (HO3.out.lt k hk).1)))
          clear hr o' hg hat hsq
          go_wp2_with (at_builtin; refine Lib.wpList_append_run _ (by rfl) _ _ _ _ (by rfl) _ _ (by rfl) (by rfl) _ _ HH.out ?_)
          go_roundw
          case rel => exact ⟨k + 1, by omega, by go_num, by simp only [cornersTo]; rw [if_neg HZ.out]; exact HO4.out.1, HO4.out.2⟩
          case measure => simp [intOf]; omega
      · obtain rfl : k = ps.length := by omega
        have hcl := cornersTo_length ps ps.length
        have HDC := Lib.hid (fun p hp => HD.out p (corners_mem (ps := ps) ps.length (Nat.le_refl _) p hp))
        obtain ⟨A', c', rfl, hc', hs'⟩ := HO.out.sp
        have HS' := Lib.hid (And.intro hs' hc')
        clear hs' hc'
        by_cases ha : areaZ ps < 0
        · have dA := decide_eq_true ha
          have HA := Lib.hid ha
          clear ha
          go_wp2_with fail
          refine (twice77 A' _ c' (cornersTo ps ps.length) _ rfl HS'.out.1 (by omega) HDC.out).mono ?_
          rintro e w2 ⟨rfl, hb2⟩
          rw [HAR.out]
          have hB2 := hB.trans (hb2.mono hB.size)
          go_wp2_with fail
          refine (reversed37 A' c' (cornersTo ps ps.length) _ (HS'.out.1.later hb2) (by omega)).mono ?_
          rintro e w3 ⟨v3, rfl, ho3, hb3⟩
          have hB3 := hB2.trans (hb3.mono hB2.size)
          obtain ⟨A3, c3, rfl, hc3, hs3⟩ := ho3.sp
          have hcn : corn ps = (cornersTo ps ps.length).reverse := by unfold corn; rw [if_pos HA.out]
          have hne3 : corn ps ≠ [] := by
            intro h; rw [hcn] at h
            have := H3.out
            have := congrArg List.length h
            rw [List.length_reverse, List.length_nil] at this; omega
          rw [← hcn] at hs3 hc3
          have hlc : (corn ps).length ≤ 40 := by rw [hcn, List.length_reverse]; omega
          have e3 : (cornersTo ps ps.length).reverse.length = (corn ps).length := by rw [hcn]
          rw [e3]
          clear hcn e3
          go_wp2_with fail
          refine (least78 A3 _ c3 (corn ps) _ rfl hs3 (by omega) hc3 hne3).mono ?_
          rintro e w5 ⟨v5, rfl, ho5, hb5⟩
          have hB5 := hB3.trans (hb5.mono hB3.size)
          obtain ⟨A5, c5, rfl, h51, h52⟩ := ho5.sp
          go_wp2
          go_ret2
          refine ⟨A5, c5, ?_, ?_, ?_, hB5⟩
          · rw [normZ_pos H0.out, H0.out]; rfl
          · rw [normZ_pos H0.out]; exact h51
          · rw [normZ_pos H0.out]; exact h52
        · have dA := decide_eq_false ha
          have HA := Lib.hid ha
          clear ha
          go_wp2_with fail
          refine (twice77 A' _ c' (cornersTo ps ps.length) _ rfl HS'.out.1 (by omega) HDC.out).mono ?_
          rintro e w3 ⟨rfl, hb2⟩
          rw [HAR.out]
          have hB3 := hB.trans (hb2.mono hB.size)
          have hcn : corn ps = cornersTo ps ps.length := by unfold corn; rw [if_neg (by have := HA.out; omega)]
          have hne3 : cornersTo ps ps.length ≠ [] := by
            intro h
            have := H3.out
            rw [h] at this; simp at this
          have HCN := Lib.hid hcn
          clear hcn
          go_wp2_with fail
          refine (least78 A' _ c' (cornersTo ps ps.length) _ rfl (HS'.out.1.later hb2) (by omega) HS'.out.2 hne3).mono ?_
          rintro e w5 ⟨v5, rfl, ho5, hb5⟩
          have hB5 := hB3.trans (hb5.mono hB3.size)
          obtain ⟨A5, c5, rfl, h51, h52⟩ := ho5.sp
          go_wp2
          go_ret2
          refine ⟨A5, c5, ?_, ?_, ?_, hB5⟩
          · rw [normZ_pos H0.out, H0.out]; unfold normR; rw [HCN.out]; rfl
          · rw [normZ_pos H0.out]; unfold normR; rw [HCN.out]; exact h51
          · rw [normZ_pos H0.out]; unfold normR; rw [HCN.out]; exact h52

set_option maxRecDepth 100000 in
set_option maxHeartbeats 1000000 in
/-- garmentlaw11.PolygonNormals -/
theorem lawNormals (A : Option Addr) (c : Nat) (ps : List Z2) (w : World) (hsp : Sp w A ps) (hcap : ps.length ≤ c) :
    Calls Try.prog 3 #[.slice A ps.length c] w fun e w' => e = .returned (.bool true) ∧ Below w.heap.size w w' := by
  have HS := Lib.hid hsp; clear hsp
  by_cases hf : ps.length ≤ 50
  · have dF := decide_eq_true hf
    go_enter Try.func3, Try.ntmps3
    go_wp2_with fail
    refine (few30 _ _ _ _).mono ?_
    rintro e w1 ⟨rfl, rfl⟩
    rw [dF]
    clear dF
    go_wp2_with fail
    refine (normal32 A c ps _ HS.out hcap).mono ?_
    rintro e w2 ⟨A1, c1, rfl, hc1, hs1, hb⟩
    have H2 := Lib.hid (And.intro hb hs1)
    clear hb hs1
    go_wp2_with fail
    refine (normal33 A _ c ps _ rfl (HS.out.later H2.out.1)).mono ?_
    rintro e w3 ⟨A2, c2, rfl, hc2, hs2, hb⟩
    have H3 := Lib.hid (And.intro (below_trans H2.out.1 hb) (And.intro (H2.out.2.later hb) hs2))
    clear hb hs2 H2
    have hln : (normZ ps).length ≤ 1000000000 := by
      have h1 : (cornersTo ps ps.length).length ≤ ps.length := cornersTo_length _ _
      unfold normZ
      split
      · unfold normR rotZ
        rw [List.length_append, List.length_drop, List.length_take]
        have : (corn ps).length ≤ ps.length := corn_length ps
        omega
      · simp
    go_wp2_with fail
    refine (same34 A1 A2 _ _ c1 c2 (normZ ps) (normZ ps) _ rfl rfl H3.out.2.1 H3.out.2.2 hln).mono ?_
    rintro e w4 ⟨rfl, hb⟩
    rw [decide_eq_true (show normZ ps = normZ ps from rfl)]
    have H4 := Lib.hid (below_trans H3.out.1 hb)
    clear hb H3
    go_wp2_with fail
    refine (awake31 _).mono ?_
    rintro e w8 ⟨rfl, hb⟩
    have H8 := Lib.hid (below_trans H4.out hb)
    clear hb H4
    go_wp2
    go_ret
    exact ⟨rfl, H8.out⟩
  · have dF := decide_eq_false hf
    go_enter Try.func3, Try.ntmps3
    go_wp2_with fail
    refine (few30 _ _ _ _).mono ?_
    rintro e w1 ⟨rfl, rfl⟩
    rw [dF]
    go_wp2_with fail
    refine (awake31 _).mono ?_
    rintro e w8 ⟨rfl, hb⟩
    go_wp2
    go_ret
    exact ⟨rfl, hb⟩
end Go.Proofs.Ytfgeengdmbabhaa
