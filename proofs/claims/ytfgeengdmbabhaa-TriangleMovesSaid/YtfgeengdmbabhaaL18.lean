import Derived.Test.YtfgeengdmbabhaaL16
import Derived.Test.YtfgeengdmbabhaaPi
import Derived.Test.YtfgeengdmbabhaaOp
import Derived.Test.YtfgeengdmbabhaaWm
namespace Go.Proofs.Ytfgeengdmbabhaa
open Go.RowKit
attribute [local go_sem ↓] Go.wp_at_zero Go.wp_at_succ

/-! the triangles of a moved polygon -/
theorem wrap_back {x d : Int} (h1 : -1048576 ≤ x ∧ x ≤ 1048576) (h2 : -9223372036854775808 ≤ d ∧ d ≤ 9223372036854775807) (h : -1048576 ≤ wrap64 (x + d) ∧ wrap64 (x + d) ≤ 1048576) : wrap64 (x + d) = x + d := by
  unfold wrap64 at *
  omega
theorem moveZ_eq {ps : List Z2} {d : Z2} (h : chkZ ps = 0) (hd : In64 d) (h2 : chkZ (moveZ ps d) = 0) : ∀ p ∈ ps, addZ p d = shZ d p := fun p hp => by
  have a := in_of_chk h p hp
  have b := in_of_chk h2 (addZ p d) (List.mem_map_of_mem (f := (addZ · d)) hp)
  unfold In64 at hd
  unfold addZ at b
  unfold addZ shZ
  simp only at b
  rw [wrap_back (by omega) (by omega) (by omega), wrap_back (by omega) (by omega) (by omega)]
theorem split_moved {ps : List Z2} {d : Z2} (h : chkZ ps = 0) (hd : In64 d) (h2 : chkZ (moveZ ps d) = 0) : splitZ (moveZ ps d) = (splitZ ps).map (moveZ · d) := by
  have e := moveZ_eq h hd h2
  have e1 : moveZ ps d = ps.map (shZ d) := List.map_congr_left e
  rw [e1] at h2 ⊢
  rw [split_sh h h2]
  refine List.map_congr_left fun t ht => ?_
  obtain ⟨ts, h1, _, hc⟩ := split_ok h
  rw [h1] at ht
  obtain ⟨t', ht', rfl⟩ := List.mem_map.1 ht
  obtain ⟨f1, f2, f3, f4, f5, f6, f7⟩ := tri_facts h hc ht'
  have n := norm_norm h
  unfold moveZ
  refine (List.map_congr_left fun p hp => e p ?_).symm
  simp only [toL, List.mem_cons, List.not_mem_nil, or_false] at hp
  rcases hp with rfl | rfl | rfl
  · exact n.mem _ f2
  · exact n.mem _ f3
  · exact n.mem _ f4

theorem move52' (A : Option Addr) (n c : Nat) (ps : List Z2) (d : Z2) (w : World) (hl : ps.length = n) (hsp : Sp w A ps) (hn : n ≤ 1000000000) :
    Calls Try.prog 52 #[.slice A n c, sv d] w (RetSl (moveZ ps d) w) := by subst hl; exact move52 A c ps d w hsp hn
set_option maxRecDepth 100000 in
set_option maxHeartbeats 4000000 in
/-- garmentlaw13.TriangleMoves -/
theorem lawTMoves (A : Option Addr) (c : Nat) (ps : List Z2) (d : Z2) (w : World) (hsp : Sp w A ps) (hcap : ps.length ≤ c) (hd64 : In64 d) :
    Calls Try.prog 18 #[.slice A ps.length c, sv d] w fun e w' => e = .returned (.bool true) ∧ Below w.heap.size w w' := by
  have HS := Lib.hid hsp; clear hsp
  have HD := Lib.hid hd64; clear hd64
  go_enter Try.func18, Try.ntmps18
  go_upto_region 1 with fail
  have F := boxes1 w d
  revert F
  generalize w.alloc (.cells #[iv d.x, iv d.y] 30) = W
  rintro ⟨hW, f1, f2⟩
  by_cases hm : 60 < ps.length
  case pos =>
    have dF := decide_eq_true hm
    go_wp2_with fail
    refine (many56 _ _ _ _).mono ?_
    rintro e w1 ⟨rfl, rfl⟩
    rw [dF]
    go_wp2_with fail
    refine (alive57 _).mono ?_
    rintro e w8 ⟨rfl, hb⟩
    go_wp2
    go_ret
    exact ⟨rfl, below_trans hW hb⟩
  case neg =>
  have dF := decide_eq_false hm
  go_wp2_with fail
  refine (many56 _ _ _ _).mono ?_
  rintro e w1 ⟨rfl, rfl⟩
  rw [dF]
  clear dF
  have HL := Lib.hid (show (moveZ ps d).length = ps.length by simp [moveZ])
  go_wp2_with fail
  refine (move52 A c ps d _ (HS.out.later hW) (by omega)).mono ?_
  rintro e w4 ⟨A', c', rfl, hc', hs', hb⟩
  replace hW := below_trans hW hb; replace f1 := cell_later hb f1; replace f2 := cell_later hb f2
  have HS' := Lib.hid (And.intro hs' hc')
  clear hb hs' hc'
  go_wp2_with fail
  refine (check38 A c ps _ (HS.out.later hW) hcap).mono ?_
  rintro e w3 ⟨rfl, hb⟩
  replace hW := below_trans hW hb; replace f1 := cell_later hb f1; replace f2 := cell_later hb f2
  replace HS' := Lib.hid (And.intro (HS'.out.1.later hb) HS'.out.2)
  clear hb
  by_cases h0 : chkZ ps = 0
  case neg =>
    have hd : (chkZ ps != 0) = true := by simpa using h0
    clear h0
    go_wp2_with fail
    refine (alive57 _).mono ?_
    rintro e w8 ⟨rfl, hb⟩
    go_wp2
    go_ret
    exact ⟨rfl, below_trans hW hb⟩
  case pos =>
  have H0 := Lib.hid h0
  rw [h0]
  clear h0
  go_wp2_with fail
  refine (check38 A' c' (moveZ ps d) _ HS'.out.1 HS'.out.2).mono ?_
  rintro e w5 ⟨rfl, hb⟩
  replace hW := below_trans hW hb; replace f1 := cell_later hb f1; replace f2 := cell_later hb f2
  replace HS' := Lib.hid (And.intro (HS'.out.1.later hb) HS'.out.2)
  clear hb
  by_cases h1 : chkZ (moveZ ps d) = 0
  case neg =>
    have hd : (chkZ (moveZ ps d) != 0) = true := by simpa using h1
    clear h1
    go_wp2_with fail
    refine (alive57 _).mono ?_
    rintro e w8 ⟨rfl, hb⟩
    go_wp2
    go_ret
    exact ⟨rfl, below_trans hW hb⟩
  case pos =>
  have H1 := Lib.hid h1
  rw [h1]
  clear h1
  go_wp2_with fail
  refine (split58' A _ c ps _ rfl (HS.out.later hW) hcap).mono ?_
  rintro e w6 ⟨A2, c2, rfl, hc2, hs2, hb⟩
  rw [splitE_eq, H0.out]
  replace hW := below_trans hW hb; replace f1 := cell_later hb f1; replace f2 := cell_later hb f2
  replace HS' := Lib.hid (And.intro (HS'.out.1.later hb) HS'.out.2)
  have H2 := Lib.hid hs2
  clear hb hs2
  go_wp2_with fail
  refine (split58' A' _ c' (moveZ ps d) _ rfl HS'.out.1 HS'.out.2).mono ?_
  rintro e w7 ⟨A3, c3, rfl, hc3, hs3, hb⟩
  rw [splitE_eq, H1.out]
  replace hW := below_trans hW hb; replace f1 := cell_later hb f1; replace f2 := cell_later hb f2
  replace H2 := Lib.hid (H2.out.later hb)
  have H3 := Lib.hid hs3
  clear hb hs3
  have HM := Lib.hid (split_moved H0.out HD.out H1.out)
  have HNE := Lib.hid (split_some H0.out)
  have HAL := Lib.hid (fun t (ht : t ∈ splitZ ps) => show t.length = 3 by
    obtain ⟨ts, h1, _, hc⟩ := split_ok H0.out
    rw [h1] at ht
    obtain ⟨t', _, rfl⟩ := List.mem_map.1 ht
    rfl)
  have hrl := split_len ps
  rw [HM.out] at hc3 H3 ⊢
  clear HM H0 H1 HS'
  generalize splitZ ps = rs at *
  have hml : (rs.map (moveZ · d)).length = rs.length := by simp
  rw [hml] at hc3 ⊢
  have HML := Lib.hid hml
  clear hml
  go_wp2_with fail
  go_loopw [10] (fun v wr => ∃ i : Nat, i ≤ rs.length ∧ v = .int .i64 i ∧ Below w7.heap.size w7 wr) (fun v _ => rs.length - (intOf v).toNat)
  case atStart => exact ⟨0, Nat.zero_le _, rfl, Below.refl _ _⟩
  case round =>
    obtain ⟨i, hi, rfl, hB⟩ := hrel
    by_cases hlt : i < rs.length
    · replace f1 := cell_later hB f1; replace f2 := cell_later hB f2
      obtain ⟨b2, off2, rfl, hc4⟩ := (H2.out.later hB) HNE.out
      obtain ⟨A4, c4, r1, r2, r3⟩ := hc4 i hlt
      obtain ⟨b3, off3, rfl, hc5⟩ := (H3.out.later hB) (by simpa using HNE.out)
      obtain ⟨A5, c5, s1, s2, s3⟩ := hc5 i (by rw [HML.out]; exact hlt)
      have em : (rs.map (moveZ · d)).getD i [] = moveZ (rs.getD i []) d := by
        rw [List.getD_eq_getElem?_getD, List.getD_eq_getElem?_getD, List.getElem?_map, List.getElem?_eq_getElem hlt]; rfl
      rw [em] at s1 s2 s3
      have h3 := HAL.out _ (getD_mem (d := []) hlt)
      clear hc4 hc5 em
      generalize rs.getD i [] = t at *
      have h3' : (moveZ t d).length = 3 := by simp [moveZ, h3]
      rw [h3] at r1 r2
      rw [h3'] at s1 s2
      have HT := Lib.hid r3
      have HU := Lib.hid s3
      clear r3 s3
      have i1 : (0 : Int) ≤ (i : Int) := by omega
      have i2 : (i : Int) < (rs.length : Int) := by omega
      go_wp2_with fail
      go_region_held3 (fun w' => Below wr.heap.size wr w' ∧ w'.cell? ⟨w.heap.size, 0, none⟩ = some (iv d.x) ∧ w'.cell? ⟨w.heap.size, 1, none⟩ = some (iv d.y) ∧ w'.cell? ⟨b2, off2 + i, none⟩ = some (.slice A4 3 c4) ∧ w'.cell? ⟨b3, off3 + i, none⟩ = some (.slice A5 3 c5) ∧ True)
        (first | exact ⟨below_drew wr, f1, f2, r1, s1, trivial⟩ | assumption | (go_split_ands; refine ⟨below_trans (by assumption) hbq, ?_, ?_, ?_, ?_, trivial⟩ <;> exact cell_later hbq (by assumption)))
        (first
          | (go_at_call 52; refine (move52' A4 3 c4 t d _ h3 (by first | exact Sp.drew HT.out | exact HT.out.later (by assumption)) (by omega)).mono ?_; rintro e w' ⟨A6, c6, rfl, hc6, hs6, hbq⟩)
          | (go_at_call 34; go_split_ands; refine (same34 A6 A5 3 3 c6 c5 (moveZ t d) (moveZ t d) _ h3' h3' hs6 (HU.out.later (by assumption)) (by omega)).mono ?_; rintro e w' ⟨rfl, hbq⟩))
      go_split_ands
      rename_i hbr _ _ _ _ _
      have hB4 := hB.trans (hbr.mono hB.size)
      go_wp2_with fail
      go_roundw
      case rel => exact ⟨i + 1, by omega, by go_num, hB4⟩
      case measure => simp [intOf]; omega
    · go_wp2_with fail
      refine (alive57 _).mono ?_
      rintro e w8 ⟨rfl, hb⟩
      go_wp2
      go_ret
      exact ⟨rfl, below_trans (below_trans hW hB) hb⟩
end Go.Proofs.Ytfgeengdmbabhaa
