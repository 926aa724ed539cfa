import Derived.Test.YtfgeengdmbabhaaTh
namespace Go.Proofs.Ytfgeengdmbabhaa
open Go.RowKit
attribute [local go_sem ↓] Go.wp_at_zero Go.wp_at_succ

theorem getD_mem' {α : Type} {l : List α} {i : Nat} {d : α} (h : i < l.length) : l.getD i d ∈ l := by
  have e : l.getD i d = l[i] := by simp [h]
  rw [e]; exact List.getElem_mem h

set_option maxRecDepth 100000 in
set_option maxHeartbeats 4000000 in
/-- garmentlaw13.TriangleSplits -/
theorem lawSplits (A : Option Addr) (c : Nat) (ps : List Z2) (w : World) (hsp : Sp w A ps) (hcap : ps.length ≤ c) :
    Calls Try.prog 14 #[.slice A ps.length c] w fun e w' => e = .returned (.bool true) ∧ Below w.heap.size w w' := by
  have HS := Lib.hid hsp; clear hsp
  go_enter Try.func14, Try.ntmps14
  by_cases hm : 60 < ps.length
  case pos =>
    have dF := decide_eq_true hm
    go_wp2_with fail
    refine (many56 _ _ _ _).mono ?_
    rintro e w1 ⟨rfl, rfl⟩
    rw [dF]
    go_wp2_with fail
    refine (alive57 _).mono ?_
    rintro e w8 ⟨rfl, hb⟩
    go_wp2
    go_ret
    exact ⟨rfl, hb⟩
  case neg =>
  have dF := decide_eq_false hm
  go_wp2_with fail
  refine (many56 _ _ _ _).mono ?_
  rintro e w1 ⟨rfl, rfl⟩
  rw [dF]
  clear dF
  go_wp2_with fail
  refine (split58' A _ c ps _ rfl HS.out hcap).mono ?_
  rintro e w6 ⟨A2, c2, rfl, hc2, hs2, hb⟩
  have hW := hb
  have H2 := Lib.hid hs2
  clear hb hs2
  go_wp2_with fail
  refine (split59 A _ c ps _ rfl (HS.out.later hW)).mono ?_
  rintro e w7 ⟨A3, c3, rfl, hc3, hs3, hb⟩
  replace hW := below_trans hW hb
  replace H2 := Lib.hid (H2.out.later hb)
  have H3 := Lib.hid hs3
  clear hb hs3
  rw [splitE_eq]
  have HAL := Lib.hid (fun t (ht : t ∈ splitZ ps) => show t.length = 3 by
    by_cases h0 : chkZ ps = 0
    · obtain ⟨ts, h1, _, hc⟩ := split_ok h0
      rw [h1] at ht
      obtain ⟨t', _, rfl⟩ := List.mem_map.1 ht
      rfl
    · rw [(split_no h0).1] at ht; simp at ht)
  have hrl := split_len ps
  generalize splitZ ps = rs at *
  generalize chkZ ps = ce at *
  go_wp2_with fail
  go_loopw [7] (fun v wr => ∃ i : Nat, i ≤ rs.length ∧ v = .int .i64 i ∧ Below w7.heap.size w7 wr) (fun v _ => rs.length - (intOf v).toNat)
  case atStart => exact ⟨0, Nat.zero_le _, rfl, Below.refl _ _⟩
  case round =>
    obtain ⟨i, hi, rfl, hB⟩ := hrel
    by_cases hlt : i < rs.length
    · have hne : rs ≠ [] := by intro h; rw [h] at hlt; simp at hlt
      obtain ⟨b2, off2, rfl, hc4⟩ := (H2.out.later hB) hne
      obtain ⟨A4, c4, r1, r2, r3⟩ := hc4 i hlt
      obtain ⟨b3, off3, rfl, hc5⟩ := (H3.out.later hB) hne
      obtain ⟨A5, c5, s1, s2, s3⟩ := hc5 i hlt
      have h3 := HAL.out _ (getD_mem' (d := []) hlt)
      clear hc4 hc5
      generalize rs.getD i [] = t at *
      rw [h3] at r1 r2 s1 s2
      have HT := Lib.hid r3
      have HU := Lib.hid s3
      clear r3 s3
      have i1 : (0 : Int) ≤ (i : Int) := by omega
      have i2 : (i : Int) < (rs.length : Int) := by omega
      go_wp2_with fail
      go_region_held3 (fun w' => Below wr.heap.size wr w' ∧ w'.cell? ⟨b2, off2 + i, none⟩ = some (.slice A4 3 c4) ∧ w'.cell? ⟨b3, off3 + i, none⟩ = some (.slice A5 3 c5))
        (first | exact ⟨below_drew wr, r1, s1⟩ | assumption | (go_split_ands; refine ⟨below_trans (by assumption) hbq, ?_, ?_⟩ <;> exact cell_later hbq (by assumption)))
        (first
          | (go_at_call 34; go_split_ands; refine (same34 A4 A5 3 3 c4 c5 t t _ h3 h3 (HT.out.later (by assumption)) (HU.out.later (by assumption)) (by omega)).mono ?_; rintro e w' ⟨rfl, hbq⟩))
      go_split_ands
      rename_i hbr _ _
      have hB4 := hB.trans (hbr.mono hB.size)
      go_wp2_with fail
      go_roundw
      case rel => exact ⟨i + 1, by omega, by go_num, hB4⟩
      case measure => simp [intOf]; omega
    · go_wp2_with fail
      refine (alive57 _).mono ?_
      rintro e w8 ⟨rfl, hb⟩
      go_wp2
      go_ret
      exact ⟨rfl, below_trans (below_trans hW hB) hb⟩
end Go.Proofs.Ytfgeengdmbabhaa
