import Derived.Test.YtfgeengdmbabhaaTe
import Derived.Test.YtfgeengdmbabhaaPh
namespace Go.Proofs.Ytfgeengdmbabhaa
open Go.RowKit
attribute [local go_sem ↓] Go.wp_at_zero Go.wp_at_succ

theorem getD_mem {α : Type} {l : List α} {k : Nat} {d : α} (h : k < l.length) : l.getD k d ∈ l := by
  rw [List.getD_eq_getElem?_getD, List.getElem?_eq_getElem h]; exact List.getElem_mem h

set_option maxRecDepth 100000 in
set_option maxHeartbeats 4000000 in
/-- garmentlaw13.TriangleApart -/
theorem lawApart (A : Option Addr) (c : Nat) (ps : List Z2) (w : World) (hsp : Sp w A ps) (hcap : ps.length ≤ c) :
    Calls Try.prog 16 #[.slice A ps.length c] w fun e w' => e = .returned (.bool true) ∧ Below w.heap.size w w' := by
  have HS := Lib.hid hsp; clear hsp
  by_cases hm : 60 < ps.length
  case pos =>
    have dF := decide_eq_true hm
    go_enter Try.func16, Try.ntmps16
    go_wp2_with fail
    refine (many56 _ _ _ _).mono ?_
    rintro e w1 ⟨rfl, rfl⟩
    rw [dF]
    go_wp2_with fail
    refine (alive57 _).mono ?_
    rintro e w8 ⟨rfl, hb⟩
    go_wp2
    go_ret
    exact ⟨rfl, hb⟩
  case neg =>
  have dF := decide_eq_false hm
  go_enter Try.func16, Try.ntmps16
  go_wp2_with fail
  refine (many56 _ _ _ _).mono ?_
  rintro e w1 ⟨rfl, rfl⟩
  rw [dF]
  clear dF
  go_wp2_with fail
  refine (split58' A _ c ps _ rfl HS.out hcap).mono ?_
  rintro e w2 ⟨A2, c2, rfl, hc2, hs2, hb2⟩
  rw [splitE_eq]
  by_cases h0 : chkZ ps = 0
  case neg =>
    have hd : (chkZ ps != 0) = true := by simpa using h0
    clear h0 hs2 hc2
    go_wp2_with fail
    refine (check38 A c ps _ (HS.out.later hb2) hcap).mono ?_
    rintro e w3 ⟨rfl, hb3⟩
    go_wp2_with fail
    refine (alive57 _).mono ?_
    rintro e w8 ⟨rfl, hb⟩
    go_wp2
    go_ret
    exact ⟨rfl, below_trans (below_trans hb2 hb3) hb⟩
  case pos =>
  have HAP := Lib.hid (fun t (ht : t ∈ splitZ ps) k (hk : k < ps.length) => apart_law ht hk)
  have HNE := Lib.hid (split_some h0)
  have hrl := split_len ps
  rw [h0]
  clear h0
  have H2 := Lib.hid hs2
  have HW := Lib.hid hb2
  clear hs2 hb2
  have hpos : 0 < (splitZ ps).length := by
    cases h : splitZ ps with
    | nil => exact absurd h HNE.out
    | cons => simp
  generalize splitZ ps = rs at *
  go_wp2_with fail
  go_loopw [5] (fun v wr => ∃ i : Nat, i ≤ rs.length ∧ v = .int .i64 i ∧ Below w2.heap.size w2 wr) (fun v _ => rs.length - (intOf v).toNat)
  case atStart => exact ⟨0, Nat.zero_le _, rfl, Below.refl _ _⟩
  case round =>
    obtain ⟨i, hi, rfl, hB⟩ := hrel
    by_cases hlt : i < rs.length
    · go_wp2_with fail
      go_loopw [6] (fun v wr2 => ∃ k : Nat, k ≤ ps.length ∧ v = .int .i64 k ∧ Below w2.heap.size w2 wr2) (fun v _ => ps.length - (intOf v).toNat)
      case atStart => exact ⟨0, Nat.zero_le _, rfl, hB⟩
      case round =>
        clear hB
        rename_i wr2 _ _ _
        obtain ⟨k, hk, rfl, hB⟩ := hrel
        by_cases hkl : k < ps.length
        · have hne : ps ≠ [] := by intro h; simp [h] at hkl
          obtain ⟨b, off, rfl, hc⟩ := (HS.out.later (below_trans HW.out hB)) hne
          obtain ⟨g1, g2⟩ := hc k hkl
          obtain ⟨b2, off2, rfl, hc3⟩ := (H2.out.later hB) HNE.out
          obtain ⟨A', c', r1, r2, r3⟩ := hc3 i hlt
          have HT := Lib.hid (And.intro r3 (HAP.out _ (getD_mem (d := []) hlt) k hkl))
          clear hc hc3 r2 r3
          generalize rs.getD i [] = t at *
          have i1 : (0 : Int) ≤ (i : Int) := by omega
          have i2 : (i : Int) < (rs.length : Int) := by omega
          have i3 : (0 : Int) ≤ (k : Int) := by omega
          have i4 : (k : Int) < (ps.length : Int) := by omega
          go_wp2_with fail
          go_region_held3 (fun w' => Below wr.heap.size wr w' ∧ w'.cell? ⟨b, off + k * 2, none⟩ = some (iv (pt ps k).x) ∧ w'.cell? ⟨b, off + k * 2 + 1, none⟩ = some (iv (pt ps k).y) ∧ w'.cell? ⟨b2, off2 + i, none⟩ = some (.slice A' t.length c'))
            (first | exact ⟨below_drew wr, g1, g2, r1⟩ | assumption | (go_split_ands; refine ⟨below_trans (by assumption) hbq, ?_, ?_, ?_⟩ <;> exact cell_later hbq (by assumption)))
            (first | (go_at_call 60; refine (holds60 A' _ c' t (pt ps k) _ rfl (Sp.drew HT.out.1)).mono ?_; rintro e w' ⟨rfl, hbq⟩))
          go_split_ands
          rename_i hbr _ _ _
          have hB4 := hB.trans (hbr.mono hB.size)
          have hd : (holdsZ t (pt ps k) == 1) = false := by simpa using HT.out.2
          go_wp2_with fail
          go_roundw
          case rel => exact ⟨k + 1, by omega, by go_num, hB4⟩
          case measure => simp [intOf]; omega
        · go_wp2_with fail
          go_roundw
          case rel => exact ⟨i + 1, by omega, by go_num, hB⟩
          case measure => simp [intOf]; omega
    · have hd : (0 : Int) < (rs.length : Int) := by omega
      go_wp2_with fail
      refine (alive57 _).mono ?_
      rintro e w8 ⟨rfl, hb⟩
      go_wp2
      go_ret
      exact ⟨rfl, below_trans (below_trans HW.out hB) hb⟩
end Go.Proofs.Ytfgeengdmbabhaa
