import Derived.Test.YtfgeengdmbabhaaWi
namespace Go.Proofs.Ytfgeengdmbabhaa
open Go.RowKit
attribute [local go_sem ↓] Go.wp_at_zero Go.wp_at_succ

theorem below_grown {w wr w' : World} {row : Option Nat} (h : Below w.heap.size w wr) (hg : wr.grownBy w' row) (hr : ∀ k, row = some k → w.heap.size ≤ k) : Below w.heap.size w w' := h.grown hg h.size hr

set_option maxHeartbeats 1000000 in
/-- slices.Concat of two slices -/
theorem concat76 (g c n1 n2 c1 c2 : Nat) (A1 A2 : Option Addr) (l1 l2 : List Z2) (w : World) (h1 : w.cell? ⟨g, 0, none⟩ = some (.slice A1 n1 c1)) (h2 : w.cell? ⟨g, 1, none⟩ = some (.slice A2 n2 c2))
    (e1 : l1.length = n1) (e2 : l2.length = n2) (s1 : Sp w A1 l1) (s2 : Sp w A2 l2) (hn1 : n1 ≤ 100000) (hn2 : n2 ≤ 100000) :
    Calls Try.prog 76 #[.slice (some ⟨g, 0, none⟩) 2 c] w (RetOwn w.heap.size (l1 ++ l2) w) := by
  have HS1 := Lib.hid s1; have HS2 := Lib.hid s2
  have E1 := Lib.hid e1; have E2 := Lib.hid e2
  clear s1 s2 e1 e2
  go_enter Try.func76, Try.ntmps76
  go_wp2
  go_loop [3, 11] (fun s i => (i = iv 0 ∧ s = iv 0) ∨ (i = iv 1 ∧ s = iv n1) ∨ (i = iv 2 ∧ s = iv ((n1 : Int) + n2))) (fun _ i => 2 - (intOf i).toNat)
  case atStart => exact .inl ⟨rfl, rfl⟩
  case round =>
    rcases hrel with ⟨rfl, rfl⟩ | ⟨rfl, rfl⟩ | ⟨rfl, rfl⟩
    · go_wp2
      go_round
      case rel => exact .inr (.inl ⟨rfl, rfl⟩)
      case measure => simp [intOf]
    · go_wp2
      go_round
      case rel => exact .inr (.inr ⟨rfl, rfl⟩)
      case measure => simp [intOf]
    · go_wp2_with fail
      have ec : ((n1 : Int) + (n2 : Int)) = ((n1 + n2 : Nat) : Int) := by omega
      rw [ec]
      refine (grow110 (n1 + n2) w.heap.size _ (by omega) (Nat.le_refl _)).mono ?_
      rintro e w1 ⟨v, rfl, hv, hb1⟩
      rw [← ec]
      have HV := Lib.hid hv
      clear hv ec
      go_wp2
      go_loopw [6, 27] (fun u i wr => (i = iv 0 ∧ Own wr w.heap.size u [] ∧ Below w.heap.size w wr) ∨ (i = iv 1 ∧ Own wr w.heap.size u l1 ∧ Below w.heap.size w wr) ∨ (i = iv 2 ∧ Own wr w.heap.size u (l1 ++ l2) ∧ Below w.heap.size w wr)) (fun _ i _ => 2 - (intOf i).toNat)
      case atStart => exact .inl ⟨rfl, HV.out, hb1⟩
      case round =>
        rcases hrel with ⟨rfl, ho, hB⟩ | ⟨rfl, ho, hB⟩ | ⟨rfl, ho, hB⟩
        · have k1 := cell_later hB h1
          have HO := Lib.hid ho
          clear ho h1 h2
          obtain ⟨v', w', hr, o', hg, hat⟩ := run_append_sp wr w.heap.size _ [] A1 n1 c1 l1 HO.out (HS1.out.later hB) E1.out (by have := E1.out; simp; omega) hB.size
          have HH := Lib.hid hr
          have HO2 := Lib.hid (And.intro o' (below_grown hB hg (fun k hk => (HO.out.lt k hk).1)))
          clear hr o' hg hat
          go_wp2_with (at_builtin; refine Lib.wpList_append_run _ (by rfl) _ _ _ _ (by rfl) _ _ (by rfl) (by rfl) _ _ HH.out ?_)
          go_roundw
          case rel => exact .inr (.inl ⟨rfl, by simpa using HO2.out.1, HO2.out.2⟩)
          case measure => simp [intOf]
        · have k2 := cell_later hB h2
          have HO := Lib.hid ho
          clear ho h1 h2
          obtain ⟨v', w', hr, o', hg, hat⟩ := run_append_sp wr w.heap.size _ l1 A2 n2 c2 l2 HO.out (HS2.out.later hB) E2.out (by have := E1.out; have := E2.out; omega) hB.size
          have HH := Lib.hid hr
          have HO2 := Lib.hid (And.intro o' (below_grown hB hg (fun k hk => (HO.out.lt k hk).1)))
          clear hr o' hg hat
          go_wp2_with (at_builtin; refine Lib.wpList_append_run _ (by rfl) _ _ _ _ (by rfl) _ _ (by rfl) (by rfl) _ _ HH.out ?_)
          go_roundw
          case rel => exact .inr (.inr ⟨rfl, HO2.out.1, HO2.out.2⟩)
          case measure => simp [intOf]
        · have HO := Lib.hid ho
          clear ho
          go_wp2
          go_ret
          exact ⟨_, rfl, HO.out, hB⟩
end Go.Proofs.Ytfgeengdmbabhaa
