import Derived.Test.YtfgeengdmbabhaaWn
namespace Go.Proofs.Ytfgeengdmbabhaa
open Go.RowKit
attribute [local go_sem ↓] Go.wp_at_zero Go.wp_at_succ

theorem where35' (A : Option Addr) (n c : Nat) (ps : List Z2) (q : Z2) (w : World) (hl : ps.length = n) (hsp : Sp w A ps) (hcap : n ≤ c) :
    Calls Try.prog 35 #[.slice A n c, sv q] w fun e w' => e = .returned (.tuple #[iv (whereZ ps q), iv (chkZ ps)]) ∧ Below w.heap.size w w' := by subst hl; exact where35 A c ps q w hsp hcap
theorem check38' (A : Option Addr) (n c : Nat) (ps : List Z2) (w : World) (hl : ps.length = n) (hsp : Sp w A ps) (hcap : n ≤ c) :
    Calls Try.prog 38 #[.slice A n c] w fun e w' => e = .returned (iv (chkZ ps)) ∧ Below w.heap.size w w' := by subst hl; exact check38 A c ps w hsp hcap
theorem area2_39' (A : Option Addr) (n c : Nat) (ps : List Z2) (w : World) (hl : ps.length = n) (hsp : Sp w A ps) (hcap : n ≤ c) :
    Calls Try.prog 39 #[.slice A n c] w fun e w' => e = .returned (iv (aZ ps)) ∧ Below w.heap.size w w' := by subst hl; exact area2_39 A c ps w hsp hcap
theorem box42' (A : Option Addr) (n c : Nat) (ps : List Z2) (w : World) (hl : ps.length = n) (hsp : Sp w A ps) (hcap : n ≤ c) :
    Calls Try.prog 42 #[.slice A n c] w fun e w' => e = .returned (.tuple #[rv (boxZ ps), iv (chkZ ps)]) ∧ Below w.heap.size w w' := by subst hl; exact box42 A c ps w hsp hcap
theorem normal32' (A : Option Addr) (n c : Nat) (ps : List Z2) (w : World) (hl : ps.length = n) (hsp : Sp w A ps) (hcap : n ≤ c) :
    Calls Try.prog 32 #[.slice A n c] w (RetSl2 (normZ ps) (chkZ ps) w) := by subst hl; exact normal32 A c ps w hsp hcap

theorem aZ_bd (ps : List Z2) : -9000000000000000000 ≤ aZ ps ∧ aZ ps ≤ 9000000000000000000 := by
  by_cases h : chkZ ps = 0
  · rw [aZ_pos h]
    obtain ⟨h1, _, h2, _⟩ := chkZ_zero h
    have := areaTo_bd h2 ps.length
    unfold areaZ
    omega
  · rw [aZ_neg h]; omega

/-- the last j elements, backwards -/
theorem rev_step (ps : List Z2) (j : Nat) (hj : j < ps.length) : (ps.drop (j + 1)).reverse ++ [pt ps j] = (ps.drop j).reverse := by
  rw [List.drop_eq_getElem_cons hj, List.reverse_cons, pt_eq hj]

set_option maxHeartbeats 1000000 in
/-- garmentref11.Reversed -/
theorem reversed37 (A : Option Addr) (c : Nat) (ps : List Z2) (w : World) (hsp : Sp w A ps) (hn : ps.length ≤ 100000) :
    Calls Try.prog 37 #[.slice A ps.length c] w (RetOwn w.heap.size ps.reverse w) := by
  have HS := Lib.hid hsp; clear hsp
  go_enter Try.func37, Try.ntmps37
  go_wp2
  go_loopw [3, 4] (fun v i wr => ∃ k : Nat, k ≤ ps.length ∧ i = iv ((k : Int) - 1) ∧ Own wr w.heap.size v (ps.drop k).reverse ∧ Below w.heap.size w wr) (fun _ i _ => (intOf i + 1).toNat)
  case atStart => exact ⟨ps.length, Nat.le_refl _, rfl, by simp; exact Own.nil _ _, Below.refl _ _⟩
  case round =>
    obtain ⟨k, hk, rfl, ho, hB⟩ := hrel
    have HO := Lib.hid ho
    clear ho
    cases k with
    | zero =>
      go_wp2
      go_ret
      exact ⟨_, rfl, by simpa using HO.out, hB⟩
    | succ j =>
      have ej : ((j + 1 : Nat) : Int) - 1 = (j : Int) := by omega
      rw [ej]
      have hlt : j < ps.length := by omega
      have hne : ps ≠ [] := by intro h; simp [h] at hlt
      obtain ⟨b, off, rfl, hc⟩ := HS.out.later hB hne
      obtain ⟨g1, g2⟩ := hc j hlt
      have nb : b < wr.heap.size := World.block_lt_of_cell? _ _ g1
      have hsq : Sp (wr.alloc (.cells #[iv (pt ps j).x, iv (pt ps j).y] 30)) (some ⟨wr.heap.size, 0, none⟩) [pt ps j] := Blk.sp (Blk.new wr 30 #[iv (pt ps j).x, iv (pt ps j).y])
      obtain ⟨v', w', hr, o', hg, hat⟩ := run_append_sp (wr.alloc (.cells #[iv (pt ps j).x, iv (pt ps j).y] 30)) w.heap.size _ _ _ 1 1 [pt ps j] (HO.out.later (below_alloc _ _)) hsq rfl (by simp; omega) (Nat.le_trans hB.size (by simp))
      have HH := Lib.hid hr
      have hB4 := hB.trans ((below_alloc wr (.cells #[iv (pt ps j).x, iv (pt ps j).y] 30)).mono hB.size)
      rw [rev_step ps j hlt] at o'
      have HO4 := Lib.hid (And.intro o' (below_grown hB4 hg (fun k hk => (HO.out.lt k hk).1)))
      clear hr o' hg hat hsq hc ej
      go_wp2_with (at_builtin; refine Lib.wpList_append_run _ (by rfl) _ _ _ _ (by rfl) _ _ (by rfl) (by rfl) _ _ HH.out ?_)
      go_roundw
      case rel => exact ⟨j, by omega, rfl, HO4.out.1, HO4.out.2⟩
      case measure => simp [intOf]

set_option maxRecDepth 100000 in
set_option maxHeartbeats 1000000 in
/-- garmentlaw11.PolygonReverse, out of the plain laws -/
theorem lawReverse (A : Option Addr) (c : Nat) (ps : List Z2) (q : Z2) (w : World) (hsp : Sp w A ps) (hcap : ps.length ≤ c)
    (p1 : chkZ ps.reverse = chkZ ps) (p2 : aZ ps.reverse = - aZ ps) (p3 : whereZ ps.reverse q = whereZ ps q) :
    Calls Try.prog 10 #[.slice A ps.length c, sv q] w fun e w' => e = .returned (.bool true) ∧ Below w.heap.size w w' := by
  have HS := Lib.hid hsp; clear hsp
  have P1 := Lib.hid p1; have P2 := Lib.hid p2; have P3 := Lib.hid p3
  clear p1 p2 p3
  have hbd := aZ_bd ps
  by_cases hf : ps.length ≤ 50
  · have dF := decide_eq_true hf
    go_enter Try.func10, Try.ntmps10
    go_wp2_with fail
    refine (few30 _ _ _ _).mono ?_
    rintro e w1 ⟨rfl, rfl⟩
    have F := boxes1 w q
    revert F
    generalize w.alloc (.cells #[iv q.x, iv q.y] 30) = W
    rintro ⟨hW, f1, f2⟩
    rw [dF]
    clear dF
    go_wp2_with fail
    refine (reversed37 A c ps _ (HS.out.later hW) (by omega)).mono ?_
    rintro e w1 ⟨v, rfl, ho, hb⟩
    obtain ⟨A', c', rfl, hc', hs'⟩ := ho.sp
    replace f1 := cell_later hb f1; replace f2 := cell_later hb f2
    have H1 := Lib.hid (And.intro (below_trans hW hb) hs')
    clear ho hs' hb hW
    go_wp2_with fail
    refine (where35 A c ps q _ (HS.out.later H1.out.1) hcap).mono ?_
    rintro e w2 ⟨rfl, hb⟩
    replace f1 := cell_later hb f1; replace f2 := cell_later hb f2
    have H2 := Lib.hid (And.intro (below_trans H1.out.1 hb) (H1.out.2.later hb))
    clear hb H1
    go_wp2_with fail
    refine (where35' A' _ c' ps.reverse q _ (by simp) H2.out.2 (by simpa using hc')).mono ?_
    rintro e w3 ⟨rfl, hb⟩
    have H3 := Lib.hid (And.intro (below_trans H2.out.1 hb) (H2.out.2.later hb))
    clear hb H2 f1 f2
    rw [P1.out, P3.out]
    go_wp2_with fail
    refine (check38' A' _ c' ps.reverse _ (by simp) H3.out.2 (by simpa using hc')).mono ?_
    rintro e w4 ⟨rfl, hb⟩
    have H4 := Lib.hid (And.intro (below_trans H3.out.1 hb) (H3.out.2.later hb))
    clear hb H3
    rw [P1.out]
    go_wp2_with fail
    refine (check38 A c ps _ (HS.out.later H4.out.1) hcap).mono ?_
    rintro e w5 ⟨rfl, hb⟩
    have H5 := Lib.hid (And.intro (below_trans H4.out.1 hb) (H4.out.2.later hb))
    clear hb H4
    go_wp2_with fail
    refine (area2_39' A' _ c' ps.reverse _ (by simp) H5.out.2 (by simpa using hc')).mono ?_
    rintro e w6 ⟨rfl, hb⟩
    have H6 := Lib.hid (below_trans H5.out.1 hb)
    clear hb H5
    rw [P2.out]
    go_wp2_with fail
    refine (area2_39 A c ps _ (HS.out.later H6.out) hcap).mono ?_
    rintro e w7 ⟨rfl, hb⟩
    have H7 := Lib.hid (below_trans H6.out hb)
    clear hb H6
    go_wp2_with fail
    refine (awake31 _).mono ?_
    rintro e w8 ⟨rfl, hb⟩
    have H8 := Lib.hid (below_trans H7.out hb)
    clear hb H7
    go_wp2
    go_ret
    exact ⟨rfl, H8.out⟩
  · have dF := decide_eq_false hf
    go_enter Try.func10, Try.ntmps10
    go_wp2_with fail
    refine (few30 _ _ _ _).mono ?_
    rintro e w1 ⟨rfl, rfl⟩
    rw [dF]
    go_wp2_with fail
    refine (awake31 _).mono ?_
    rintro e w8 ⟨rfl, hb⟩
    go_wp2
    go_ret
    exact ⟨rfl, below_trans (below_alloc _ _) hb⟩
end Go.Proofs.Ytfgeengdmbabhaa
