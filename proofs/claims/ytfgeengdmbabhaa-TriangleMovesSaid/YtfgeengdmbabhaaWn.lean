import Derived.Test.YtfgeengdmbabhaaWm
namespace Go.Proofs.Ytfgeengdmbabhaa
open Go.RowKit
attribute [local go_sem ↓] Go.wp_at_zero Go.wp_at_succ

theorem eql41 (a b : R4) (w : World) : (binOp .eql 41 (rv a) (rv b)).run Try.prog w = .ok (.bool (decide (a = b))) w := by
  obtain ⟨a1, a2, a3, a4⟩ := a
  obtain ⟨b1, b2, b3, b4⟩ := b
  by_cases h1 : a1 = b1
  · subst h1
    by_cases h2 : a2 = b2
    · subst h2
      by_cases h3 : a3 = b3
      · subst h3
        by_cases h4 : a4 = b4
        · subst h4; go_simp
        · go_simp
      · go_simp
    · go_simp
  · go_simp


theorem normal_long (A : Option Addr) (w : World) (h : Sp w A longZ) : Calls Try.prog 32 #[.slice A 5 5] w (RetSl2 sqZ 0 w) := by
  have := normal32 A 5 longZ w h (by decide)
  rw [ex_norm.1, ex_norm.2] at this
  exact this
theorem where_sq (A : Option Addr) (n : Int) (q : Z2) (w : World) (h : Sp w A sqZ) (hw : whereZ sqZ q = n) : Calls Try.prog 35 #[.slice A 4 4, sv q] w fun e w' => e = .returned (.tuple #[iv n, iv 0]) ∧ Below w.heap.size w w' := by
  have := where35 A 4 sqZ q w h (by decide)
  rw [hw, ex_w1.2.2.1] at this
  exact this
theorem where_el (A : Option Addr) (w : World) (h : Sp w A elZ) : Calls Try.prog 35 #[.slice A 6 6, sv ⟨3, 3⟩] w fun e w' => e = .returned (.tuple #[iv (-1), iv 0]) ∧ Below w.heap.size w w' := by
  have := where35 A 6 elZ ⟨3, 3⟩ w h (by decide)
  rw [ex_w1.2.2.2.1, ex_w1.2.2.2.2] at this
  exact this
theorem box_el (A : Option Addr) (w : World) (h : Sp w A elZ) : Calls Try.prog 42 #[.slice A 6 6] w fun e w' => e = .returned (.tuple #[rv ⟨0, 0, 4, 4⟩, iv 0]) ∧ Below w.heap.size w w' := by
  have := box42 A 6 elZ w h (by decide)
  rw [ex_box.1, ex_w1.2.2.2.2] at this
  exact this
theorem convex_sq (A : Option Addr) (w : World) (h : Sp w A sqZ) : Calls Try.prog 44 #[.slice A 4 4] w fun e w' => e = .returned (.tuple #[.bool true, iv 0]) ∧ Below w.heap.size w w' := by
  have := convex44 A 4 sqZ w h (by decide)
  rw [ex_box.2.1, ex_w1.2.2.1] at this
  exact this
theorem convex_el (A : Option Addr) (w : World) (h : Sp w A elZ) : Calls Try.prog 44 #[.slice A 6 6] w fun e w' => e = .returned (.tuple #[.bool false, iv 0]) ∧ Below w.heap.size w w' := by
  have := convex44 A 6 elZ w h (by decide)
  rw [ex_box.2.2, ex_w1.2.2.2.2] at this
  exact this
theorem area_sq (A : Option Addr) (w : World) (h : Sp w A sqZ) : Calls Try.prog 39 #[.slice A 4 4] w fun e w' => e = .returned (iv 32) ∧ Below w.heap.size w w' := by
  have := area2_39 A 4 sqZ w h (by decide)
  rw [ex_area.1] at this
  exact this
theorem area_long (A : Option Addr) (w : World) (h : Sp w A longZ) : Calls Try.prog 39 #[.slice A 5 5] w fun e w' => e = .returned (iv (-32)) ∧ Below w.heap.size w w' := by
  have := area2_39 A 5 longZ w h (by decide)
  rw [ex_area.2.1] at this
  exact this
theorem area_crossed (A : Option Addr) (w : World) (h : Sp w A crossedZ) : Calls Try.prog 39 #[.slice A 4 4] w fun e w' => e = .returned (iv 0) ∧ Below w.heap.size w w' := by
  have := area2_39 A 4 crossedZ w h (by decide)
  rw [ex_area.2.2.1] at this
  exact this
theorem check_crossed (A : Option Addr) (w : World) (h : Sp w A crossedZ) : Calls Try.prog 38 #[.slice A 4 4] w fun e w' => e = .returned (iv 11) ∧ Below w.heap.size w w' := by
  have := check38 A 4 crossedZ w h (by decide)
  rw [ex_area.2.2.2.1] at this
  exact this
theorem check_sq2 (A : Option Addr) (w : World) (h : Sp w A sqZ) : Calls Try.prog 38 #[.slice A 2 4] w fun e w' => e = .returned (iv 11) ∧ Below w.heap.size w w' := by
  have := check38 A 4 (sqZ.take 2) w (h.take 2) (by decide)
  rw [ex_area.2.2.2.2] at this
  exact this

/-- what the walk of awake keeps -/
structure AW (w W : World) : Prop where
  s : Sp W (some ⟨w.heap.size, 0, none⟩) sqZ
  l : Sp W (some ⟨w.heap.size + 1, 0, none⟩) longZ
  b : Sp W (some ⟨w.heap.size + 1 + 1, 0, none⟩) elZ
  h : Below w.heap.size w W
theorem AW.later {w W W' : World} (a : AW w W) (hb : Below W.heap.size W W') : AW w W' := ⟨a.s.later hb, a.l.later hb, a.b.later hb, a.h.trans (hb.mono a.h.size)⟩
theorem AW.new (w : World) : AW w (((w.alloc (.cells (flat sqZ).toArray 30)).alloc (.cells (flat longZ).toArray 30)).alloc (.cells (flat elZ).toArray 30)) := by
  have h1 := two_new w 30 (flat sqZ).toArray (flat longZ).toArray
  have hs : ((w.alloc (.cells (flat sqZ).toArray 30)).alloc (.cells (flat longZ).toArray 30)).heap.size = w.heap.size + 1 + 1 := by simp
  generalize ((w.alloc (.cells (flat sqZ).toArray 30)).alloc (.cells (flat longZ).toArray 30)) = W at *
  have h2 := Blk.new W 30 (flat elZ).toArray
  have h3 := below_alloc W (.cells (flat elZ).toArray 30)
  rw [hs] at h2
  exact ⟨(h1.1.later h3).sp, (h1.2.1.later h3).sp, h2.sp, below_trans h1.2.2 h3⟩

set_option maxRecDepth 100000 in
set_option maxHeartbeats 4000000 in
/-- garmentlaw11.awake -/
theorem awake31 (w : World) : Calls Try.prog 31 #[] w fun e w' => e = .returned (.bool true) ∧ Below w.heap.size w w' := by
  go_enter Try.func31, Try.ntmps31
  go_wp2_with fail
  have HA := Lib.hid (AW.new w)
  simp only [flat, sqZ, longZ, elZ] at HA
  revert HA
  generalize (((w.alloc (.cells #[iv 0, iv 0, iv 4, iv 0, iv 4, iv 4, iv 0, iv 4] 30)).alloc (.cells #[iv 4, iv 4, iv 4, iv 0, iv 2, iv 0, iv 0, iv 0, iv 0, iv 4] 30)).alloc (.cells #[iv 0, iv 0, iv 4, iv 0, iv 4, iv 2, iv 2, iv 2, iv 2, iv 4, iv 0, iv 4] 30)) = W
  intro HA
  refine (normal_long _ _ HA.out.l).mono ?_
  rintro e w1 ⟨A1, c1, rfl, _, hs1, hb⟩
  have HA1 := Lib.hid (And.intro (HA.out.later hb) hs1)
  clear HA hb hs1
  go_wp2_with fail
  refine (where_sq _ 1 ⟨1, 1⟩ _ HA1.out.1.s ex_w1.1).mono ?_
  rintro e w2 ⟨rfl, hb⟩
  have HA2 := Lib.hid (And.intro (HA1.out.1.later hb) (HA1.out.2.later hb))
  clear HA1 hb
  go_wp2_with fail
  refine (where_sq _ 0 ⟨4, 2⟩ _ HA2.out.1.s ex_w1.2.1).mono ?_
  rintro e w3 ⟨rfl, hb⟩
  have HA3 := Lib.hid (And.intro (HA2.out.1.later hb) (HA2.out.2.later hb))
  clear HA2 hb
  go_wp2_with fail
  refine (where_el _ _ HA3.out.1.b).mono ?_
  rintro e w4 ⟨rfl, hb⟩
  have HA4 := Lib.hid (And.intro (HA3.out.1.later hb) (HA3.out.2.later hb))
  clear HA3 hb
  go_wp2_with fail
  refine (box_el _ _ HA4.out.1.b).mono ?_
  rintro e w5 ⟨rfl, hb⟩
  have HA5 := Lib.hid (And.intro (HA4.out.1.later hb) (HA4.out.2.later hb))
  clear HA4 hb
  go_wp2_with fail
  have hb := below_alloc w5 (.cells #[iv 0, iv 0, iv 4, iv 4] 41)
  have hk := Blk.new w5 41 #[iv 0, iv 0, iv 4, iv 4]
  have HA6 := Lib.hid (And.intro (HA5.out.1.later hb) (And.intro (HA5.out.2.later hb) hk))
  clear HA5 hb hk
  refine (convex_sq _ _ HA6.out.1.s).mono ?_
  rintro e w7 ⟨rfl, hb⟩
  have HA7 := Lib.hid (And.intro (HA6.out.1.later hb) (And.intro (HA6.out.2.1.later hb) (HA6.out.2.2.later hb)))
  clear HA6 hb
  go_wp2_with fail
  refine (convex_el _ _ HA7.out.1.b).mono ?_
  rintro e w8 ⟨rfl, hb⟩
  have HA8 := Lib.hid (And.intro (HA7.out.1.later hb) (And.intro (HA7.out.2.1.later hb) (HA7.out.2.2.later hb)))
  clear HA7 hb
  go_wp2_with fail
  have hb := below_alloc w8 (.cells (flat crossedZ).toArray 30)
  have hk := (Blk.new w8 30 (flat crossedZ).toArray).sp
  have HA9 := Lib.hid (And.intro (HA8.out.1.later hb) (And.intro (HA8.out.2.1.later hb) (And.intro (HA8.out.2.2.later hb) hk)))
  clear HA8 hb hk
  refine (same34 A1 (some ⟨w.heap.size, 0, none⟩) sqZ.length 4 c1 4 sqZ sqZ _ rfl rfl HA9.out.2.1 HA9.out.1.s (by decide)).mono ?_
  rintro e w10 ⟨rfl, hb⟩
  rw [decide_eq_true (show sqZ = sqZ from rfl)]
  have HA10 := Lib.hid (And.intro (HA9.out.1.later hb) (And.intro (HA9.out.2.2.1.later hb) (HA9.out.2.2.2.later hb)))
  clear HA9 hb
  have r0 := HA10.out.2.1.cell 0; have r1 := HA10.out.2.1.cell 1; have r2 := HA10.out.2.1.cell 2; have r3 := HA10.out.2.1.cell 3
  simp at r0 r1 r2 r3
  have he := fun w => eql41 ⟨0, 0, 4, 4⟩ ⟨0, 0, 4, 4⟩ w
  go_wp2_with fail
  clear he r0 r1 r2 r3
  refine (area_sq _ _ HA10.out.1.s).mono ?_
  rintro e w11 ⟨rfl, hb⟩
  have HA11 := Lib.hid (And.intro (HA10.out.1.later hb) (HA10.out.2.2.later hb))
  clear HA10 hb
  go_wp2_with fail
  refine (area_long _ _ HA11.out.1.l).mono ?_
  rintro e w12 ⟨rfl, hb⟩
  have HA12 := Lib.hid (And.intro (HA11.out.1.later hb) (HA11.out.2.later hb))
  clear HA11 hb
  go_wp2_with fail
  refine (area_crossed _ _ HA12.out.2).mono ?_
  rintro e w13 ⟨rfl, hb⟩
  have HA13 := Lib.hid (And.intro (HA12.out.1.later hb) (HA12.out.2.later hb))
  clear HA12 hb
  go_wp2_with fail
  refine (check_crossed _ _ HA13.out.2).mono ?_
  rintro e w14 ⟨rfl, hb⟩
  have HA14 := Lib.hid (And.intro (HA13.out.1.later hb) (HA13.out.2.later hb))
  clear HA13 hb
  go_wp2_with fail
  refine (check_sq2 _ _ HA14.out.1.s).mono ?_
  rintro e w15 ⟨rfl, hb⟩
  have HA15 := Lib.hid (HA14.out.1.later hb)
  clear HA14 hb
  go_wp2
  go_ret
  exact ⟨rfl, HA15.out.h⟩
end Go.Proofs.Ytfgeengdmbabhaa
