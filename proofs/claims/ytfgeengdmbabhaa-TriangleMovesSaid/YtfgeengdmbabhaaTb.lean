import Derived.Test.YtfgeengdmbabhaaTa
namespace Go.Proofs.Ytfgeengdmbabhaa
open Go.RowKit
attribute [local go_sem ↓] Go.wp_at_zero Go.wp_at_succ

theorem alloc1_cell {w : World} {a : Addr} {x : Value} (g : w.cell? a = some x) : ∀ o1 : Obj, (w.alloc o1).cell? a = some x := fun o1 => cell_later (below_alloc w o1) g

/-- the corner at a vertex -/
def cA (l : List Z2) (i : Nat) : Z2 := pt l ((i + l.length - 1) % l.length)
def cC (l : List Z2) (i : Nat) : Z2 := pt l ((i + 1) % l.length)
theorem bendZ_corner (l : List Z2) (i : Nat) : bendZ l i = crZ (cA l i) (pt l i) (cC l i) := rfl

/-- the captured slice -/
structure Left (w : World) (g : Nat) (l : List Z2) : Prop where
  cell : ∃ A c, w.cell? ⟨g, 0, none⟩ = some (.slice A l.length c) ∧ Sp w A l ∧ l.length ≤ c
theorem Left.later {w w' : World} {g : Nat} {l : List Z2} (h : Left w g l) (hb : Below w.heap.size w w') : Left w' g l := by
  obtain ⟨A, c, h1, h2, h3⟩ := h.cell
  exact ⟨A, c, cell_later hb h1, h2.later hb, h3⟩

set_option maxRecDepth 100000 in
set_option maxHeartbeats 4000000 in
/-- the closure 'corner' -/
theorem corner91 (g : Nat) (l : List Z2) (i : Nat) (w : World) (hL : Left w g l) (hi : i < l.length) (hn : l.length ≤ 1000000) :
    Calls Try.prog 91 #[iv i, .pointer (some ⟨g, 0, none⟩)] w fun e w' => e = .returned (.tuple #[sv (cA l i), sv (pt l i), sv (cC l i)]) ∧ Below w.heap.size w w' := by
  obtain ⟨A, c, hg, hsp, hcap⟩ := hL.cell
  clear hL
  have hne : l ≠ [] := by intro h; simp [h] at hi
  have hp : 0 < l.length := by omega
  obtain ⟨b, off, rfl, hc⟩ := hsp hne
  have l1 : (i + 1) % l.length < l.length := Nat.mod_lt _ hp
  have l2 : (i + l.length - 1) % l.length < l.length := Nat.mod_lt _ hp
  obtain ⟨g1, g2⟩ := hc i hi
  obtain ⟨g3, g4⟩ := hc _ l1
  obtain ⟨g5, g6⟩ := hc _ l2
  have m1 := mod_one i l.length
  have m2 := modN (k := i) (n := l.length) hp
  have HE := Lib.hid (And.intro (show cA l i = pt l ((i + l.length - 1) % l.length) from rfl) (show cC l i = pt l ((i + 1) % l.length) from rfl))
  generalize e1 : (i + 1) % l.length = k1 at *
  generalize e2 : (i + l.length - 1) % l.length = k2 at *
  clear e1 e2 hc hsp
  have q1 : (0 : Int) ≤ (k2 : Int) := by omega
  have q2 : (k2 : Int) < (l.length : Int) := by omega
  have q5 : (0 : Int) ≤ (k1 : Int) := by omega
  have q6 : (k1 : Int) < (l.length : Int) := by omega
  have q7 : (0 : Int) ≤ (i : Int) := by omega
  have q8 : (i : Int) < (l.length : Int) := by omega
  have q3 : ((l.length : Int) == 0) = false := beq_eq_false_iff_ne.2 (by omega)
  have q4 : ¬ ((l.length : Int) = 0) := by omega
  have t1 : ((i : Int) + 1).tmod (l.length : Int) = (k1 : Int) := by rw [Int.tmod_eq_emod_of_nonneg (by omega)]; exact m1
  have t2 : ((i : Int) + (l.length : Int) - 1).tmod (l.length : Int) = (k2 : Int) := by rw [Int.tmod_eq_emod_of_nonneg (by omega)]; exact m2
  clear m1 m2
  have s1 : IntKind.i64.wrap ((i : Int) + 1) = (i : Int) + 1 := IntWalk.i64_in _ (by omega)
  have s2 : IntKind.i64.wrap ((i : Int) + (l.length : Int)) = (i : Int) + (l.length : Int) := IntWalk.i64_in _ (by omega)
  have s3 : IntKind.i64.wrap ((i : Int) + (l.length : Int) - 1) = (i : Int) + (l.length : Int) - 1 := IntWalk.i64_in _ (by omega)
  have nb : b < w.heap.size := World.block_lt_of_cell? _ _ g1
  have ng : g < w.heap.size := World.block_lt_of_cell? _ _ hg
  go_enter Try.func91, Try.ntmps91
  go_upto_region 1 with fail
  have F := three_new w 30 #[iv 0, iv 0] #[iv 0, iv 0] #[iv 0, iv 0]
  revert F
  generalize (((w.alloc (.cells #[iv 0, iv 0] 30)).alloc (.cells #[iv 0, iv 0] 30)).alloc (.cells #[iv 0, iv 0] 30)) = W
  rintro ⟨B1, B2, B3, hW⟩
  replace g1 := cell_later hW g1; replace g2 := cell_later hW g2; replace g3 := cell_later hW g3; replace g4 := cell_later hW g4; replace g5 := cell_later hW g5; replace g6 := cell_later hW g6
  replace hg := cell_later hW hg
  generalize hh0 : w.heap.size = h0 at *
  generalize hh1 : h0 + 1 = h1 at *
  generalize hh2 : h1 + 1 = h2 at *
  have n1 : g ≠ h0 := by omega
  have n2 : g ≠ h1 := by omega
  have n3 : g ≠ h2 := by omega
  have n4 : b ≠ h0 := by omega
  have n5 : b ≠ h1 := by omega
  have n6 : b ≠ h2 := by omega
  have n7 : h0 ≠ h1 := by omega
  have n8 : h0 ≠ h2 := by omega
  have n9 : h1 ≠ h2 := by omega
  have f1 := B1.cell 0; have f2 := B1.cell 1; have f3 := B2.cell 0; have f4 := B2.cell 1; have f5 := B3.cell 0; have f6 := B3.cell 1
  have z1 := B1.frozen 0; have z2 := B1.frozen 1; have z3 := B2.frozen 0; have z4 := B2.frozen 1; have z5 := B3.frozen 0; have z6 := B3.frozen 1
  simp at f1 f2 f3 f4 f5 f6
  have K := Lib.hid (And.intro B1 (And.intro B2 (And.intro B3 hW)))
  clear B1 B2 B3 hW
  go_wp2_with fail
  go_region
  go_wp2_with fail
  clear f1 f2 f3 f4 f5 f6 z1 z2 z3 z4 z5 z6
  have c1 := ((K.out.1.set2 (iv (pt l k2).x) (iv (pt l k2).y)).far2 n7 (iv (pt l i).x) (iv (pt l i).y)).far2 n8 (iv (pt l k1).x) (iv (pt l k1).y)
  have c2 := ((K.out.2.1.far2 (fun e => n7 e.symm) (iv (pt l k2).x) (iv (pt l k2).y)).set2 (iv (pt l i).x) (iv (pt l i).y)).far2 n9 (iv (pt l k1).x) (iv (pt l k1).y)
  have c3 := ((K.out.2.2.1.far2 (fun e => n8 e.symm) (iv (pt l k2).x) (iv (pt l k2).y)).far2 (fun e => n9 e.symm) (iv (pt l i).x) (iv (pt l i).y)).set2 (iv (pt l k1).x) (iv (pt l k1).y)
  have hB := K.out.2.2.2
  rw [← hh0] at hB
  have c4 := below_set2 (g := h2) (below_set2 (g := h1) (below_set2 (g := h0) hB (by omega) (iv (pt l k2).x) (iv (pt l k2).y)) (by omega) (iv (pt l i).x) (iv (pt l i).y)) (by omega) (iv (pt l k1).x) (iv (pt l k1).y)
  clear hB K
  revert c1 c2 c3 c4
  generalize ((((((W.setCell ⟨h0, 0, none⟩ (iv (pt l k2).x)).setCell ⟨h0, 1, none⟩ (iv (pt l k2).y)).setCell ⟨h1, 0, none⟩ (iv (pt l i).x)).setCell ⟨h1, 1, none⟩ (iv (pt l i).y)).setCell ⟨h2, 0, none⟩ (iv (pt l k1).x)).setCell ⟨h2, 1, none⟩ (iv (pt l k1).y)) = W2
  intro c1 c2 c3 c4
  have r0 := c1.cell 0; have r1 := c1.cell 1; have r2 := c2.cell 0; have r3 := c2.cell 1; have r4 := c3.cell 0; have r5 := c3.cell 1
  simp at r0 r1 r2 r3 r4 r5
  refine bodyPost_ret (v := .tuple #[sv (pt l k2), sv (pt l i), sv (pt l k1)]) ?_ rfl ?_
  · simp [results, Try.results91, go_sem, r0, r1, r2, r3, r4, r5]
  · rw [HE.out.1, HE.out.2]
    exact ⟨rfl, c4.drew⟩

/-- the cells of the closures -/
structure Env (w : World) (gl gc : Nat) (l : List Z2) : Prop where
  left : Left w gl l
  corner : w.cell? ⟨gc, 0, none⟩ = some (.func (.func 91) #[] #[.pointer (some ⟨gl, 0, none⟩)])
theorem Env.later {w w' : World} {gl gc : Nat} {l : List Z2} (h : Env w gl gc l) (hb : Below w.heap.size w w') : Env w' gl gc l := ⟨h.left.later hb, cell_later hb h.corner⟩

def flatZ (l : List Z2) (i : Nat) : Bool := decide (bendZ l i = 0)
set_option maxHeartbeats 1000000 in
/-- the closure 'straight' -/
theorem straight92 (gl gc : Nat) (l : List Z2) (i : Nat) (w : World) (hE : Env w gl gc l) (hi : i < l.length) (hn : l.length ≤ 1000000) (hbd : ∀ p ∈ l, Bd p) :
    Calls Try.prog 92 #[iv i, .pointer (some ⟨gc, 0, none⟩)] w fun e w' => e = .returned (.bool (flatZ l i)) ∧ Below w.heap.size w w' := by
  have HE := Lib.hid hE
  have HD := Lib.hid hbd
  have hc := hE.corner
  clear hE hbd
  go_enter Try.func92, Try.ntmps92
  go_wp2_with fail
  refine (corner91 gl l i _ HE.out.left hi hn).mono ?_
  rintro e w1 ⟨rfl, hb1⟩
  go_wp2_with fail
  refine (cross93 (cA l i) (pt l i) (cC l i) _ (bd_pt HD.out _) (bd_pt HD.out _) (bd_pt HD.out _)).mono ?_
  rintro e w2 ⟨rfl, hb2⟩
  go_wp2
  go_ret
  refine ⟨ret_bool ?_, below_trans hb1 hb2⟩
  rw [Bool.eq_iff_iff]
  unfold flatZ
  rw [bendZ_corner, decide_eq_true_eq]
  simp

def blockZ (l : List Z2) (i : Nat) (q : Z2) : Bool := !eqZ q (cA l i) && !eqZ q (pt l i) && !eqZ q (cC l i) && decide (0 ≤ holdsZ [cA l i, pt l i, cC l i] q)
def freeZ (l : List Z2) (i : Nat) : Bool := decide (0 < bendZ l i) && !l.any (blockZ l i)
theorem freeZ_no {l : List Z2} {i j : Nat} (hj : j < l.length) (h : blockZ l i (pt l j) = true) : freeZ l i = false := by
  have : l.any (blockZ l i) = true := List.any_eq_true.2 ⟨_, pt_mem hj, h⟩
  unfold freeZ; rw [this]; simp
theorem freeZ_yes {l : List Z2} {i : Nat} (h0 : 0 < bendZ l i) (h : ∀ j, j < l.length → blockZ l i (pt l j) = false) : freeZ l i = true := by
  have : l.any (blockZ l i) = false := List.any_eq_false.2 fun x hx => by
    obtain ⟨j, hj, rfl⟩ := List.getElem_of_mem hx
    have := h j hj
    rw [pt_eq hj] at this
    simp [this]
  unfold freeZ; rw [this]; simp [h0]

set_option maxRecDepth 100000 in
set_option maxHeartbeats 4000000 in
/-- the closure 'free' -/
theorem free94 (gl gc : Nat) (l : List Z2) (i : Nat) (w : World) (hE : Env w gl gc l) (hi : i < l.length) (hn : l.length ≤ 1000000) (hbd : ∀ p ∈ l, Bd p) :
    Calls Try.prog 94 #[iv i, .pointer (some ⟨gc, 0, none⟩), .pointer (some ⟨gl, 0, none⟩)] w fun e w' => e = .returned (.bool (freeZ l i)) ∧ Below w.heap.size w w' := by
  have HE := Lib.hid hE
  have HD := Lib.hid hbd
  have hc := hE.corner
  clear hE hbd
  go_enter Try.func94, Try.ntmps94
  go_wp2_with fail
  refine (corner91 gl l i _ HE.out.left hi hn).mono ?_
  rintro e w1 ⟨rfl, hb1⟩
  replace HE := Lib.hid (HE.out.later hb1)
  have HW := Lib.hid hb1
  clear hb1 hc
  have BA := Lib.hid (bd_pt HD.out ((i + l.length - 1) % l.length)); have BB := Lib.hid (bd_pt HD.out i); have BC := Lib.hid (bd_pt HD.out ((i + 1) % l.length))
  have HBE := Lib.hid (bendZ_corner l i)
  have HBK := Lib.hid (show ∀ q, blockZ l i q = (!eqZ q (cA l i) && !eqZ q (pt l i) && !eqZ q (cC l i) && decide (0 ≤ holdsZ [cA l i, pt l i, cC l i] q)) from fun q => rfl)
  change Hid (Bd (cA l i)) at BA
  change Hid (Bd (cC l i)) at BC
  generalize hpa : cA l i = a at *
  generalize hpb : pt l i = b at *
  generalize hpc : cC l i = c at *
  clear hpa hpb hpc
  go_upto_region 2 with fail
  have F := boxes3 w1 a b c
  revert F
  generalize (((w1.alloc (.cells #[iv a.x, iv a.y] 30)).alloc (.cells #[iv b.x, iv b.y] 30)).alloc (.cells #[iv c.x, iv c.y] 30)) = W
  rintro ⟨hW, f1, f2, f3, f4, f5, f6⟩
  replace HE := Lib.hid (HE.out.later hW)
  replace HW := Lib.hid (below_trans HW.out hW)
  clear hW
  generalize w1.heap.size = h0 at *
  go_wp2_with fail
  refine (cross93 a b c _ BA.out BB.out BC.out).mono ?_
  rintro e w2 ⟨rfl, hb⟩
  replace HE := Lib.hid (HE.out.later hb)
  replace HW := Lib.hid (below_trans HW.out hb)
  replace f1 := cell_later hb f1; replace f2 := cell_later hb f2; replace f3 := cell_later hb f3; replace f4 := cell_later hb f4; replace f5 := cell_later hb f5; replace f6 := cell_later hb f6
  clear hb
  by_cases hz : crZ a b c ≤ 0
  · have HZ := Lib.hid hz
    go_wp2
    go_ret
    refine ⟨ret_bool ?_, HW.out⟩
    have : ¬ 0 < bendZ l i := by rw [HBE.out]; have := HZ.out; omega
    unfold freeZ; simp [this]
  · have HZ := Lib.hid (show 0 < bendZ l i by rw [HBE.out]; omega)
    obtain ⟨A, cap, hg, hsp, hcap⟩ := HE.out.left.cell
    have HS := Lib.hid hsp
    clear hsp
    go_wp2_with fail
    clear hz
    go_loopw [24] (fun v wr => ∃ k : Nat, k ≤ l.length ∧ v = .int .i64 k ∧ (∀ j, j < k → blockZ l i (pt l j) = false) ∧ Below w2.heap.size w2 wr ∧ wr.cell? ⟨h0, 0, none⟩ = some (iv a.x) ∧ wr.cell? ⟨h0, 1, none⟩ = some (iv a.y) ∧ wr.cell? ⟨h0 + 1, 0, none⟩ = some (iv b.x) ∧ wr.cell? ⟨h0 + 1, 1, none⟩ = some (iv b.y) ∧ wr.cell? ⟨h0 + 1 + 1, 0, none⟩ = some (iv c.x) ∧ wr.cell? ⟨h0 + 1 + 1, 1, none⟩ = some (iv c.y)) (fun v _ => l.length - (intOf v).toNat)
    case atStart => exact ⟨0, Nat.zero_le _, rfl, fun j hj => absurd hj (by omega), Below.refl _ _, f1, f2, f3, f4, f5, f6⟩
    case round =>
      clear f1 f2 f3 f4 f5 f6 hg
      obtain ⟨k, hk, rfl, hno, hB, f1, f2, f3, f4, f5, f6⟩ := hrel
      have HN := Lib.hid hno
      clear hno
      by_cases hlt : k < l.length
      · have hne : l ≠ [] := by intro h; simp [h] at hlt
        obtain ⟨bb, off, rfl, hc⟩ := HS.out.later hB hne
        obtain ⟨g1, g2⟩ := hc k hlt
        clear hc
        go_upto_region 7 with fail
        have F := boxes1 wr (pt l k)
        have nh : h0 + 1 + 1 < wr.heap.size := World.block_lt_of_cell? _ _ f5
        revert F
        generalize wr.alloc (.cells #[iv (pt l k).x, iv (pt l k).y] 30) = W3
        rintro ⟨hW3, f7, f8⟩
        have hB3 := hB.trans (hW3.mono hB.size)
        replace f1 := cell_later hW3 f1; replace f2 := cell_later hW3 f2; replace f3 := cell_later hW3 f3; replace f4 := cell_later hW3 f4; replace f5 := cell_later hW3 f5; replace f6 := cell_later hW3 f6
        clear hW3 g1 g2
        generalize wr.heap.size = h9 at *
        have HBQ := Lib.hid (HBK.out (pt l k))
        generalize hq : pt l k = q at *
        have HQ := Lib.hid hq
        clear hq
        cases e1 : eqZ q a
        case true =>
          have he : ∀ w, (binOp .neq 30 (sv q) (sv a)).run Try.prog w = .ok (.bool false) w := fun w => by rw [neq30, e1]; rfl
          have HX := Lib.hid e1
          clear e1
          go_wp2_with fail
          go_roundw
          case rel =>
            refine ⟨k + 1, by omega, by go_num, fun j hj => ?_, hB3, f1, f2, f3, f4, f5, f6⟩
            by_cases e : j = k
            · subst e; rw [HQ.out, HBQ.out, HX.out]; rfl
            · exact HN.out j (by omega)
          case measure => simp [intOf]; omega
        case false =>
        have he1 : ∀ w, (binOp .neq 30 (sv q) (sv a)).run Try.prog w = .ok (.bool true) w := fun w => by rw [neq30, e1]; rfl
        have HX1 := Lib.hid e1
        clear e1
        cases e2 : eqZ q b
        case true =>
          have he : ∀ w, (binOp .neq 30 (sv q) (sv b)).run Try.prog w = .ok (.bool false) w := fun w => by rw [neq30, e2]; rfl
          have HX := Lib.hid e2
          clear e2
          go_wp2_with fail
          go_roundw
          case rel =>
            refine ⟨k + 1, by omega, by go_num, fun j hj => ?_, hB3, f1, f2, f3, f4, f5, f6⟩
            by_cases e : j = k
            · subst e; rw [HQ.out, HBQ.out, HX.out]; simp
            · exact HN.out j (by omega)
          case measure => simp [intOf]; omega
        case false =>
        have he2 : ∀ w, (binOp .neq 30 (sv q) (sv b)).run Try.prog w = .ok (.bool true) w := fun w => by rw [neq30, e2]; rfl
        have HX2 := Lib.hid e2
        clear e2
        cases e3 : eqZ q c
        case true =>
          have he : ∀ w, (binOp .neq 30 (sv q) (sv c)).run Try.prog w = .ok (.bool false) w := fun w => by rw [neq30, e3]; rfl
          have HX := Lib.hid e3
          clear e3
          go_wp2_with fail
          go_roundw
          case rel =>
            refine ⟨k + 1, by omega, by go_num, fun j hj => ?_, hB3, f1, f2, f3, f4, f5, f6⟩
            by_cases e : j = k
            · subst e; rw [HQ.out, HBQ.out, HX.out]; simp
            · exact HN.out j (by omega)
          case measure => simp [intOf]; omega
        case false =>
        have he3 : ∀ w, (binOp .neq 30 (sv q) (sv c)).run Try.prog w = .ok (.bool true) w := fun w => by rw [neq30, e3]; rfl
        have HX3 := Lib.hid e3
        clear e3
        have d7 := alloc1_cell f7
        have d8 := alloc1_cell f8
        go_wp2_with fail
        have hb6 := below_alloc W3 (.cells (flat [a, b, c]).toArray 30)
        have hs6 := (Blk.new W3 30 (flat [a, b, c]).toArray).sp
        simp only [flat] at hb6 hs6
        refine (holds60 (some ⟨W3.heap.size, 0, none⟩) 3 3 [a, b, c] q _ rfl hs6).mono ?_
        rintro e w6 ⟨rfl, hb⟩
        have hb7 := below_trans hb6 hb
        have hB6 := hB3.trans (hb7.mono hB3.size)
        replace f1 := cell_later hb7 f1; replace f2 := cell_later hb7 f2; replace f3 := cell_later hb7 f3; replace f4 := cell_later hb7 f4; replace f5 := cell_later hb7 f5; replace f6 := cell_later hb7 f6
        clear hb hb6 hb7 hs6 he1 he2 he3 f7 f8 d7 d8
        by_cases hh : 0 ≤ holdsZ [a, b, c] q
        · have HH := Lib.hid hh
          go_wp2
          go_ret
          refine ⟨ret_bool (freeZ_no (j := k) hlt ?_).symm, below_trans HW.out hB6⟩
          rw [HQ.out, HBQ.out, HX1.out, HX2.out, HX3.out, decide_eq_true HH.out]; rfl
        · have HH := Lib.hid hh
          go_wp2
          go_roundw
          case rel =>
            refine ⟨k + 1, by omega, by go_num, fun j hj => ?_, hB6, f1, f2, f3, f4, f5, f6⟩
            by_cases e : j = k
            · subst e; rw [HQ.out, HBQ.out, decide_eq_false (by have := HH.out; omega)]; simp
            · exact HN.out j (by omega)
          case measure => simp [intOf]; omega
      · obtain rfl : k = l.length := by omega
        go_wp2
        go_ret
        exact ⟨ret_bool (freeZ_yes HZ.out HN.out).symm, below_trans HW.out hB⟩
/-- the least number below n that passes a test, -1 if there is none -/
def firstZ (n : Nat) (f : Nat → Bool) : Int := match (List.range n).find? f with | some i => i | none => -1
theorem firstZ_at {n i : Nat} {f : Nat → Bool} (hi : i < n) (h : f i = true) (hno : ∀ j, j < i → f j = false) : firstZ n f = i := by
  have : (List.range n).find? f = some i := by
    rw [List.find?_range_eq_some]
    exact ⟨h, by simpa using hi, fun j hj => by simp [hno j hj]⟩
  unfold firstZ; rw [this]
theorem firstZ_none {n : Nat} {f : Nat → Bool} (hno : ∀ j, j < n → f j = false) : firstZ n f = -1 := by
  have : (List.range n).find? f = none := by
    rw [List.find?_eq_none]
    intro j hj
    simp [hno j (by simpa using hj)]
  unfold firstZ; rw [this]

set_option maxHeartbeats 1000000 in
/-- triangle.first with 's' -/
theorem first95s (gl gc : Nat) (l : List Z2) (w : World) (hE : Env w gl gc l) (hn : l.length ≤ 1000000) (hbd : ∀ p ∈ l, Bd p) :
    Calls Try.prog 95 #[iv l.length, .func (.func 92) #[] #[.pointer (some ⟨gc, 0, none⟩)]] w fun e w' => e = .returned (iv (firstZ l.length (flatZ l))) ∧ Below w.heap.size w w' := by
  have HE := Lib.hid hE
  have HD := Lib.hid hbd
  clear hE hbd
  go_enter Try.func95, Try.ntmps95
  go_wp2
  go_loopw [7] (fun v wr => ∃ k : Nat, k ≤ l.length ∧ v = .int .i64 k ∧ (∀ j, j < k → flatZ l j = false) ∧ Below w.heap.size w wr) (fun v _ => l.length - (intOf v).toNat)
  case atStart => exact ⟨0, Nat.zero_le _, rfl, fun j hj => absurd hj (by omega), Below.refl _ _⟩
  case round =>
    obtain ⟨k, hk, rfl, hno, hB⟩ := hrel
    have HN := Lib.hid hno
    clear hno
    by_cases hlt : k < l.length
    · go_wp2_with fail
      refine (straight92 gl gc l k _ (HE.out.later hB) hlt hn HD.out).mono ?_
      rintro e w1 ⟨rfl, hb⟩
      have hB1 := hB.trans (hb.mono hB.size)
      clear hb
      cases hz : flatZ l k
      case true =>
        have HZ := Lib.hid hz
        clear hz
        go_wp2
        go_ret
        exact ⟨ret_int (firstZ_at hlt HZ.out HN.out).symm, hB1⟩
      case false =>
        have HZ := Lib.hid hz
        clear hz
        go_wp2
        go_roundw
        case rel =>
          refine ⟨k + 1, by omega, by go_num, fun j hj => ?_, hB1⟩
          by_cases e : j = k
          · subst e; exact HZ.out
          · exact HN.out j (by omega)
        case measure => simp [intOf]; omega
    · obtain rfl : k = l.length := by omega
      go_wp2
      go_ret
      exact ⟨ret_int (firstZ_none HN.out).symm, hB⟩

set_option maxHeartbeats 1000000 in
/-- triangle.first with 'f' -/
theorem first95f (gl gc : Nat) (l : List Z2) (w : World) (hE : Env w gl gc l) (hn : l.length ≤ 1000000) (hbd : ∀ p ∈ l, Bd p) :
    Calls Try.prog 95 #[iv l.length, .func (.func 94) #[] #[.pointer (some ⟨gc, 0, none⟩), .pointer (some ⟨gl, 0, none⟩)]] w fun e w' => e = .returned (iv (firstZ l.length (freeZ l))) ∧ Below w.heap.size w w' := by
  have HE := Lib.hid hE
  have HD := Lib.hid hbd
  clear hE hbd
  go_enter Try.func95, Try.ntmps95
  go_wp2
  go_loopw [7] (fun v wr => ∃ k : Nat, k ≤ l.length ∧ v = .int .i64 k ∧ (∀ j, j < k → freeZ l j = false) ∧ Below w.heap.size w wr) (fun v _ => l.length - (intOf v).toNat)
  case atStart => exact ⟨0, Nat.zero_le _, rfl, fun j hj => absurd hj (by omega), Below.refl _ _⟩
  case round =>
    obtain ⟨k, hk, rfl, hno, hB⟩ := hrel
    have HN := Lib.hid hno
    clear hno
    by_cases hlt : k < l.length
    · go_wp2_with fail
      refine (free94 gl gc l k _ (HE.out.later hB) hlt hn HD.out).mono ?_
      rintro e w1 ⟨rfl, hb⟩
      have hB1 := hB.trans (hb.mono hB.size)
      clear hb
      cases hz : freeZ l k
      case true =>
        have HZ := Lib.hid hz
        clear hz
        go_wp2
        go_ret
        exact ⟨ret_int (firstZ_at hlt HZ.out HN.out).symm, hB1⟩
      case false =>
        have HZ := Lib.hid hz
        clear hz
        go_wp2
        go_roundw
        case rel =>
          refine ⟨k + 1, by omega, by go_num, fun j hj => ?_, hB1⟩
          by_cases e : j = k
          · subst e; exact HZ.out
          · exact HN.out j (by omega)
        case measure => simp [intOf]; omega
    · obtain rfl : k = l.length := by omega
      go_wp2
      go_ret
      exact ⟨ret_int (firstZ_none HN.out).symm, hB⟩

end Go.Proofs.Ytfgeengdmbabhaa
