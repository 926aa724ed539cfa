import Derived.Test.YtfgeengdmbabhaaWs
namespace Go.Proofs.Ytfgeengdmbabhaa
open Go.RowKit
attribute [local go_sem ↓] Go.wp_at_zero Go.wp_at_succ

theorem run_min3 {P : Program} {w : World} (ts : Array TypeId) (t : TypeId) (x y z : Int) : (Builtin.min_ ts t #[.int .i64 x, .int .i64 y, .int .i64 z]).run P w = .ok (.int .i64 (min x (min y z))) w := by
  have e1 : (if y < x then y else x) = min x y := by split <;> omega
  have e : (if z < min x y then z else min x y) = min x (min y z) := by split <;> omega
  simp [Builtin.min_, Builtin.min2, e1, e]

set_option maxHeartbeats 400000 in
/-- triangle.cross -/
theorem cross93 (a b c : Z2) (w : World) (ha : Bd a) (hb : Bd b) (hc : Bd c) :
    Calls Try.prog 93 #[sv a, sv b, sv c] w fun e w' => e = .returned (iv (crZ a b c)) ∧ Below w.heap.size w w' := by
  have HE := Lib.hid (crZ_wrap ha hb hc)
  obtain ⟨a1, a2, a3, a4⟩ := ha
  obtain ⟨b1, b2, b3, b4⟩ := hb
  obtain ⟨c1, c2, c3, c4⟩ := hc
  go_enter Try.func93, Try.ntmps93
  go_wp2
  go_ret
  exact ⟨ret_int HE.out, (((Below.refl _ _).alloc (Nat.le_refl _) _).alloc (by simp) _).alloc (by simp; omega) _⟩

set_option maxHeartbeats 400000 in
/-- triangle.outside -/
theorem outside100 (a : Z2) (w : World) : Calls Try.prog 100 #[sv a] w fun e w' => e = .returned (.bool (outZ a)) ∧ Below w.heap.size w w' := by
  go_enter Try.func100, Try.ntmps100
  go_wp2
  all_goals
    go_ret
    refine ⟨ret_bool ?_, below_alloc _ _⟩
    rw [Bool.eq_iff_iff]
    simp [outZ]
    try omega

/-- where a spot lies in a triangle of three spots within the bounds -/
def tri3Z (a b c q : Z2) : Int :=
  if crZ a b c = 0 then -1
  else if crZ a b c < 0 then sgn (min (crZ a c q) (min (crZ c b q) (crZ b a q)))
  else sgn (min (crZ a b q) (min (crZ b c q) (crZ c a q)))
def anyOut (t : List Z2) (q : Z2) : Bool := outZ q || outZ (pt t 0) || outZ (pt t 1) || outZ (pt t 2)
def holdsZ (t : List Z2) (q : Z2) : Int := if t.length ≠ 3 then -1 else if anyOut t q then -1 else tri3Z (pt t 0) (pt t 1) (pt t 2) q

/-- three new boxes that hold three spots -/
def ThreeAt (w : World) (a b c : Z2) (u v x : Value) (wx : World) : Prop :=
  ∃ ga gb gc : Nat, u = .pointer (some ⟨ga, 0, none⟩) ∧ v = .pointer (some ⟨gb, 0, none⟩) ∧ x = .pointer (some ⟨gc, 0, none⟩) ∧ w.heap.size ≤ ga ∧ w.heap.size ≤ gb ∧ w.heap.size ≤ gc ∧ ga ≠ gb ∧ ga ≠ gc ∧ gb ≠ gc
    ∧ Blk wx ga 30 #[iv a.x, iv a.y] ∧ Blk wx gb 30 #[iv b.x, iv b.y] ∧ Blk wx gc 30 #[iv c.x, iv c.y] ∧ Below w.heap.size w wx
theorem three_new (w : World) (t : TypeId) (cs ds es : Array Value) : Blk (((w.alloc (.cells cs t)).alloc (.cells ds t)).alloc (.cells es t)) w.heap.size t cs ∧ Blk (((w.alloc (.cells cs t)).alloc (.cells ds t)).alloc (.cells es t)) (w.heap.size + 1) t ds
    ∧ Blk (((w.alloc (.cells cs t)).alloc (.cells ds t)).alloc (.cells es t)) (w.heap.size + 1 + 1) t es ∧ Below w.heap.size w (((w.alloc (.cells cs t)).alloc (.cells ds t)).alloc (.cells es t)) := by
  have h1 := two_new w t cs ds
  have hs : ((w.alloc (.cells cs t)).alloc (.cells ds t)).heap.size = w.heap.size + 1 + 1 := by simp
  generalize ((w.alloc (.cells cs t)).alloc (.cells ds t)) = W at *
  have h2 := Blk.new W t es
  have h3 := below_alloc W (.cells es t)
  rw [hs] at h2
  exact ⟨h1.1.later h3, h1.2.1.later h3, h2, below_trans h1.2.2 h3⟩
theorem ThreeAt.abc (w : World) (a b c : Z2) : ThreeAt w a b c (.pointer (some ⟨w.heap.size, 0, none⟩)) (.pointer (some ⟨w.heap.size + 1, 0, none⟩)) (.pointer (some ⟨w.heap.size + 1 + 1, 0, none⟩)) (((w.alloc (.cells #[iv a.x, iv a.y] 30)).alloc (.cells #[iv b.x, iv b.y] 30)).alloc (.cells #[iv c.x, iv c.y] 30)).drew := by
  have F := three_new w 30 #[iv a.x, iv a.y] #[iv b.x, iv b.y] #[iv c.x, iv c.y]
  exact ⟨_, _, _, rfl, rfl, rfl, by omega, by omega, by omega, by omega, by omega, by omega, F.1, F.2.1, F.2.2.1, F.2.2.2.drew⟩
theorem ThreeAt.acb (w : World) (a b c : Z2) : ThreeAt w a b c (.pointer (some ⟨w.heap.size, 0, none⟩)) (.pointer (some ⟨w.heap.size + 1 + 1, 0, none⟩)) (.pointer (some ⟨w.heap.size + 1, 0, none⟩)) (((w.alloc (.cells #[iv a.x, iv a.y] 30)).alloc (.cells #[iv c.x, iv c.y] 30)).alloc (.cells #[iv b.x, iv b.y] 30)).drew := by
  have F := three_new w 30 #[iv a.x, iv a.y] #[iv c.x, iv c.y] #[iv b.x, iv b.y]
  exact ⟨_, _, _, rfl, rfl, rfl, by omega, by omega, by omega, by omega, by omega, by omega, F.1, F.2.2.1, F.2.1, F.2.2.2.drew⟩
theorem ThreeAt.bac (w : World) (a b c : Z2) : ThreeAt w a b c (.pointer (some ⟨w.heap.size + 1, 0, none⟩)) (.pointer (some ⟨w.heap.size, 0, none⟩)) (.pointer (some ⟨w.heap.size + 1 + 1, 0, none⟩)) (((w.alloc (.cells #[iv b.x, iv b.y] 30)).alloc (.cells #[iv a.x, iv a.y] 30)).alloc (.cells #[iv c.x, iv c.y] 30)).drew := by
  have F := three_new w 30 #[iv b.x, iv b.y] #[iv a.x, iv a.y] #[iv c.x, iv c.y]
  exact ⟨_, _, _, rfl, rfl, rfl, by omega, by omega, by omega, by omega, by omega, by omega, F.2.1, F.1, F.2.2.1, F.2.2.2.drew⟩
theorem ThreeAt.bca (w : World) (a b c : Z2) : ThreeAt w a b c (.pointer (some ⟨w.heap.size + 1 + 1, 0, none⟩)) (.pointer (some ⟨w.heap.size, 0, none⟩)) (.pointer (some ⟨w.heap.size + 1, 0, none⟩)) (((w.alloc (.cells #[iv b.x, iv b.y] 30)).alloc (.cells #[iv c.x, iv c.y] 30)).alloc (.cells #[iv a.x, iv a.y] 30)).drew := by
  have F := three_new w 30 #[iv b.x, iv b.y] #[iv c.x, iv c.y] #[iv a.x, iv a.y]
  exact ⟨_, _, _, rfl, rfl, rfl, by omega, by omega, by omega, by omega, by omega, by omega, F.2.2.1, F.1, F.2.1, F.2.2.2.drew⟩
theorem ThreeAt.cab (w : World) (a b c : Z2) : ThreeAt w a b c (.pointer (some ⟨w.heap.size + 1, 0, none⟩)) (.pointer (some ⟨w.heap.size + 1 + 1, 0, none⟩)) (.pointer (some ⟨w.heap.size, 0, none⟩)) (((w.alloc (.cells #[iv c.x, iv c.y] 30)).alloc (.cells #[iv a.x, iv a.y] 30)).alloc (.cells #[iv b.x, iv b.y] 30)).drew := by
  have F := three_new w 30 #[iv c.x, iv c.y] #[iv a.x, iv a.y] #[iv b.x, iv b.y]
  exact ⟨_, _, _, rfl, rfl, rfl, by omega, by omega, by omega, by omega, by omega, by omega, F.2.1, F.2.2.1, F.1, F.2.2.2.drew⟩
theorem ThreeAt.cba (w : World) (a b c : Z2) : ThreeAt w a b c (.pointer (some ⟨w.heap.size + 1 + 1, 0, none⟩)) (.pointer (some ⟨w.heap.size + 1, 0, none⟩)) (.pointer (some ⟨w.heap.size, 0, none⟩)) (((w.alloc (.cells #[iv c.x, iv c.y] 30)).alloc (.cells #[iv b.x, iv b.y] 30)).alloc (.cells #[iv a.x, iv a.y] 30)).drew := by
  have F := three_new w 30 #[iv c.x, iv c.y] #[iv b.x, iv b.y] #[iv a.x, iv a.y]
  exact ⟨_, _, _, rfl, rfl, rfl, by omega, by omega, by omega, by omega, by omega, by omega, F.2.2.1, F.2.1, F.1, F.2.2.2.drew⟩

theorem sgn_pos {n : Int} (h : 0 < n) : sgn n = 1 := by unfold sgn; rw [if_neg (by omega), if_pos h]
theorem sgn_zero {n : Int} (h : n = 0) : sgn n = 0 := by unfold sgn; rw [if_neg (by omega), if_neg (by omega)]
theorem sgn_neg {n : Int} (h : n < 0) : sgn n = -1 := by unfold sgn; rw [if_pos h]

theorem alloc3_cell {w : World} {a : Addr} {x : Value} (g : w.cell? a = some x) : ∀ o1 o2 o3 : Obj, (((w.alloc o1).alloc o2).alloc o3).cell? a = some x := fun o1 o2 o3 =>
  cell_later (below_trans (below_trans (below_alloc w o1) (below_alloc _ o2)) (below_alloc _ o3)) g
attribute [local go_sem ↓] run_min3

set_option maxHeartbeats 4000000 in
/-- triangle.Holds -/
theorem holds60 (A : Option Addr) (n c : Nat) (t : List Z2) (q : Z2) (w : World) (hl : t.length = n) (hsp : Sp w A t) :
    Calls Try.prog 60 #[.slice A n c, sv q] w fun e w' => e = .returned (iv (holdsZ t q)) ∧ Below w.heap.size w w' := by
  have HS := Lib.hid hsp; clear hsp
  by_cases h3 : n = 3
  case neg =>
    have hd : ((n : Int) != 3) = true := by simp; omega
    have HE := Lib.hid (show holdsZ t q = -1 by unfold holdsZ; rw [if_pos (by omega)])
    clear hl
    go_enter Try.func60, Try.ntmps60
    go_wp2
    go_ret
    exact ⟨ret_int HE.out.symm, below_alloc _ _⟩
  case pos =>
    subst h3
    have hne : t ≠ [] := by intro h; simp [h] at hl
    have HL := Lib.hid hl
    obtain ⟨b, off, rfl, hc⟩ := HS.out hne
    obtain ⟨g1, g2⟩ := hc 0 (by omega)
    obtain ⟨g3, g4⟩ := hc 1 (by omega)
    obtain ⟨g5, g6⟩ := hc 2 (by omega)
    simp only [Nat.zero_mul, Nat.add_zero, Nat.one_mul, Nat.reduceMul] at g1 g2 g3 g4 g5 g6
    clear hc hl hne
    have HO := Lib.hid (show holdsZ t q = if anyOut t q then -1 else tri3Z (pt t 0) (pt t 1) (pt t 2) q by unfold holdsZ; rw [if_neg (by have := HL.out; omega)])
    have HA := Lib.hid (show anyOut t q = (outZ q || outZ (pt t 0) || outZ (pt t 1) || outZ (pt t 2)) from rfl)
    generalize pt t 0 = p0 at *
    generalize pt t 1 = p1 at *
    generalize pt t 2 = p2 at *
    go_enter Try.func60, Try.ntmps60
    go_upto_region 1 with fail
    have F := boxes1 w q
    have qB := Blk.new w 30 #[iv q.x, iv q.y]
    revert F qB
    generalize w.alloc (.cells #[iv q.x, iv q.y] 30) = W
    rintro ⟨hW, f1, f2⟩ qB
    have QB := Lib.hid qB
    clear qB
    replace g1 := cell_later hW g1; replace g2 := cell_later hW g2; replace g3 := cell_later hW g3; replace g4 := cell_later hW g4; replace g5 := cell_later hW g5; replace g6 := cell_later hW g6
    cases ho : anyOut t q
    case true =>
      have HE := Lib.hid (show holdsZ t q = -1 by rw [HO.out, ho]; rfl)
      rw [HA.out] at ho
      have HOR := Lib.hid ho
      clear ho
      go_wp2_with (first | (go_at_call 100; refine (outside100 _ _).mono ?_; rintro e w' ⟨rfl, hbq⟩; replace hW := below_trans hW hbq; replace QB := Lib.hid (QB.out.later hbq); replace f1 := cell_later hbq f1; replace f2 := cell_later hbq f2; replace g1 := cell_later hbq g1; replace g2 := cell_later hbq g2; replace g3 := cell_later hbq g3; replace g4 := cell_later hbq g4; replace g5 := cell_later hbq g5; replace g6 := cell_later hbq g6; clear hbq))
      iterate 4
        go_ret
        exact ⟨ret_int HE.out.symm, hW⟩
      exfalso
      have := HOR.out
      simp_all
    case false =>
      have HE := Lib.hid (show holdsZ t q = tri3Z p0 p1 p2 q by rw [HO.out, ho]; rfl)
      rw [HA.out] at ho
      simp only [Bool.or_eq_false_iff] at ho
      obtain ⟨⟨⟨o1, o2⟩, o3⟩, o4⟩ := ho
      have B0 := Lib.hid (bd_of_out o1); have B1 := Lib.hid (bd_of_out o2); have B2 := Lib.hid (bd_of_out o3); have B3 := Lib.hid (bd_of_out o4)
      clear HO HA
      go_upto_region 3 with (first | (go_at_call 100; refine (outside100 _ _).mono ?_; rintro e w' ⟨rfl, hbq⟩; replace hW := below_trans hW hbq; replace QB := Lib.hid (QB.out.later hbq); replace f1 := cell_later hbq f1; replace f2 := cell_later hbq f2; replace g1 := cell_later hbq g1; replace g2 := cell_later hbq g2; replace g3 := cell_later hbq g3; replace g4 := cell_later hbq g4; replace g5 := cell_later hbq g5; replace g6 := cell_later hbq g6; clear hbq))
      clear o1 o2 o3 o4
      have nb : b < w'.heap.size := World.block_lt_of_cell? _ _ g1
      have nb1 : b ≠ w'.heap.size := by omega
      have nb2 : b ≠ w'.heap.size + 1 := by omega
      have nb3 : b ≠ w'.heap.size + 1 + 1 := by omega
      have d1 := alloc3_cell g1; have d2 := alloc3_cell g2; have d3 := alloc3_cell g3; have d4 := alloc3_cell g4; have d5 := alloc3_cell g5; have d6 := alloc3_cell g6
      go_cut [5, 6, 7] (fun u v x wx => ThreeAt w' p0 p1 p2 u v x wx)
      case first =>
        go_region
        all_goals
          go_wp2_with fail
          go_meet
          first | exact ThreeAt.abc _ _ _ _ | exact ThreeAt.acb _ _ _ _ | exact ThreeAt.bac _ _ _ _ | exact ThreeAt.bca _ _ _ _ | exact ThreeAt.cab _ _ _ _ | exact ThreeAt.cba _ _ _ _
      case rest =>
        obtain ⟨ga, gb, gc, rfl, rfl, rfl, na, ngb, ngc, nab, nac, nbc, Ba, Bb, Bc, hbx⟩ := hcut
        clear g1 g2 g3 g4 g5 g6 nb nb1 nb2 nb3 d1 d2 d3 d4 d5 d6
        have nq := QB.out.lt
        replace QB := Lib.hid (QB.out.later hbx)
        replace hW := below_trans hW hbx
        replace f1 := cell_later hbx f1
        replace f2 := cell_later hbx f2
        clear hbx
        have a1 := Ba.cell 0; have a2 := Ba.cell 1; have a3 := Bb.cell 0; have a4 := Bb.cell 1; have a5 := Bc.cell 0; have a6 := Bc.cell 1
        simp at a1 a2 a3 a4 a5 a6
        go_wp2_with fail
        refine (cross93 p0 p1 p2 _ B1.out B2.out B3.out).mono ?_
        rintro e w4 ⟨rfl, hb4⟩
        replace hW := below_trans hW hb4
        replace f1 := cell_later hb4 f1; replace f2 := cell_later hb4 f2; replace a1 := cell_later hb4 a1; replace a2 := cell_later hb4 a2; replace a3 := cell_later hb4 a3; replace a4 := cell_later hb4 a4; replace a5 := cell_later hb4 a5; replace a6 := cell_later hb4 a6
        replace QB := Lib.hid (QB.out.later hb4); replace Ba := Ba.later hb4; replace Bb := Bb.later hb4; replace Bc := Bc.later hb4
        clear hb4
        by_cases z : crZ p0 p1 p2 = 0
        · have hd : (crZ p0 p1 p2 == 0) = true := by simpa using z
          have HZ := Lib.hid z
          clear z Ba Bb Bc
          go_wp2
          go_ret
          exact ⟨ret_int (by rw [HE.out]; unfold tri3Z; rw [if_pos HZ.out]), hW⟩
        have hd : (crZ p0 p1 p2 == 0) = false := by simpa using z
        have HZ := Lib.hid z
        clear z
        by_cases ng : crZ p0 p1 p2 < 0
        · have HT := Lib.hid (show tri3Z p0 p1 p2 q = sgn (min (crZ p0 p2 q) (min (crZ p2 p1 q) (crZ p1 p0 q))) by unfold tri3Z; rw [if_neg HZ.out, if_pos ng])
          have z1 := Bb.frozen 0; have z2 := Bb.frozen 1; have z3 := Bc.frozen 0; have z4 := Bc.frozen 1
          have K := Lib.hid (And.intro Ba (And.intro Bb Bc))
          clear Ba Bb Bc
          go_upto_region 9 with fail
          have b1 := (K.out.1.far2 (k := gb) nab (iv p2.x) (iv p2.y)).far2 (k := gc) nac (iv p1.x) (iv p1.y)
          have b2 := (K.out.2.1.set2 (iv p2.x) (iv p2.y)).far2 (k := gc) nbc (iv p1.x) (iv p1.y)
          have b3 := (K.out.2.2.far2 (k := gb) (fun e => nbc e.symm) (iv p2.x) (iv p2.y)).set2 (iv p1.x) (iv p1.y)
          have hW4 := below_set2 (g := gc) (below_set2 (g := gb) hW (by omega) (iv p2.x) (iv p2.y)) (by omega) (iv p1.x) (iv p1.y)
          have q1 := QB.out
          have b4 := (q1.far2 (k := gb) (by omega) (iv p2.x) (iv p2.y)).far2 (k := gc) (by omega) (iv p1.x) (iv p1.y)
          clear K z1 z2 z3 z4 a1 a2 a3 a4 a5 a6 f1 f2 q1
          revert b1 b2 b3 b4 hW4
          generalize ((((w4.setCell ⟨gb, 0, none⟩ (iv p2.x)).setCell ⟨gb, 1, none⟩ (iv p2.y)).setCell ⟨gc, 0, none⟩ (iv p1.x)).setCell ⟨gc, 1, none⟩ (iv p1.y)) = W4
          intro b1 b2 b3 hW4 b4
          have f1 := b4.cell 0; have f2 := b4.cell 1; have a1 := b1.cell 0; have a2 := b1.cell 1; have a3 := b2.cell 0; have a4 := b2.cell 1; have a5 := b3.cell 0; have a6 := b3.cell 1
          simp at f1 f2 a1 a2 a3 a4 a5 a6
          clear b1 b2 b3 b4
          go_region_held3 (fun w5 => Below w.heap.size w w5 ∧ w5.cell? ⟨w.heap.size, 0, none⟩ = some (iv q.x) ∧ w5.cell? ⟨w.heap.size, 1, none⟩ = some (iv q.y) ∧ w5.cell? ⟨ga, 0, none⟩ = some (iv p0.x) ∧ w5.cell? ⟨ga, 1, none⟩ = some (iv p0.y) ∧ w5.cell? ⟨gb, 0, none⟩ = some (iv p2.x) ∧ w5.cell? ⟨gb, 1, none⟩ = some (iv p2.y) ∧ w5.cell? ⟨gc, 0, none⟩ = some (iv p1.x) ∧ w5.cell? ⟨gc, 1, none⟩ = some (iv p1.y))
            (first | exact ⟨hW4.drew, f1, f2, a1, a2, a3, a4, a5, a6⟩ | assumption | (go_split_ands; refine ⟨below_trans (by assumption) hbq, ?_, ?_, ?_, ?_, ?_, ?_, ?_, ?_⟩ <;> exact cell_later hbq (by assumption)))
            (first | (go_at_call 93; refine (cross93 _ _ _ _ ?_ ?_ ?_).mono ?_; (first | exact B1.out | exact B2.out | exact B3.out); (first | exact B1.out | exact B2.out | exact B3.out); (exact B0.out); rintro e w' ⟨rfl, hbq⟩))
          go_split_ands
          generalize hm : min (crZ p0 p2 q) (min (crZ p2 p1 q) (crZ p1 p0 q)) = m at *
          clear hm
          by_cases c1 : 0 < m
          · go_wp2
            go_ret
            exact ⟨ret_int (by rw [HE.out, HT.out, sgn_pos c1]), by assumption⟩
          by_cases c2 : m = 0
          · have hd2 : (m == 0) = true := by simpa using c2
            have HC2 := Lib.hid c2
            clear c2
            go_wp2
            go_ret
            exact ⟨ret_int (by rw [HE.out, HT.out, sgn_zero HC2.out]), by assumption⟩
          · have hd2 : (m == 0) = false := by simpa using c2
            go_wp2
            go_ret
            exact ⟨ret_int (by rw [HE.out, HT.out, sgn_neg (by omega)]), by assumption⟩
        · have HT := Lib.hid (show tri3Z p0 p1 p2 q = sgn (min (crZ p0 p1 q) (min (crZ p1 p2 q) (crZ p2 p0 q))) by unfold tri3Z; rw [if_neg HZ.out, if_neg ng])
          have hW4 := hW
          clear Ba Bb Bc
          go_upto_region 9 with fail
          go_region_held3 (fun w5 => Below w.heap.size w w5 ∧ w5.cell? ⟨w.heap.size, 0, none⟩ = some (iv q.x) ∧ w5.cell? ⟨w.heap.size, 1, none⟩ = some (iv q.y) ∧ w5.cell? ⟨ga, 0, none⟩ = some (iv p0.x) ∧ w5.cell? ⟨ga, 1, none⟩ = some (iv p0.y) ∧ w5.cell? ⟨gb, 0, none⟩ = some (iv p1.x) ∧ w5.cell? ⟨gb, 1, none⟩ = some (iv p1.y) ∧ w5.cell? ⟨gc, 0, none⟩ = some (iv p2.x) ∧ w5.cell? ⟨gc, 1, none⟩ = some (iv p2.y))
            (first | exact ⟨hW4.drew, f1, f2, a1, a2, a3, a4, a5, a6⟩ | assumption | (go_split_ands; refine ⟨below_trans (by assumption) hbq, ?_, ?_, ?_, ?_, ?_, ?_, ?_, ?_⟩ <;> exact cell_later hbq (by assumption)))
            (first | (go_at_call 93; refine (cross93 _ _ _ _ ?_ ?_ ?_).mono ?_; (first | exact B1.out | exact B2.out | exact B3.out); (first | exact B1.out | exact B2.out | exact B3.out); (exact B0.out); rintro e w' ⟨rfl, hbq⟩))
          go_split_ands
          generalize hm : min (crZ p0 p1 q) (min (crZ p1 p2 q) (crZ p2 p0 q)) = m at *
          clear hm
          by_cases c1 : 0 < m
          · go_wp2
            go_ret
            exact ⟨ret_int (by rw [HE.out, HT.out, sgn_pos c1]), by assumption⟩
          by_cases c2 : m = 0
          · have hd2 : (m == 0) = true := by simpa using c2
            have HC2 := Lib.hid c2
            clear c2
            go_wp2
            go_ret
            exact ⟨ret_int (by rw [HE.out, HT.out, sgn_zero HC2.out]), by assumption⟩
          · have hd2 : (m == 0) = false := by simpa using c2
            go_wp2
            go_ret
            exact ⟨ret_int (by rw [HE.out, HT.out, sgn_neg (by omega)]), by assumption⟩
end Go.Proofs.Ytfgeengdmbabhaa
