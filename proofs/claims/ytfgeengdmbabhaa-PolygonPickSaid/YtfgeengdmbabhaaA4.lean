import Derived.Test.YtfgeengdmbabhaaA3
import Derived.Laws.CopyRow
import Derived.Deep.LoopGhost
namespace Go.Proofs.Ytfgeengdmbabhaa
open Go.RowKit
attribute [local go_sem ↓] Go.wp_at_zero Go.wp_at_succ

theorem run_min3 {P : Program} {w : World} (ts : Array TypeId) (t : TypeId) (x y z : Int) : (Builtin.min_ ts t #[.int .i64 x, .int .i64 y, .int .i64 z]).run P w = .ok (.int .i64 (min x (min y z))) w := by
  have e1 : (if y < x then y else x) = min x y := by split <;> omega
  have e : (if z < min x y then z else min x y) = min x (min y z) := by split <;> omega
  simp [Builtin.min_, Builtin.min2, e1, e]

set_option maxHeartbeats 400000 in
/-- triangle.cross -/
theorem cross93 (a b c : Z2) (w : World) (ha : Bd a) (hb : Bd b) (hc : Bd c) :
    Calls Try.prog 93 #[sv a, sv b, sv c] w fun e w' => e = .returned (iv (crZ a b c)) ∧ Below w.heap.size w w' := by
  have HE := Lib.hid (crZ_wrap ha hb hc)
  obtain ⟨a1, a2, a3, a4⟩ := ha
  obtain ⟨b1, b2, b3, b4⟩ := hb
  obtain ⟨c1, c2, c3, c4⟩ := hc
  go_enter Try.func93, Try.ntmps93
  go_wp2
  go_ret
  exact ⟨ret_int HE.out, (((Below.refl _ _).alloc (Nat.le_refl _) _).alloc (by simp) _).alloc (by simp; omega) _⟩

set_option maxHeartbeats 400000 in
/-- triangle.outside -/
theorem outside100 (a : Z2) (w : World) : Calls Try.prog 100 #[sv a] w fun e w' => e = .returned (.bool (outZ a)) ∧ Below w.heap.size w w' := by
  go_enter Try.func100, Try.ntmps100
  go_wp2
  all_goals
    go_ret
    refine ⟨ret_bool ?_, below_alloc _ _⟩
    rw [Bool.eq_iff_iff]
    simp [outZ]
    try omega

/-- where a spot lies in a triangle of three spots within the bounds -/
def tri3Z (a b c q : Z2) : Int :=
  if crZ a b c = 0 then -1
  else if crZ a b c < 0 then sgn (min (crZ a c q) (min (crZ c b q) (crZ b a q)))
  else sgn (min (crZ a b q) (min (crZ b c q) (crZ c a q)))
def anyOut (t : List Z2) (q : Z2) : Bool := outZ q || outZ (pt t 0) || outZ (pt t 1) || outZ (pt t 2)
def holdsZ (t : List Z2) (q : Z2) : Int := if t.length ≠ 3 then -1 else if anyOut t q then -1 else tri3Z (pt t 0) (pt t 1) (pt t 2) q

/-- three new boxes that hold three spots -/
def ThreeAt (w : World) (a b c : Z2) (u v x : Value) (wx : World) : Prop :=
  ∃ ga gb gc : Nat, u = .pointer (some ⟨ga, 0, none⟩) ∧ v = .pointer (some ⟨gb, 0, none⟩) ∧ x = .pointer (some ⟨gc, 0, none⟩) ∧ w.heap.size ≤ ga ∧ w.heap.size ≤ gb ∧ w.heap.size ≤ gc ∧ ga ≠ gb ∧ ga ≠ gc ∧ gb ≠ gc
    ∧ Blk wx ga 30 #[iv a.x, iv a.y] ∧ Blk wx gb 30 #[iv b.x, iv b.y] ∧ Blk wx gc 30 #[iv c.x, iv c.y] ∧ Below w.heap.size w wx
theorem three_new (w : World) (t : TypeId) (cs ds es : Array Value) : Blk (((w.alloc (.cells cs t)).alloc (.cells ds t)).alloc (.cells es t)) w.heap.size t cs ∧ Blk (((w.alloc (.cells cs t)).alloc (.cells ds t)).alloc (.cells es t)) (w.heap.size + 1) t ds
    ∧ Blk (((w.alloc (.cells cs t)).alloc (.cells ds t)).alloc (.cells es t)) (w.heap.size + 1 + 1) t es ∧ Below w.heap.size w (((w.alloc (.cells cs t)).alloc (.cells ds t)).alloc (.cells es t)) := by
  have h1 := two_new w t cs ds
  have hs : ((w.alloc (.cells cs t)).alloc (.cells ds t)).heap.size = w.heap.size + 1 + 1 := by simp
  generalize ((w.alloc (.cells cs t)).alloc (.cells ds t)) = W at *
  have h2 := Blk.new W t es
  have h3 := below_alloc W (.cells es t)
  rw [hs] at h2
  exact ⟨h1.1.later h3, h1.2.1.later h3, h2, below_trans h1.2.2 h3⟩
theorem ThreeAt.abc (w : World) (a b c : Z2) : ThreeAt w a b c (.pointer (some ⟨w.heap.size, 0, none⟩)) (.pointer (some ⟨w.heap.size + 1, 0, none⟩)) (.pointer (some ⟨w.heap.size + 1 + 1, 0, none⟩)) (((w.alloc (.cells #[iv a.x, iv a.y] 30)).alloc (.cells #[iv b.x, iv b.y] 30)).alloc (.cells #[iv c.x, iv c.y] 30)).drew := by
  have F := three_new w 30 #[iv a.x, iv a.y] #[iv b.x, iv b.y] #[iv c.x, iv c.y]
  exact ⟨_, _, _, rfl, rfl, rfl, by omega, by omega, by omega, by omega, by omega, by omega, F.1, F.2.1, F.2.2.1, F.2.2.2.drew⟩
theorem ThreeAt.acb (w : World) (a b c : Z2) : ThreeAt w a b c (.pointer (some ⟨w.heap.size, 0, none⟩)) (.pointer (some ⟨w.heap.size + 1 + 1, 0, none⟩)) (.pointer (some ⟨w.heap.size + 1, 0, none⟩)) (((w.alloc (.cells #[iv a.x, iv a.y] 30)).alloc (.cells #[iv c.x, iv c.y] 30)).alloc (.cells #[iv b.x, iv b.y] 30)).drew := by
  have F := three_new w 30 #[iv a.x, iv a.y] #[iv c.x, iv c.y] #[iv b.x, iv b.y]
  exact ⟨_, _, _, rfl, rfl, rfl, by omega, by omega, by omega, by omega, by omega, by omega, F.1, F.2.2.1, F.2.1, F.2.2.2.drew⟩
theorem ThreeAt.bac (w : World) (a b c : Z2) : ThreeAt w a b c (.pointer (some ⟨w.heap.size + 1, 0, none⟩)) (.pointer (some ⟨w.heap.size, 0, none⟩)) (.pointer (some ⟨w.heap.size + 1 + 1, 0, none⟩)) (((w.alloc (.cells #[iv b.x, iv b.y] 30)).alloc (.cells #[iv a.x, iv a.y] 30)).alloc (.cells #[iv c.x, iv c.y] 30)).drew := by
  have F := three_new w 30 #[iv b.x, iv b.y] #[iv a.x, iv a.y] #[iv c.x, iv c.y]
  exact ⟨_, _, _, rfl, rfl, rfl, by omega, by omega, by omega, by omega, by omega, by omega, F.2.1, F.1, F.2.2.1, F.2.2.2.drew⟩
theorem ThreeAt.bca (w : World) (a b c : Z2) : ThreeAt w a b c (.pointer (some ⟨w.heap.size + 1 + 1, 0, none⟩)) (.pointer (some ⟨w.heap.size, 0, none⟩)) (.pointer (some ⟨w.heap.size + 1, 0, none⟩)) (((w.alloc (.cells #[iv b.x, iv b.y] 30)).alloc (.cells #[iv c.x, iv c.y] 30)).alloc (.cells #[iv a.x, iv a.y] 30)).drew := by
  have F := three_new w 30 #[iv b.x, iv b.y] #[iv c.x, iv c.y] #[iv a.x, iv a.y]
  exact ⟨_, _, _, rfl, rfl, rfl, by omega, by omega, by omega, by omega, by omega, by omega, F.2.2.1, F.1, F.2.1, F.2.2.2.drew⟩
theorem ThreeAt.cab (w : World) (a b c : Z2) : ThreeAt w a b c (.pointer (some ⟨w.heap.size + 1, 0, none⟩)) (.pointer (some ⟨w.heap.size + 1 + 1, 0, none⟩)) (.pointer (some ⟨w.heap.size, 0, none⟩)) (((w.alloc (.cells #[iv c.x, iv c.y] 30)).alloc (.cells #[iv a.x, iv a.y] 30)).alloc (.cells #[iv b.x, iv b.y] 30)).drew := by
  have F := three_new w 30 #[iv c.x, iv c.y] #[iv a.x, iv a.y] #[iv b.x, iv b.y]
  exact ⟨_, _, _, rfl, rfl, rfl, by omega, by omega, by omega, by omega, by omega, by omega, F.2.1, F.2.2.1, F.1, F.2.2.2.drew⟩
theorem ThreeAt.cba (w : World) (a b c : Z2) : ThreeAt w a b c (.pointer (some ⟨w.heap.size + 1 + 1, 0, none⟩)) (.pointer (some ⟨w.heap.size + 1, 0, none⟩)) (.pointer (some ⟨w.heap.size, 0, none⟩)) (((w.alloc (.cells #[iv c.x, iv c.y] 30)).alloc (.cells #[iv b.x, iv b.y] 30)).alloc (.cells #[iv a.x, iv a.y] 30)).drew := by
  have F := three_new w 30 #[iv c.x, iv c.y] #[iv b.x, iv b.y] #[iv a.x, iv a.y]
  exact ⟨_, _, _, rfl, rfl, rfl, by omega, by omega, by omega, by omega, by omega, by omega, F.2.2.1, F.2.1, F.1, F.2.2.2.drew⟩

theorem sgn_pos {n : Int} (h : 0 < n) : sgn n = 1 := by unfold sgn; rw [if_neg (by omega), if_pos h]
theorem sgn_zero {n : Int} (h : n = 0) : sgn n = 0 := by unfold sgn; rw [if_neg (by omega), if_neg (by omega)]
theorem sgn_neg {n : Int} (h : n < 0) : sgn n = -1 := by unfold sgn; rw [if_pos h]

theorem alloc3_cell {w : World} {a : Addr} {x : Value} (g : w.cell? a = some x) : ∀ o1 o2 o3 : Obj, (((w.alloc o1).alloc o2).alloc o3).cell? a = some x := fun o1 o2 o3 =>
  cell_later (below_trans (below_trans (below_alloc w o1) (below_alloc _ o2)) (below_alloc _ o3)) g
attribute [local go_sem ↓] run_min3

set_option maxHeartbeats 4000000 in
/-- triangle.Holds -/
theorem holds60 (A : Option Addr) (n c : Nat) (t : List Z2) (q : Z2) (w : World) (hl : t.length = n) (hsp : Sp w A t) :
    Calls Try.prog 60 #[.slice A n c, sv q] w fun e w' => e = .returned (iv (holdsZ t q)) ∧ Below w.heap.size w w' := by
  have HS := Lib.hid hsp; clear hsp
  by_cases h3 : n = 3
  case neg =>
    have hd : ((n : Int) != 3) = true := by simp; omega
    have HE := Lib.hid (show holdsZ t q = -1 by unfold holdsZ; rw [if_pos (by omega)])
    clear hl
    go_enter Try.func60, Try.ntmps60
    go_wp2
    go_ret
    exact ⟨ret_int HE.out.symm, below_alloc _ _⟩
  case pos =>
    subst h3
    have hne : t ≠ [] := by intro h; simp [h] at hl
    have HL := Lib.hid hl
    obtain ⟨b, off, rfl, hc⟩ := HS.out hne
    obtain ⟨g1, g2⟩ := hc 0 (by omega)
    obtain ⟨g3, g4⟩ := hc 1 (by omega)
    obtain ⟨g5, g6⟩ := hc 2 (by omega)
    simp only [Nat.zero_mul, Nat.add_zero, Nat.one_mul, Nat.reduceMul] at g1 g2 g3 g4 g5 g6
    clear hc hl hne
    have HO := Lib.hid (show holdsZ t q = if anyOut t q then -1 else tri3Z (pt t 0) (pt t 1) (pt t 2) q by unfold holdsZ; rw [if_neg (by have := HL.out; omega)])
    have HA := Lib.hid (show anyOut t q = (outZ q || outZ (pt t 0) || outZ (pt t 1) || outZ (pt t 2)) from rfl)
    generalize pt t 0 = p0 at *
    generalize pt t 1 = p1 at *
    generalize pt t 2 = p2 at *
    go_enter Try.func60, Try.ntmps60
    go_upto_region 1 with fail
    have F := boxes1 w q
    have qB := Blk.new w 30 #[iv q.x, iv q.y]
    revert F qB
    generalize w.alloc (.cells #[iv q.x, iv q.y] 30) = W
    rintro ⟨hW, f1, f2⟩ qB
    have QB := Lib.hid qB
    clear qB
    replace g1 := cell_later hW g1; replace g2 := cell_later hW g2; replace g3 := cell_later hW g3; replace g4 := cell_later hW g4; replace g5 := cell_later hW g5; replace g6 := cell_later hW g6
    cases ho : anyOut t q
    case true =>
      have HE := Lib.hid (show holdsZ t q = -1 by rw [HO.out, ho]; rfl)
      rw [HA.out] at ho
      have HOR := Lib.hid ho
      clear ho
      go_wp2_with (first | (go_at_call 100; refine (outside100 _ _).mono ?_; rintro e w' ⟨rfl, hbq⟩; replace hW := below_trans hW hbq; replace QB := Lib.hid (QB.out.later hbq); replace f1 := cell_later hbq f1; replace f2 := cell_later hbq f2; replace g1 := cell_later hbq g1; replace g2 := cell_later hbq g2; replace g3 := cell_later hbq g3; replace g4 := cell_later hbq g4; replace g5 := cell_later hbq g5; replace g6 := cell_later hbq g6; clear hbq))
      iterate 4
        go_ret
        exact ⟨ret_int HE.out.symm, hW⟩
      exfalso
      have := HOR.out
      simp_all
    case false =>
      have HE := Lib.hid (show holdsZ t q = tri3Z p0 p1 p2 q by rw [HO.out, ho]; rfl)
      rw [HA.out] at ho
      simp only [Bool.or_eq_false_iff] at ho
      obtain ⟨⟨⟨o1, o2⟩, o3⟩, o4⟩ := ho
      have B0 := Lib.hid (bd_of_out o1); have B1 := Lib.hid (bd_of_out o2); have B2 := Lib.hid (bd_of_out o3); have B3 := Lib.hid (bd_of_out o4)
      clear HO HA
      go_upto_region 3 with (first | (go_at_call 100; refine (outside100 _ _).mono ?_; rintro e w' ⟨rfl, hbq⟩; replace hW := below_trans hW hbq; replace QB := Lib.hid (QB.out.later hbq); replace f1 := cell_later hbq f1; replace f2 := cell_later hbq f2; replace g1 := cell_later hbq g1; replace g2 := cell_later hbq g2; replace g3 := cell_later hbq g3; replace g4 := cell_later hbq g4; replace g5 := cell_later hbq g5; replace g6 := cell_later hbq g6; clear hbq))
      clear o1 o2 o3 o4
      have nb : b < w'.heap.size := World.block_lt_of_cell? _ _ g1
      have nb1 : b ≠ w'.heap.size := by omega
      have nb2 : b ≠ w'.heap.size + 1 := by omega
      have nb3 : b ≠ w'.heap.size + 1 + 1 := by omega
      have d1 := alloc3_cell g1; have d2 := alloc3_cell g2; have d3 := alloc3_cell g3; have d4 := alloc3_cell g4; have d5 := alloc3_cell g5; have d6 := alloc3_cell g6
      go_cut [5, 6, 7] (fun u v x wx => ThreeAt w' p0 p1 p2 u v x wx)
      case first =>
        go_region
        all_goals
          go_wp2_with fail
          go_meet
          first | exact ThreeAt.abc _ _ _ _ | exact ThreeAt.acb _ _ _ _ | exact ThreeAt.bac _ _ _ _ | exact ThreeAt.bca _ _ _ _ | exact ThreeAt.cab _ _ _ _ | exact ThreeAt.cba _ _ _ _
      case rest =>
        obtain ⟨ga, gb, gc, rfl, rfl, rfl, na, ngb, ngc, nab, nac, nbc, Ba, Bb, Bc, hbx⟩ := hcut
        clear g1 g2 g3 g4 g5 g6 nb nb1 nb2 nb3 d1 d2 d3 d4 d5 d6
        have nq := QB.out.lt
        replace QB := Lib.hid (QB.out.later hbx)
        replace hW := below_trans hW hbx
        replace f1 := cell_later hbx f1
        replace f2 := cell_later hbx f2
        clear hbx
        have a1 := Ba.cell 0; have a2 := Ba.cell 1; have a3 := Bb.cell 0; have a4 := Bb.cell 1; have a5 := Bc.cell 0; have a6 := Bc.cell 1
        simp at a1 a2 a3 a4 a5 a6
        go_wp2_with fail
        refine (cross93 p0 p1 p2 _ B1.out B2.out B3.out).mono ?_
        rintro e w4 ⟨rfl, hb4⟩
        replace hW := below_trans hW hb4
        replace f1 := cell_later hb4 f1; replace f2 := cell_later hb4 f2; replace a1 := cell_later hb4 a1; replace a2 := cell_later hb4 a2; replace a3 := cell_later hb4 a3; replace a4 := cell_later hb4 a4; replace a5 := cell_later hb4 a5; replace a6 := cell_later hb4 a6
        replace QB := Lib.hid (QB.out.later hb4); replace Ba := Ba.later hb4; replace Bb := Bb.later hb4; replace Bc := Bc.later hb4
        clear hb4
        by_cases z : crZ p0 p1 p2 = 0
        · have hd : (crZ p0 p1 p2 == 0) = true := by simpa using z
          have HZ := Lib.hid z
          clear z Ba Bb Bc
          go_wp2
          go_ret
          exact ⟨ret_int (by rw [HE.out]; unfold tri3Z; rw [if_pos HZ.out]), hW⟩
        have hd : (crZ p0 p1 p2 == 0) = false := by simpa using z
        have HZ := Lib.hid z
        clear z
        by_cases ng : crZ p0 p1 p2 < 0
        · have HT := Lib.hid (show tri3Z p0 p1 p2 q = sgn (min (crZ p0 p2 q) (min (crZ p2 p1 q) (crZ p1 p0 q))) by unfold tri3Z; rw [if_neg HZ.out, if_pos ng])
          have z1 := Bb.frozen 0; have z2 := Bb.frozen 1; have z3 := Bc.frozen 0; have z4 := Bc.frozen 1
          have K := Lib.hid (And.intro Ba (And.intro Bb Bc))
          clear Ba Bb Bc
          go_upto_region 9 with fail
          have b1 := (K.out.1.far2 (k := gb) nab (iv p2.x) (iv p2.y)).far2 (k := gc) nac (iv p1.x) (iv p1.y)
          have b2 := (K.out.2.1.set2 (iv p2.x) (iv p2.y)).far2 (k := gc) nbc (iv p1.x) (iv p1.y)
          have b3 := (K.out.2.2.far2 (k := gb) (fun e => nbc e.symm) (iv p2.x) (iv p2.y)).set2 (iv p1.x) (iv p1.y)
          have hW4 := below_set2 (g := gc) (below_set2 (g := gb) hW (by omega) (iv p2.x) (iv p2.y)) (by omega) (iv p1.x) (iv p1.y)
          have q1 := QB.out
          have b4 := (q1.far2 (k := gb) (by omega) (iv p2.x) (iv p2.y)).far2 (k := gc) (by omega) (iv p1.x) (iv p1.y)
          clear K z1 z2 z3 z4 a1 a2 a3 a4 a5 a6 f1 f2 q1
          revert b1 b2 b3 b4 hW4
          generalize ((((w4.setCell ⟨gb, 0, none⟩ (iv p2.x)).setCell ⟨gb, 1, none⟩ (iv p2.y)).setCell ⟨gc, 0, none⟩ (iv p1.x)).setCell ⟨gc, 1, none⟩ (iv p1.y)) = W4
          intro b1 b2 b3 hW4 b4
          have f1 := b4.cell 0; have f2 := b4.cell 1; have a1 := b1.cell 0; have a2 := b1.cell 1; have a3 := b2.cell 0; have a4 := b2.cell 1; have a5 := b3.cell 0; have a6 := b3.cell 1
          simp at f1 f2 a1 a2 a3 a4 a5 a6
          clear b1 b2 b3 b4
          go_region_held3 (fun w5 => Below w.heap.size w w5 ∧ w5.cell? ⟨w.heap.size, 0, none⟩ = some (iv q.x) ∧ w5.cell? ⟨w.heap.size, 1, none⟩ = some (iv q.y) ∧ w5.cell? ⟨ga, 0, none⟩ = some (iv p0.x) ∧ w5.cell? ⟨ga, 1, none⟩ = some (iv p0.y) ∧ w5.cell? ⟨gb, 0, none⟩ = some (iv p2.x) ∧ w5.cell? ⟨gb, 1, none⟩ = some (iv p2.y) ∧ w5.cell? ⟨gc, 0, none⟩ = some (iv p1.x) ∧ w5.cell? ⟨gc, 1, none⟩ = some (iv p1.y))
            (first | exact ⟨hW4.drew, f1, f2, a1, a2, a3, a4, a5, a6⟩ | assumption | (go_split_ands; refine ⟨below_trans (by assumption) hbq, ?_, ?_, ?_, ?_, ?_, ?_, ?_, ?_⟩ <;> exact cell_later hbq (by assumption)))
            (first | (go_at_call 93; refine (cross93 _ _ _ _ ?_ ?_ ?_).mono ?_; (first | exact B1.out | exact B2.out | exact B3.out); (first | exact B1.out | exact B2.out | exact B3.out); (exact B0.out); rintro e w' ⟨rfl, hbq⟩))
          go_split_ands
          generalize hm : min (crZ p0 p2 q) (min (crZ p2 p1 q) (crZ p1 p0 q)) = m at *
          clear hm
          by_cases c1 : 0 < m
          · go_wp2
            go_ret
            exact ⟨ret_int (by rw [HE.out, HT.out, sgn_pos c1]), by assumption⟩
          by_cases c2 : m = 0
          · have hd2 : (m == 0) = true := by simpa using c2
            have HC2 := Lib.hid c2
            clear c2
            go_wp2
            go_ret
            exact ⟨ret_int (by rw [HE.out, HT.out, sgn_zero HC2.out]), by assumption⟩
          · have hd2 : (m == 0) = false := by simpa using c2
            go_wp2
            go_ret
            exact ⟨ret_int (by rw [HE.out, HT.out, sgn_neg (by omega)]), by assumption⟩
        · have HT := Lib.hid (show tri3Z p0 p1 p2 q = sgn (min (crZ p0 p1 q) (min (crZ p1 p2 q) (crZ p2 p0 q))) by unfold tri3Z; rw [if_neg HZ.out, if_neg ng])
          have hW4 := hW
          clear Ba Bb Bc
          go_upto_region 9 with fail
          go_region_held3 (fun w5 => Below w.heap.size w w5 ∧ w5.cell? ⟨w.heap.size, 0, none⟩ = some (iv q.x) ∧ w5.cell? ⟨w.heap.size, 1, none⟩ = some (iv q.y) ∧ w5.cell? ⟨ga, 0, none⟩ = some (iv p0.x) ∧ w5.cell? ⟨ga, 1, none⟩ = some (iv p0.y) ∧ w5.cell? ⟨gb, 0, none⟩ = some (iv p1.x) ∧ w5.cell? ⟨gb, 1, none⟩ = some (iv p1.y) ∧ w5.cell? ⟨gc, 0, none⟩ = some (iv p2.x) ∧ w5.cell? ⟨gc, 1, none⟩ = some (iv p2.y))
            (first | exact ⟨hW4.drew, f1, f2, a1, a2, a3, a4, a5, a6⟩ | assumption | (go_split_ands; refine ⟨below_trans (by assumption) hbq, ?_, ?_, ?_, ?_, ?_, ?_, ?_, ?_⟩ <;> exact cell_later hbq (by assumption)))
            (first | (go_at_call 93; refine (cross93 _ _ _ _ ?_ ?_ ?_).mono ?_; (first | exact B1.out | exact B2.out | exact B3.out); (first | exact B1.out | exact B2.out | exact B3.out); (exact B0.out); rintro e w' ⟨rfl, hbq⟩))
          go_split_ands
          generalize hm : min (crZ p0 p1 q) (min (crZ p1 p2 q) (crZ p2 p0 q)) = m at *
          clear hm
          by_cases c1 : 0 < m
          · go_wp2
            go_ret
            exact ⟨ret_int (by rw [HE.out, HT.out, sgn_pos c1]), by assumption⟩
          by_cases c2 : m = 0
          · have hd2 : (m == 0) = true := by simpa using c2
            have HC2 := Lib.hid c2
            clear c2
            go_wp2
            go_ret
            exact ⟨ret_int (by rw [HE.out, HT.out, sgn_zero HC2.out]), by assumption⟩
          · have hd2 : (m == 0) = false := by simpa using c2
            go_wp2
            go_ret
            exact ⟨ret_int (by rw [HE.out, HT.out, sgn_neg (by omega)]), by assumption⟩
end Go.Proofs.Ytfgeengdmbabhaa

namespace Go.Proofs.Ytfgeengdmbabhaa
open Go.RowKit
attribute [local go_sem ↓] Go.wp_at_zero Go.wp_at_succ

theorem alloc1_cell {w : World} {a : Addr} {x : Value} (g : w.cell? a = some x) : ∀ o1 : Obj, (w.alloc o1).cell? a = some x := fun o1 => cell_later (below_alloc w o1) g

/-- the corner at a vertex -/
def cA (l : List Z2) (i : Nat) : Z2 := pt l ((i + l.length - 1) % l.length)
def cC (l : List Z2) (i : Nat) : Z2 := pt l ((i + 1) % l.length)
theorem bendZ_corner (l : List Z2) (i : Nat) : bendZ l i = crZ (cA l i) (pt l i) (cC l i) := rfl

/-- the captured slice -/
structure Left (w : World) (g : Nat) (l : List Z2) : Prop where
  cell : ∃ A c, w.cell? ⟨g, 0, none⟩ = some (.slice A l.length c) ∧ Sp w A l ∧ l.length ≤ c
theorem Left.later {w w' : World} {g : Nat} {l : List Z2} (h : Left w g l) (hb : Below w.heap.size w w') : Left w' g l := by
  obtain ⟨A, c, h1, h2, h3⟩ := h.cell
  exact ⟨A, c, cell_later hb h1, h2.later hb, h3⟩

set_option maxRecDepth 100000 in
set_option maxHeartbeats 4000000 in
/-- the closure 'corner' -/
theorem corner91 (g : Nat) (l : List Z2) (i : Nat) (w : World) (hL : Left w g l) (hi : i < l.length) (hn : l.length ≤ 1000000) :
    Calls Try.prog 91 #[iv i, .pointer (some ⟨g, 0, none⟩)] w fun e w' => e = .returned (.tuple #[sv (cA l i), sv (pt l i), sv (cC l i)]) ∧ Below w.heap.size w w' := by
  obtain ⟨A, c, hg, hsp, hcap⟩ := hL.cell
  clear hL
  have hne : l ≠ [] := by intro h; simp [h] at hi
  have hp : 0 < l.length := by omega
  obtain ⟨b, off, rfl, hc⟩ := hsp hne
  have l1 : (i + 1) % l.length < l.length := Nat.mod_lt _ hp
  have l2 : (i + l.length - 1) % l.length < l.length := Nat.mod_lt _ hp
  obtain ⟨g1, g2⟩ := hc i hi
  obtain ⟨g3, g4⟩ := hc _ l1
  obtain ⟨g5, g6⟩ := hc _ l2
  have m1 := mod_one i l.length
  have m2 := modN (k := i) (n := l.length) hp
  have HE := Lib.hid (And.intro (show cA l i = pt l ((i + l.length - 1) % l.length) from rfl) (show cC l i = pt l ((i + 1) % l.length) from rfl))
  generalize e1 : (i + 1) % l.length = k1 at *
  generalize e2 : (i + l.length - 1) % l.length = k2 at *
  clear e1 e2 hc hsp
  have q1 : (0 : Int) ≤ (k2 : Int) := by omega
  have q2 : (k2 : Int) < (l.length : Int) := by omega
  have q5 : (0 : Int) ≤ (k1 : Int) := by omega
  have q6 : (k1 : Int) < (l.length : Int) := by omega
  have q7 : (0 : Int) ≤ (i : Int) := by omega
  have q8 : (i : Int) < (l.length : Int) := by omega
  have q3 : ((l.length : Int) == 0) = false := beq_eq_false_iff_ne.2 (by omega)
  have q4 : ¬ ((l.length : Int) = 0) := by omega
  have t1 : ((i : Int) + 1).tmod (l.length : Int) = (k1 : Int) := by rw [Int.tmod_eq_emod_of_nonneg (by omega)]; exact m1
  have t2 : ((i : Int) + (l.length : Int) - 1).tmod (l.length : Int) = (k2 : Int) := by rw [Int.tmod_eq_emod_of_nonneg (by omega)]; exact m2
  clear m1 m2
  have s1 : IntKind.i64.wrap ((i : Int) + 1) = (i : Int) + 1 := IntWalk.i64_in _ (by omega)
  have s2 : IntKind.i64.wrap ((i : Int) + (l.length : Int)) = (i : Int) + (l.length : Int) := IntWalk.i64_in _ (by omega)
  have s3 : IntKind.i64.wrap ((i : Int) + (l.length : Int) - 1) = (i : Int) + (l.length : Int) - 1 := IntWalk.i64_in _ (by omega)
  have nb : b < w.heap.size := World.block_lt_of_cell? _ _ g1
  have ng : g < w.heap.size := World.block_lt_of_cell? _ _ hg
  go_enter Try.func91, Try.ntmps91
  go_upto_region 1 with fail
  have F := three_new w 30 #[iv 0, iv 0] #[iv 0, iv 0] #[iv 0, iv 0]
  revert F
  generalize (((w.alloc (.cells #[iv 0, iv 0] 30)).alloc (.cells #[iv 0, iv 0] 30)).alloc (.cells #[iv 0, iv 0] 30)) = W
  rintro ⟨B1, B2, B3, hW⟩
  replace g1 := cell_later hW g1; replace g2 := cell_later hW g2; replace g3 := cell_later hW g3; replace g4 := cell_later hW g4; replace g5 := cell_later hW g5; replace g6 := cell_later hW g6
  replace hg := cell_later hW hg
  generalize hh0 : w.heap.size = h0 at *
  generalize hh1 : h0 + 1 = h1 at *
  generalize hh2 : h1 + 1 = h2 at *
  have n1 : g ≠ h0 := by omega
  have n2 : g ≠ h1 := by omega
  have n3 : g ≠ h2 := by omega
  have n4 : b ≠ h0 := by omega
  have n5 : b ≠ h1 := by omega
  have n6 : b ≠ h2 := by omega
  have n7 : h0 ≠ h1 := by omega
  have n8 : h0 ≠ h2 := by omega
  have n9 : h1 ≠ h2 := by omega
  have f1 := B1.cell 0; have f2 := B1.cell 1; have f3 := B2.cell 0; have f4 := B2.cell 1; have f5 := B3.cell 0; have f6 := B3.cell 1
  have z1 := B1.frozen 0; have z2 := B1.frozen 1; have z3 := B2.frozen 0; have z4 := B2.frozen 1; have z5 := B3.frozen 0; have z6 := B3.frozen 1
  simp at f1 f2 f3 f4 f5 f6
  have K := Lib.hid (And.intro B1 (And.intro B2 (And.intro B3 hW)))
  clear B1 B2 B3 hW
  go_wp2_with fail
  go_region
  go_wp2_with fail
  clear f1 f2 f3 f4 f5 f6 z1 z2 z3 z4 z5 z6
  have c1 := ((K.out.1.set2 (iv (pt l k2).x) (iv (pt l k2).y)).far2 n7 (iv (pt l i).x) (iv (pt l i).y)).far2 n8 (iv (pt l k1).x) (iv (pt l k1).y)
  have c2 := ((K.out.2.1.far2 (fun e => n7 e.symm) (iv (pt l k2).x) (iv (pt l k2).y)).set2 (iv (pt l i).x) (iv (pt l i).y)).far2 n9 (iv (pt l k1).x) (iv (pt l k1).y)
  have c3 := ((K.out.2.2.1.far2 (fun e => n8 e.symm) (iv (pt l k2).x) (iv (pt l k2).y)).far2 (fun e => n9 e.symm) (iv (pt l i).x) (iv (pt l i).y)).set2 (iv (pt l k1).x) (iv (pt l k1).y)
  have hB := K.out.2.2.2
  rw [← hh0] at hB
  have c4 := below_set2 (g := h2) (below_set2 (g := h1) (below_set2 (g := h0) hB (by omega) (iv (pt l k2).x) (iv (pt l k2).y)) (by omega) (iv (pt l i).x) (iv (pt l i).y)) (by omega) (iv (pt l k1).x) (iv (pt l k1).y)
  clear hB K
  revert c1 c2 c3 c4
  generalize ((((((W.setCell ⟨h0, 0, none⟩ (iv (pt l k2).x)).setCell ⟨h0, 1, none⟩ (iv (pt l k2).y)).setCell ⟨h1, 0, none⟩ (iv (pt l i).x)).setCell ⟨h1, 1, none⟩ (iv (pt l i).y)).setCell ⟨h2, 0, none⟩ (iv (pt l k1).x)).setCell ⟨h2, 1, none⟩ (iv (pt l k1).y)) = W2
  intro c1 c2 c3 c4
  have r0 := c1.cell 0; have r1 := c1.cell 1; have r2 := c2.cell 0; have r3 := c2.cell 1; have r4 := c3.cell 0; have r5 := c3.cell 1
  simp at r0 r1 r2 r3 r4 r5
  refine bodyPost_ret (v := .tuple #[sv (pt l k2), sv (pt l i), sv (pt l k1)]) ?_ rfl ?_
  · simp [results, Try.results91, go_sem, r0, r1, r2, r3, r4, r5]
  · rw [HE.out.1, HE.out.2]
    exact ⟨rfl, c4.drew⟩

/-- the cells of the closures -/
structure Env (w : World) (gl gc : Nat) (l : List Z2) : Prop where
  left : Left w gl l
  corner : w.cell? ⟨gc, 0, none⟩ = some (.func (.func 91) #[] #[.pointer (some ⟨gl, 0, none⟩)])
theorem Env.later {w w' : World} {gl gc : Nat} {l : List Z2} (h : Env w gl gc l) (hb : Below w.heap.size w w') : Env w' gl gc l := ⟨h.left.later hb, cell_later hb h.corner⟩

def flatZ (l : List Z2) (i : Nat) : Bool := decide (bendZ l i = 0)
set_option maxHeartbeats 1000000 in
/-- the closure 'straight' -/
theorem straight92 (gl gc : Nat) (l : List Z2) (i : Nat) (w : World) (hE : Env w gl gc l) (hi : i < l.length) (hn : l.length ≤ 1000000) (hbd : ∀ p ∈ l, Bd p) :
    Calls Try.prog 92 #[iv i, .pointer (some ⟨gc, 0, none⟩)] w fun e w' => e = .returned (.bool (flatZ l i)) ∧ Below w.heap.size w w' := by
  have HE := Lib.hid hE
  have HD := Lib.hid hbd
  have hc := hE.corner
  clear hE hbd
  go_enter Try.func92, Try.ntmps92
  go_wp2_with fail
  refine (corner91 gl l i _ HE.out.left hi hn).mono ?_
  rintro e w1 ⟨rfl, hb1⟩
  go_wp2_with fail
  refine (cross93 (cA l i) (pt l i) (cC l i) _ (bd_pt HD.out _) (bd_pt HD.out _) (bd_pt HD.out _)).mono ?_
  rintro e w2 ⟨rfl, hb2⟩
  go_wp2
  go_ret
  refine ⟨ret_bool ?_, below_trans hb1 hb2⟩
  rw [Bool.eq_iff_iff]
  unfold flatZ
  rw [bendZ_corner, decide_eq_true_eq]
  simp

def blockZ (l : List Z2) (i : Nat) (q : Z2) : Bool := !eqZ q (cA l i) && !eqZ q (pt l i) && !eqZ q (cC l i) && decide (0 ≤ holdsZ [cA l i, pt l i, cC l i] q)
def freeZ (l : List Z2) (i : Nat) : Bool := decide (0 < bendZ l i) && !l.any (blockZ l i)
theorem freeZ_no {l : List Z2} {i j : Nat} (hj : j < l.length) (h : blockZ l i (pt l j) = true) : freeZ l i = false := by
  have : l.any (blockZ l i) = true := List.any_eq_true.2 ⟨_, pt_mem hj, h⟩
  unfold freeZ; rw [this]; simp
theorem freeZ_yes {l : List Z2} {i : Nat} (h0 : 0 < bendZ l i) (h : ∀ j, j < l.length → blockZ l i (pt l j) = false) : freeZ l i = true := by
  have : l.any (blockZ l i) = false := List.any_eq_false.2 fun x hx => by
    obtain ⟨j, hj, rfl⟩ := List.getElem_of_mem hx
    have := h j hj
    rw [pt_eq hj] at this
    simp [this]
  unfold freeZ; rw [this]; simp [h0]

set_option maxRecDepth 100000 in
set_option maxHeartbeats 4000000 in
/-- the closure 'free' -/
theorem free94 (gl gc : Nat) (l : List Z2) (i : Nat) (w : World) (hE : Env w gl gc l) (hi : i < l.length) (hn : l.length ≤ 1000000) (hbd : ∀ p ∈ l, Bd p) :
    Calls Try.prog 94 #[iv i, .pointer (some ⟨gc, 0, none⟩), .pointer (some ⟨gl, 0, none⟩)] w fun e w' => e = .returned (.bool (freeZ l i)) ∧ Below w.heap.size w w' := by
  have HE := Lib.hid hE
  have HD := Lib.hid hbd
  have hc := hE.corner
  clear hE hbd
  go_enter Try.func94, Try.ntmps94
  go_wp2_with fail
  refine (corner91 gl l i _ HE.out.left hi hn).mono ?_
  rintro e w1 ⟨rfl, hb1⟩
  replace HE := Lib.hid (HE.out.later hb1)
  have HW := Lib.hid hb1
  clear hb1 hc
  have BA := Lib.hid (bd_pt HD.out ((i + l.length - 1) % l.length)); have BB := Lib.hid (bd_pt HD.out i); have BC := Lib.hid (bd_pt HD.out ((i + 1) % l.length))
  have HBE := Lib.hid (bendZ_corner l i)
  have HBK := Lib.hid (show ∀ q, blockZ l i q = (!eqZ q (cA l i) && !eqZ q (pt l i) && !eqZ q (cC l i) && decide (0 ≤ holdsZ [cA l i, pt l i, cC l i] q)) from fun q => rfl)
  change Hid (Bd (cA l i)) at BA
  change Hid (Bd (cC l i)) at BC
  generalize hpa : cA l i = a at *
  generalize hpb : pt l i = b at *
  generalize hpc : cC l i = c at *
  clear hpa hpb hpc
  go_upto_region 2 with fail
  have F := boxes3 w1 a b c
  revert F
  generalize (((w1.alloc (.cells #[iv a.x, iv a.y] 30)).alloc (.cells #[iv b.x, iv b.y] 30)).alloc (.cells #[iv c.x, iv c.y] 30)) = W
  rintro ⟨hW, f1, f2, f3, f4, f5, f6⟩
  replace HE := Lib.hid (HE.out.later hW)
  replace HW := Lib.hid (below_trans HW.out hW)
  clear hW
  generalize w1.heap.size = h0 at *
  go_wp2_with fail
  refine (cross93 a b c _ BA.out BB.out BC.out).mono ?_
  rintro e w2 ⟨rfl, hb⟩
  replace HE := Lib.hid (HE.out.later hb)
  replace HW := Lib.hid (below_trans HW.out hb)
  replace f1 := cell_later hb f1; replace f2 := cell_later hb f2; replace f3 := cell_later hb f3; replace f4 := cell_later hb f4; replace f5 := cell_later hb f5; replace f6 := cell_later hb f6
  clear hb
  by_cases hz : crZ a b c ≤ 0
  · have HZ := Lib.hid hz
    go_wp2
    go_ret
    refine ⟨ret_bool ?_, HW.out⟩
    have : ¬ 0 < bendZ l i := by rw [HBE.out]; have := HZ.out; omega
    unfold freeZ; simp [this]
  · have HZ := Lib.hid (show 0 < bendZ l i by rw [HBE.out]; omega)
    obtain ⟨A, cap, hg, hsp, hcap⟩ := HE.out.left.cell
    have HS := Lib.hid hsp
    clear hsp
    go_wp2_with fail
    clear hz
    go_loopw [24] (fun v wr => ∃ k : Nat, k ≤ l.length ∧ v = .int .i64 k ∧ (∀ j, j < k → blockZ l i (pt l j) = false) ∧ Below w2.heap.size w2 wr ∧ wr.cell? ⟨h0, 0, none⟩ = some (iv a.x) ∧ wr.cell? ⟨h0, 1, none⟩ = some (iv a.y) ∧ wr.cell? ⟨h0 + 1, 0, none⟩ = some (iv b.x) ∧ wr.cell? ⟨h0 + 1, 1, none⟩ = some (iv b.y) ∧ wr.cell? ⟨h0 + 1 + 1, 0, none⟩ = some (iv c.x) ∧ wr.cell? ⟨h0 + 1 + 1, 1, none⟩ = some (iv c.y)) (fun v _ => l.length - (intOf v).toNat)
    case atStart => exact ⟨0, Nat.zero_le _, rfl, fun j hj => absurd hj (by omega), Below.refl _ _, f1, f2, f3, f4, f5, f6⟩
    case round =>
      clear f1 f2 f3 f4 f5 f6 hg
      obtain ⟨k, hk, rfl, hno, hB, f1, f2, f3, f4, f5, f6⟩ := hrel
      have HN := Lib.hid hno
      clear hno
      by_cases hlt : k < l.length
      · have hne : l ≠ [] := by intro h; simp [h] at hlt
        obtain ⟨bb, off, rfl, hc⟩ := HS.out.later hB hne
        obtain ⟨g1, g2⟩ := hc k hlt
        clear hc
        go_upto_region 7 with fail
        have F := boxes1 wr (pt l k)
        have nh : h0 + 1 + 1 < wr.heap.size := World.block_lt_of_cell? _ _ f5
        revert F
        generalize wr.alloc (.cells #[iv (pt l k).x, iv (pt l k).y] 30) = W3
        rintro ⟨hW3, f7, f8⟩
        have hB3 := hB.trans (hW3.mono hB.size)
        replace f1 := cell_later hW3 f1; replace f2 := cell_later hW3 f2; replace f3 := cell_later hW3 f3; replace f4 := cell_later hW3 f4; replace f5 := cell_later hW3 f5; replace f6 := cell_later hW3 f6
        clear hW3 g1 g2
        generalize wr.heap.size = h9 at *
        have HBQ := Lib.hid (HBK.out (pt l k))
        generalize hq : pt l k = q at *
        have HQ := Lib.hid hq
        clear hq
        cases e1 : eqZ q a
        case true =>
          have he : ∀ w, (binOp .neq 30 (sv q) (sv a)).run Try.prog w = .ok (.bool false) w := fun w => by rw [neq30, e1]; rfl
          have HX := Lib.hid e1
          clear e1
          go_wp2_with fail
          go_roundw
          case rel =>
            refine ⟨k + 1, by omega, by go_num, fun j hj => ?_, hB3, f1, f2, f3, f4, f5, f6⟩
            by_cases e : j = k
            · subst e; rw [HQ.out, HBQ.out, HX.out]; rfl
            · exact HN.out j (by omega)
          case measure => simp [intOf]; omega
        case false =>
        have he1 : ∀ w, (binOp .neq 30 (sv q) (sv a)).run Try.prog w = .ok (.bool true) w := fun w => by rw [neq30, e1]; rfl
        have HX1 := Lib.hid e1
        clear e1
        cases e2 : eqZ q b
        case true =>
          have he : ∀ w, (binOp .neq 30 (sv q) (sv b)).run Try.prog w = .ok (.bool false) w := fun w => by rw [neq30, e2]; rfl
          have HX := Lib.hid e2
          clear e2
          go_wp2_with fail
          go_roundw
          case rel =>
            refine ⟨k + 1, by omega, by go_num, fun j hj => ?_, hB3, f1, f2, f3, f4, f5, f6⟩
            by_cases e : j = k
            · subst e; rw [HQ.out, HBQ.out, HX.out]; simp
            · exact HN.out j (by omega)
          case measure => simp [intOf]; omega
        case false =>
        have he2 : ∀ w, (binOp .neq 30 (sv q) (sv b)).run Try.prog w = .ok (.bool true) w := fun w => by rw [neq30, e2]; rfl
        have HX2 := Lib.hid e2
        clear e2
        cases e3 : eqZ q c
        case true =>
          have he : ∀ w, (binOp .neq 30 (sv q) (sv c)).run Try.prog w = .ok (.bool false) w := fun w => by rw [neq30, e3]; rfl
          have HX := Lib.hid e3
          clear e3
          go_wp2_with fail
          go_roundw
          case rel =>
            refine ⟨k + 1, by omega, by go_num, fun j hj => ?_, hB3, f1, f2, f3, f4, f5, f6⟩
            by_cases e : j = k
            · subst e; rw [HQ.out, HBQ.out, HX.out]; simp
            · exact HN.out j (by omega)
          case measure => simp [intOf]; omega
        case false =>
        have he3 : ∀ w, (binOp .neq 30 (sv q) (sv c)).run Try.prog w = .ok (.bool true) w := fun w => by rw [neq30, e3]; rfl
        have HX3 := Lib.hid e3
        clear e3
        have d7 := alloc1_cell f7
        have d8 := alloc1_cell f8
        go_wp2_with fail
        have hb6 := below_alloc W3 (.cells (flat [a, b, c]).toArray 30)
        have hs6 := (Blk.new W3 30 (flat [a, b, c]).toArray).sp
        simp only [flat] at hb6 hs6
        refine (holds60 (some ⟨W3.heap.size, 0, none⟩) 3 3 [a, b, c] q _ rfl hs6).mono ?_
        rintro e w6 ⟨rfl, hb⟩
        have hb7 := below_trans hb6 hb
        have hB6 := hB3.trans (hb7.mono hB3.size)
        replace f1 := cell_later hb7 f1; replace f2 := cell_later hb7 f2; replace f3 := cell_later hb7 f3; replace f4 := cell_later hb7 f4; replace f5 := cell_later hb7 f5; replace f6 := cell_later hb7 f6
        clear hb hb6 hb7 hs6 he1 he2 he3 f7 f8 d7 d8
        by_cases hh : 0 ≤ holdsZ [a, b, c] q
        · have HH := Lib.hid hh
          go_wp2
          go_ret
          refine ⟨ret_bool (freeZ_no (j := k) hlt ?_).symm, below_trans HW.out hB6⟩
          rw [HQ.out, HBQ.out, HX1.out, HX2.out, HX3.out, decide_eq_true HH.out]; rfl
        · have HH := Lib.hid hh
          go_wp2
          go_roundw
          case rel =>
            refine ⟨k + 1, by omega, by go_num, fun j hj => ?_, hB6, f1, f2, f3, f4, f5, f6⟩
            by_cases e : j = k
            · subst e; rw [HQ.out, HBQ.out, decide_eq_false (by have := HH.out; omega)]; simp
            · exact HN.out j (by omega)
          case measure => simp [intOf]; omega
      · obtain rfl : k = l.length := by omega
        go_wp2
        go_ret
        exact ⟨ret_bool (freeZ_yes HZ.out HN.out).symm, below_trans HW.out hB⟩
/-- the least number below n that passes a test, -1 if there is none -/
def firstZ (n : Nat) (f : Nat → Bool) : Int := match (List.range n).find? f with | some i => i | none => -1
theorem firstZ_at {n i : Nat} {f : Nat → Bool} (hi : i < n) (h : f i = true) (hno : ∀ j, j < i → f j = false) : firstZ n f = i := by
  have : (List.range n).find? f = some i := by
    rw [List.find?_range_eq_some]
    exact ⟨h, by simpa using hi, fun j hj => by simp [hno j hj]⟩
  unfold firstZ; rw [this]
theorem firstZ_none {n : Nat} {f : Nat → Bool} (hno : ∀ j, j < n → f j = false) : firstZ n f = -1 := by
  have : (List.range n).find? f = none := by
    rw [List.find?_eq_none]
    intro j hj
    simp [hno j (by simpa using hj)]
  unfold firstZ; rw [this]

set_option maxHeartbeats 1000000 in
/-- triangle.first with 's' -/
theorem first95s (gl gc : Nat) (l : List Z2) (w : World) (hE : Env w gl gc l) (hn : l.length ≤ 1000000) (hbd : ∀ p ∈ l, Bd p) :
    Calls Try.prog 95 #[iv l.length, .func (.func 92) #[] #[.pointer (some ⟨gc, 0, none⟩)]] w fun e w' => e = .returned (iv (firstZ l.length (flatZ l))) ∧ Below w.heap.size w w' := by
  have HE := Lib.hid hE
  have HD := Lib.hid hbd
  clear hE hbd
  go_enter Try.func95, Try.ntmps95
  go_wp2
  go_loopw [7] (fun v wr => ∃ k : Nat, k ≤ l.length ∧ v = .int .i64 k ∧ (∀ j, j < k → flatZ l j = false) ∧ Below w.heap.size w wr) (fun v _ => l.length - (intOf v).toNat)
  case atStart => exact ⟨0, Nat.zero_le _, rfl, fun j hj => absurd hj (by omega), Below.refl _ _⟩
  case round =>
    obtain ⟨k, hk, rfl, hno, hB⟩ := hrel
    have HN := Lib.hid hno
    clear hno
    by_cases hlt : k < l.length
    · go_wp2_with fail
      refine (straight92 gl gc l k _ (HE.out.later hB) hlt hn HD.out).mono ?_
      rintro e w1 ⟨rfl, hb⟩
      have hB1 := hB.trans (hb.mono hB.size)
      clear hb
      cases hz : flatZ l k
      case true =>
        have HZ := Lib.hid hz
        clear hz
        go_wp2
        go_ret
        exact ⟨ret_int (firstZ_at hlt HZ.out HN.out).symm, hB1⟩
      case false =>
        have HZ := Lib.hid hz
        clear hz
        go_wp2
        go_roundw
        case rel =>
          refine ⟨k + 1, by omega, by go_num, fun j hj => ?_, hB1⟩
          by_cases e : j = k
          · subst e; exact HZ.out
          · exact HN.out j (by omega)
        case measure => simp [intOf]; omega
    · obtain rfl : k = l.length := by omega
      go_wp2
      go_ret
      exact ⟨ret_int (firstZ_none HN.out).symm, hB⟩

set_option maxHeartbeats 1000000 in
/-- triangle.first with 'f' -/
theorem first95f (gl gc : Nat) (l : List Z2) (w : World) (hE : Env w gl gc l) (hn : l.length ≤ 1000000) (hbd : ∀ p ∈ l, Bd p) :
    Calls Try.prog 95 #[iv l.length, .func (.func 94) #[] #[.pointer (some ⟨gc, 0, none⟩), .pointer (some ⟨gl, 0, none⟩)]] w fun e w' => e = .returned (iv (firstZ l.length (freeZ l))) ∧ Below w.heap.size w w' := by
  have HE := Lib.hid hE
  have HD := Lib.hid hbd
  clear hE hbd
  go_enter Try.func95, Try.ntmps95
  go_wp2
  go_loopw [7] (fun v wr => ∃ k : Nat, k ≤ l.length ∧ v = .int .i64 k ∧ (∀ j, j < k → freeZ l j = false) ∧ Below w.heap.size w wr) (fun v _ => l.length - (intOf v).toNat)
  case atStart => exact ⟨0, Nat.zero_le _, rfl, fun j hj => absurd hj (by omega), Below.refl _ _⟩
  case round =>
    obtain ⟨k, hk, rfl, hno, hB⟩ := hrel
    have HN := Lib.hid hno
    clear hno
    by_cases hlt : k < l.length
    · go_wp2_with fail
      refine (free94 gl gc l k _ (HE.out.later hB) hlt hn HD.out).mono ?_
      rintro e w1 ⟨rfl, hb⟩
      have hB1 := hB.trans (hb.mono hB.size)
      clear hb
      cases hz : freeZ l k
      case true =>
        have HZ := Lib.hid hz
        clear hz
        go_wp2
        go_ret
        exact ⟨ret_int (firstZ_at hlt HZ.out HN.out).symm, hB1⟩
      case false =>
        have HZ := Lib.hid hz
        clear hz
        go_wp2
        go_roundw
        case rel =>
          refine ⟨k + 1, by omega, by go_num, fun j hj => ?_, hB1⟩
          by_cases e : j = k
          · subst e; exact HZ.out
          · exact HN.out j (by omega)
        case measure => simp [intOf]; omega
    · obtain rfl : k = l.length := by omega
      go_wp2
      go_ret
      exact ⟨ret_int (firstZ_none HN.out).symm, hB⟩

end Go.Proofs.Ytfgeengdmbabhaa

namespace Go.Proofs.Ytfgeengdmbabhaa
open Go.RowKit
attribute [local go_sem ↓] Go.wp_at_zero Go.wp_at_succ

theorem Try.info22 : (Try.prog.info? 22).map (fun i => (i.zero, i.size, i.bytes)) = some (some (.slice none 0 0), 1, 24) := by kernel_rfl

/-- copy of spots into a block of the call's own -/
theorem run_copy_sp (w : World) (g o dLen dCap : Nat) (a : Addr) (sLen sCap : Nat) (cur : Array Value) (cs : List Value) (hg : Blk w g 30 cur) (hn : cs.length = Nat.min sLen dLen * 2)
    (hsrc : ∀ j v, cs[j]? = some v → w.cell? (a.add j) = some v) (hfit : o + cs.length ≤ cur.size) (h1 : ∀ v ∈ cs, v.oneCell' = true) :
    (Builtin.copy_ #[22, 22] 3 #[.slice (some ⟨g, o, none⟩) dLen dCap, .slice (some a) sLen sCap]).run Try.prog w =
      .ok (goInt (Nat.min sLen dLen)) (w.setRow g (cur.toList.take o ++ cs ++ cur.toList.drop (o + cs.length)).toArray) := by
  obtain ⟨i0, hi, hz0, hz1, hz2⟩ := info_parts Try.info30
  have hl := run_loadCells_list (P := Try.prog) w a cs hsrc
  have hst := run_storeCells_at Try.prog g o 30 cs 0 cur w hg (by simpa using hfit) h1
  simp [Builtin.copy_, run_underlying Try.underlying22, Builtin.lenOf, Builtin.firstCells, sizeOf, typeInfo, hi, hz1, ← hn, hl, hst]

theorem blk_setRow {w : World} {g : Nat} {t : TypeId} {cur : Array Value} (cur' : Array Value) (h : Blk w g t cur) : Blk (w.setRow g cur') g t cur' := setRow_heap w g cur cur' t _ h
theorem far_setRow {w : World} {g k : Nat} {t : TypeId} {cur : Array Value} (cur' : Array Value) (h : Blk w k t cur) (hk : k ≠ g) : Blk (w.setRow g cur') k t cur := (setRow_other w g k cur' hk).trans h

/-- append of one slice onto a row of slices of the call's own -/
theorem append55 (w : World) (base : Nat) (v : Value) (n : Nat) (vs : List Value) (x : Value) (b1 : Nat) (hown : w.ownsRow base 22 1 v n vs) (hb : w.cell? ⟨b1, 0, none⟩ = some x) (hx : x.oneCell' = true) (hn : n ≤ 100000) (hbase : base ≤ w.heap.size) :
    ∃ v' w', (Builtin.append_ #[55, 55] 55 #[v, .slice (some ⟨b1, 0, none⟩) 1 1]).run Try.prog w = .ok v' w' ∧ w'.ownsRow base 22 1 v' (n + 1) (vs ++ [x]) ∧ w.grownBy w' v.ownBlock ∧ (v'.ownBlock = v.ownBlock ∨ v'.ownBlock = some w.heap.size) := by
  obtain ⟨i0, hi, hz0, hz1, hz2⟩ := info_parts Try.info22
  obtain ⟨v', w', h1, h2, h3, _, h5⟩ := run_append_own_at (P := Try.prog) w base 55 55 22 i0 _ 1 24 Try.underlying55 hi hz0 hz1 hz2 rfl (by omega) v n vs hown ⟨b1, 0, none⟩ 1 1 [x] rfl
    (fun j u hu => by
      cases j with
      | zero => simp at hu; subst hu; rw [add_plain]; exact hb
      | succ j => simp at hu) (fun u hu => by simp at hu; subst hu; exact hx) (by unfold maxLen; omega) (by omega) hbase
  exact ⟨v', w', h1, h2, h3, h5⟩

/-- a slice of slices that reads as a list of lists -/
def SSp (w : World) (A : Option Addr) (rs : List (List Z2)) : Prop :=
  rs ≠ [] → ∃ b off, A = some ⟨b, off, none⟩ ∧ ∀ k, k < rs.length → ∃ A' c', w.cell? ⟨b, off + k, none⟩ = some (.slice A' (rs.getD k []).length c') ∧ (rs.getD k []).length ≤ c' ∧ Sp w A' (rs.getD k [])
theorem SSp.later {w w' : World} {A : Option Addr} {rs : List (List Z2)} (h : SSp w A rs) (hb : Below w.heap.size w w') : SSp w' A rs := fun hne => by
  obtain ⟨b, off, hA, hc⟩ := h hne
  refine ⟨b, off, hA, fun k hk => ?_⟩
  obtain ⟨A', c', h1, h2, h3⟩ := hc k hk
  exact ⟨A', c', cell_later hb h1, h2, h3.later hb⟩

/-- the row of triangles that has been made so far -/
def RS (w : World) (base : Nat) (bad : List Nat) (v : Value) (rs : List (List Z2)) : Prop :=
  ∃ vs : List Value, w.ownsRow base 22 1 v rs.length vs ∧ (∀ b, v.ownBlock = some b → b ∉ bad) ∧
    ∀ k, k < rs.length → ∃ b c, vs[k]? = some (.slice (some ⟨b, 0, none⟩) (rs.getD k []).length c) ∧ (rs.getD k []).length ≤ c ∧ b ∉ bad ∧ some b ≠ v.ownBlock ∧ Sp w (some ⟨b, 0, none⟩) (rs.getD k []) ∧ b < w.heap.size
theorem RS.nil (w : World) (base : Nat) (bad : List Nat) : RS w base bad (.slice none 0 0) [] :=
  ⟨[], World.ownsRow_nil w base 22 1, fun b hb => by simp [Value.ownBlock] at hb, fun k hk => by simp at hk⟩
/-- blocks that stay -/
theorem sp_of_block {w w' : World} {b off : Nat} {l : List Z2} (h : Sp w (some ⟨b, off, none⟩) l) (hb : w'.heap[b]? = w.heap[b]?) : Sp w' (some ⟨b, off, none⟩) l := fun hne => by
  obtain ⟨b', off', hA, hc⟩ := h hne
  injection hA with hA; injection hA with h1 h2
  subst h1 h2
  exact ⟨b, off, rfl, fun k hk => ⟨(World.cell?_of_block (a := ⟨b, off + k * 2, none⟩) hb).trans (hc k hk).1, (World.cell?_of_block (a := ⟨b, off + k * 2 + 1, none⟩) hb).trans (hc k hk).2⟩⟩
theorem RS.keep {w w' : World} {base : Nat} {bad : List Nat} {v : Value} {rs : List (List Z2)} (h : RS w base bad v rs) (hs : w.heap.size ≤ w'.heap.size) (hk : ∀ b, b < w.heap.size → b ∉ bad → w'.heap[b]? = w.heap[b]?) : RS w' base bad v rs := by
  obtain ⟨vs, h1, h2, h3⟩ := h
  refine ⟨vs, ⟨h1.1, ?_⟩, h2, fun k hk' => ?_⟩
  · rcases h1.2 with h | ⟨g, cap, cur, rfl, hb, hg, hr⟩
    · exact .inl h
    · have hB : Blk w g 22 cur := hg
      exact .inr ⟨g, cap, cur, rfl, hb, (hk g hB.lt (h2 g rfl)).trans hg, hr⟩
  · obtain ⟨b, c, a1, a2, a3, a4, a5, a6⟩ := h3 k hk'
    exact ⟨b, c, a1, a2, a3, a4, sp_of_block a5 (hk b a6 a3), by omega⟩
theorem RS.later {w w' : World} {base : Nat} {bad : List Nat} {v : Value} {rs : List (List Z2)} (h : RS w base bad v rs) (hb : Below w.heap.size w w') : RS w' base bad v rs :=
  h.keep hb.size fun b hlt _ => hb.block b hlt
theorem getD_append_one {α : Type} (l : List α) (x d : α) (k : Nat) (hk : k < (l ++ [x]).length) : (l ++ [x]).getD k d = if k < l.length then l.getD k d else x := by
  by_cases h : k < l.length
  · rw [if_pos h]; simp [List.getD_eq_getElem?_getD, List.getElem?_append_left h]
  · have e : k = l.length := by simp at hk; omega
    subst e
    rw [if_neg h]; simp [List.getD_eq_getElem?_getD]
/-- one triangle more -/
theorem RS.push {w : World} {base : Nat} {bad : List Nat} {v : Value} {rs : List (List Z2)} (h : RS w base bad v rs) (t : List Z2) (b0 c0 b1 : Nat) (hc0 : t.length ≤ c0) (hb0 : b0 ∉ bad) (hb0v : some b0 ≠ v.ownBlock) (ht : Sp w (some ⟨b0, 0, none⟩) t) (hlt : b0 < w.heap.size)
    (hb1 : w.cell? ⟨b1, 0, none⟩ = some (.slice (some ⟨b0, 0, none⟩) t.length c0)) (hn : rs.length ≤ 100000) (hbase : base ≤ w.heap.size) (hbad : ∀ b ∈ bad, b < w.heap.size) :
    ∃ v' w', (Builtin.append_ #[55, 55] 55 #[v, .slice (some ⟨b1, 0, none⟩) 1 1]).run Try.prog w = .ok v' w' ∧ RS w' base bad v' (rs ++ [t]) ∧ w.grownBy w' v.ownBlock := by
  obtain ⟨vs, h1, h2, h3⟩ := h
  obtain ⟨v', w', g1, g2, g3, g4⟩ := append55 w base v rs.length vs _ b1 h1 hb1 rfl hn hbase
  have hvl : vs.length = rs.length := by have := h1.1; omega
  refine ⟨v', w', g1, ⟨_, by rw [List.length_append, List.length_singleton]; exact g2, fun b hb hbb => ?_, fun k hk => ?_⟩, g3⟩
  · rcases g4 with e | e
    · rw [e] at hb; exact h2 b hb hbb
    · rw [e] at hb; injection hb with hb; have := hbad b hbb; omega
  · have ne : ∀ b, b < w.heap.size → some b ≠ v.ownBlock → some b ≠ v'.ownBlock := fun b hlt hne => by
      rcases g4 with e | e
      · rw [e]; exact hne
      · rw [e]; intro h; injection h with h; omega
    rw [getD_append_one _ _ _ _ hk]
    by_cases hk' : k < rs.length
    · rw [if_pos hk']
      obtain ⟨b, c, a1, a2, a3, a4, a5, a6⟩ := h3 k hk'
      exact ⟨b, c, by rw [List.getElem?_append_left (by omega)]; exact a1, a2, a3, ne b a6 a4, sp_of_block a5 (g3.block b a6 a4), Nat.lt_of_lt_of_le a6 g3.size⟩
    · rw [if_neg hk']
      have e : k = rs.length := by simp at hk; omega
      subst e
      exact ⟨b0, c0, by rw [List.getElem?_append_right (by omega), hvl]; simp, hc0, hb0, ne b0 hlt hb0v, sp_of_block ht (g3.block b0 hlt hb0v), Nat.lt_of_lt_of_le hlt g3.size⟩
/-- the last triangle -/
theorem RS.last {w : World} {base : Nat} {bad : List Nat} {v : Value} {rs : List (List Z2)} (h : RS w base bad v rs) (t : List Z2) (b0 c0 b1 : Nat) (hc0 : t.length ≤ c0) (hb0v : some b0 ≠ v.ownBlock) (ht : Sp w (some ⟨b0, 0, none⟩) t) (hlt : b0 < w.heap.size)
    (hb1 : w.cell? ⟨b1, 0, none⟩ = some (.slice (some ⟨b0, 0, none⟩) t.length c0)) (hn : rs.length ≤ 100000) (hbase : base ≤ w.heap.size) :
    ∃ A c w', (Builtin.append_ #[55, 55] 55 #[v, .slice (some ⟨b1, 0, none⟩) 1 1]).run Try.prog w = .ok (.slice A (rs ++ [t]).length c) w' ∧ SSp w' A (rs ++ [t]) ∧ w.grownBy w' v.ownBlock ∧ (rs ++ [t]).length ≤ c := by
  obtain ⟨vs, h1, h2, h3⟩ := h
  obtain ⟨v', w', g1, g2, g3, g4⟩ := append55 w base v rs.length vs _ b1 h1 hb1 rfl hn hbase
  have hvl : vs.length = rs.length := by have := h1.1; omega
  rcases g2.2 with ⟨_, hz⟩ | ⟨g, cap, cur, rfl, hb, hg, hnc, _, _, htake⟩
  · omega
  · refine ⟨_, cap, w', by rw [List.length_append, List.length_singleton]; exact g1, fun _ => ⟨g, 0, rfl, fun k hk => ?_⟩, g3, by rw [List.length_append, List.length_singleton]; exact hnc⟩
    have hB : Blk w' g 22 cur := hg
    have hcell : w'.cell? ⟨g, 0 + k, none⟩ = (vs ++ [.slice (some ⟨b0, 0, none⟩) t.length c0])[k]? := by
      rw [Nat.zero_add, hB.cell, ← htake, List.getElem?_take, if_pos (by simp at hk; omega)]
      simp
    rw [hcell, getD_append_one _ _ _ _ hk]
    by_cases hk' : k < rs.length
    · rw [if_pos hk']
      obtain ⟨b, c, a1, a2, a3, a4, a5, a6⟩ := h3 k hk'
      exact ⟨_, c, by rw [List.getElem?_append_left (by omega)]; exact a1, a2, sp_of_block a5 (g3.block b a6 a4)⟩
    · rw [if_neg hk']
      have e : k = rs.length := by simp at hk; omega
      subst e
      exact ⟨_, c0, by rw [List.getElem?_append_right (by omega), hvl]; simp, hc0, sp_of_block ht (g3.block b0 hlt hb0v)⟩

/-- the loop of Split -/
def splitG : Nat → List Z2 → List (List Z2) → Option (List (List Z2))
  | 0, l, r => some (r ++ [l])
  | fuel + 1, l, r =>
    if l.length ≤ 3 then some (r ++ [l])
    else if 0 ≤ firstZ l.length (flatZ l) then splitG fuel (l.eraseIdx (firstZ l.length (flatZ l)).toNat) r
    else if 0 ≤ firstZ l.length (freeZ l) then splitG fuel (l.eraseIdx (firstZ l.length (freeZ l)).toNat) (r ++ [[cA l (firstZ l.length (freeZ l)).toNat, pt l (firstZ l.length (freeZ l)).toNat, cC l (firstZ l.length (freeZ l)).toNat]])
    else none
/-- what Split returns -/
def splitZ (ps : List Z2) : List (List Z2) := if chkZ ps = 0 then (splitG (normZ ps).length (normZ ps) []).getD [] else []
def splitE (ps : List Z2) : Int := if chkZ ps = 0 then (if (splitG (normZ ps).length (normZ ps) []).isSome then 0 else 11) else chkZ ps
def RetSS (rs : List (List Z2)) (n : Int) (w : World) (e : Ending) (w' : World) : Prop := ∃ A c, e = .returned (.tuple #[.slice A rs.length c, iv n]) ∧ rs.length ≤ c ∧ SSp w' A rs ∧ Below w.heap.size w w'

theorem firstZ_cases (n : Nat) (f : Nat → Bool) : (∃ i, i < n ∧ firstZ n f = i ∧ f i = true ∧ ∀ j, j < i → f j = false) ∨ (firstZ n f = -1 ∧ ∀ j, j < n → f j = false) := by
  unfold firstZ
  cases h : (List.range n).find? f with
  | none =>
    right
    refine ⟨rfl, fun j hj => ?_⟩
    have := List.find?_eq_none.1 h j (by simpa using hj)
    simpa using this
  | some i =>
    left
    rw [List.find?_range_eq_some] at h
    exact ⟨i, by simpa using h.2.1, rfl, h.1, fun j hj => by have := h.2.2 j hj; simpa using this⟩

/-- the state of the loop -/
structure Lp (wr : World) (gl gc gD cap : Nat) (l : List Z2) : Prop where
  data : ∃ rest, Blk wr gD 30 (flat l ++ rest).toArray ∧ (flat l ++ rest).length = cap * 2
  var : Blk wr gl 22 #[.slice (some ⟨gD, 0, none⟩) l.length cap]
  cor : Blk wr gc 81 #[.func (.func 91) #[] #[.pointer (some ⟨gl, 0, none⟩)]]
theorem Lp.later {w w' : World} {gl gc gD cap : Nat} {l : List Z2} (h : Lp w gl gc gD cap l) (hb : Below w.heap.size w w') : Lp w' gl gc gD cap l := by
  obtain ⟨⟨rest, h1, h2⟩, h3, h4⟩ := h
  exact ⟨⟨rest, h1.later hb, h2⟩, h3.later hb, h4.later hb⟩
theorem Lp.le {w : World} {gl gc gD cap : Nat} {l : List Z2} (h : Lp w gl gc gD cap l) : l.length ≤ cap := by
  obtain ⟨⟨rest, h1, h2⟩, _, _⟩ := h
  rw [List.length_append, flat_length] at h2; omega
theorem Lp.sp {w : World} {gl gc gD cap : Nat} {l : List Z2} (h : Lp w gl gc gD cap l) : Sp w (some ⟨gD, 0, none⟩) l := by
  obtain ⟨⟨rest, h1, h2⟩, _, _⟩ := h
  exact Blk.spApp h1
theorem Lp.env {w : World} {gl gc gD cap : Nat} {l : List Z2} (h : Lp w gl gc gD cap l) : Env w gl gc l := by
  refine ⟨⟨some ⟨gD, 0, none⟩, cap, ?_, h.sp, h.le⟩, ?_⟩
  · rw [h.var.cell]; rfl
  · rw [h.cor.cell]; rfl

theorem flat_take (l : List Z2) (k : Nat) : flat (l.take k) = (flat l).take (k * 2) := by
  induction l generalizing k with
  | nil => simp [flat]
  | cons p l ih =>
    cases k with
    | zero => simp [flat]
    | succ k =>
      have e : (k + 1) * 2 = k * 2 + 1 + 1 := by omega
      simp only [List.take_succ_cons, flat]
      rw [ih, e, List.take_succ_cons, List.take_succ_cons]
theorem flat_drop (l : List Z2) (k : Nat) : flat (l.drop k) = (flat l).drop (k * 2) := by
  induction l generalizing k with
  | nil => simp [flat]
  | cons p l ih =>
    cases k with
    | zero => simp [flat]
    | succ k =>
      have e : (k + 1) * 2 = k * 2 + 1 + 1 := by omega
      simp only [List.drop_succ_cons, flat]
      rw [ih, e, List.drop_succ_cons, List.drop_succ_cons]

/-- copy(left[i:], left[i+1:]) -/
theorem copy_left {w : World} {gD cap i : Nat} {l : List Z2} {rest : List Value} (hB : Blk w gD 30 (flat l ++ rest).toArray) (hlen : (flat l ++ rest).length = cap * 2) (hi : i < l.length) (a : Addr) (ha : i + 1 < l.length → a = ⟨gD, (i + 1) * 2, none⟩) (dc sc : Nat) :
    ∃ rest', (Builtin.copy_ #[22, 22] 3 #[.slice (some ⟨gD, i * 2, none⟩) (l.length - i) dc, .slice (some a) (l.length - (i + 1)) sc]).run Try.prog w = .ok (goInt (Nat.min (l.length - (i + 1)) (l.length - i))) (w.setRow gD (flat (l.eraseIdx i) ++ rest').toArray)
      ∧ (flat (l.eraseIdx i) ++ rest').length = cap * 2 := by
  have hfl := flat_length l
  have hm : Nat.min (l.length - (i + 1)) (l.length - i) = l.length - (i + 1) := Nat.min_eq_left (by omega)
  have hfd := flat_length (l.drop (i + 1))
  rw [List.length_drop] at hfd
  have hcl : cap * 2 = l.length * 2 + rest.length := by rw [← hlen, List.length_append, hfl]
  have hr := run_copy_sp w gD (i * 2) (l.length - i) dc a (l.length - (i + 1)) sc _ (flat (l.drop (i + 1))) hB (by rw [hm, hfd])
    (fun j v hv => by
      have hj := (List.getElem?_eq_some_iff.1 hv).1
      rw [hfd] at hj
      rw [ha (by omega), add_plain, hB.cell]
      rw [flat_drop, List.getElem?_drop] at hv
      simp only [List.getElem?_toArray]
      rw [List.getElem?_append_left (by rw [hfl]; omega)]
      exact hv) (by simp [hfd, hfl]; omega) (flat_one _)
  refine ⟨(flat l ++ rest).drop (i * 2 + (flat (l.drop (i + 1))).length), ?_, ?_⟩
  · rw [hr]
    congr 3
    have e : l.eraseIdx i = l.take i ++ l.drop (i + 1) := List.eraseIdx_eq_take_drop_succ l i
    rw [e, flat_append, flat_take]
    simp only [List.append_assoc]
    rw [List.take_append_of_le_length (by rw [hfl]; omega)]
  · rw [List.length_append, flat_length, List.length_drop, hlen, hfd, List.length_eraseIdx_of_lt hi]; omega
end Go.Proofs.Ytfgeengdmbabhaa

namespace Go.Proofs.Ytfgeengdmbabhaa
open Go.RowKit
attribute [local go_sem ↓] Go.wp_at_zero Go.wp_at_succ

theorem wp_copy_run {P : Program} (w : World) {o : Oper} {a : Act} {K : Act → World → Prop} {Q : Exit → Act → World → Prop} (d s : Operand) (t t' : TypeId)
    (ho : o.op = .call { callee := .builtin .copy, args := #[d, s], argTypes := #[t, t'] }) (v u : Value) (hd : a.eval d = v) (hs : a.eval s = u) {v' : Value} {w' : World}
    (hr : (Builtin.copy_ #[t, t'] o.type #[v, u]).run P w = .ok v' w') (h : K (a.put o.dst v') w') : o.wp P a w K Q := by
  unfold Oper.wp execOp
  simp only [ho, resolve, invoke, builtin, Sem.run_bind, Sem.run_pure, Result.andThen_ok, List.map_toArray, List.map_cons, List.map_nil, hd, hs, hr]
  exact h
theorem wpList_copy {P : Program} (w : World) {ops : Array Oper} {rest : List Oper} {o : Oper} {a : Act} {Q : Exit → Act → World → Prop} (hgd : o.guard = none) (d s : Operand) (t t' : TypeId)
    (ho : o.op = .call { callee := .builtin .copy, args := #[d, s], argTypes := #[t, t'] }) (v u : Value) (hd : a.eval d = v) (hs : a.eval s = u) {v' : Value} {w' : World}
    (hr : (Builtin.copy_ #[t, t'] o.type #[v, u]).run P w = .ok v' w') (h : wpList P ops Q rest (a.put o.dst v') w') : wpList P ops Q (o :: rest) a w :=
  wpList_plain hgd fun _ hK => wp_copy_run w d s t t' ho v u hd hs hr (hK _ _ h)
theorem step_copy {P : Program} {ops : Array Oper} {o : Oper} {a : Act} {w : World} {K : Act → World → Prop} {Q : Exit → Act → World → Prop} {E : Prop}
    (hg : o.guard = none) (d x : Operand) (dT sT : TypeId) (hop : o.op = Op.call { callee := Callee.builtin Builtin.copy, args := #[d, x], argTypes := #[dT, sT] })
    (v u : Value) (hd : a.eval d = v) (hx : a.eval x = u) {v' : Value} {w' : World} (hr : (Builtin.copy_ #[dT, sT] o.type #[v, u]).run P w = .ok v' w') (hK : K (a.put o.dst v') w') :
    if Region.wanted o (yielded ops a.tmps) = true then Oper.wp P o a w K Q else E := by
  have hw : Region.wanted o (yielded ops a.tmps) = true := by simp [Region.wanted, hg]
  rw [if_pos hw]
  exact wp_copy_run w d x dT sT hop v u hd hx hr hK

/-- the whole of a list copied into a new block -/
theorem copy_whole {w : World} {gD : Nat} {l : List Z2} {A : Option Addr} {c : Nat} (hne : l ≠ []) (hB : Blk w gD 30 (flat (List.replicate l.length ⟨0, 0⟩)).toArray) (hs : Sp w A l) :
    (Builtin.copy_ #[22, 22] 3 #[.slice (some ⟨gD, 0, none⟩) l.length l.length, .slice A l.length c]).run Try.prog w = .ok (goInt (Nat.min l.length l.length)) (w.setRow gD (flat l).toArray) := by
  obtain ⟨b, off, rfl, hc⟩ := hs hne
  have hfl := flat_length l
  have hfr := flat_length (List.replicate l.length (⟨0, 0⟩ : Z2))
  rw [List.length_replicate] at hfr
  have hr := run_copy_sp w gD 0 l.length l.length ⟨b, off, none⟩ l.length c _ (flat l) hB (by rw [hfl]; congr 1; exact (Nat.min_self _).symm) (Sp.cells hc) (by simp [hfl, hfr]) (flat_one l)
  rw [hr]
  congr 3
  simp [hfl, hfr]

theorem setCell_new (W : World) (t : TypeId) (x v : Value) : (W.alloc (.cells #[x] t)).setCell ⟨W.heap.size, 0, none⟩ v = W.alloc (.cells #[v] t) := by
  unfold World.setCell World.alloc
  simp only
  congr 1
  apply Array.ext
  · simp
  · intro i h1 h2
    simp only [Array.getElem_modify, Array.getElem_push]
    by_cases e : i < W.heap.size
    · simp [e, Nat.ne_of_gt e]
    · have : i = W.heap.size := by simp at h2; omega
      subst this
      simp
theorem store_fn (f : Fn) (a b : Array Value) (W : World) : (store ⟨W.heap.size, 0, none⟩ (Value.func f a b)).run Try.prog (W.alloc (.cells #[Value.nilFunc] 81)) = .ok () (W.alloc (.cells #[Value.func f a b] 81)) := by
  have hB := Blk.new W 81 #[Value.nilFunc]
  have h2 := hB.frozen 0
  rw [run_store Try.prog _ _ _ _ (by rfl), hB.cell 0]
  simp [h2, setCell_new]
theorem below_setRow {w w1 : World} {g : Nat} (h : Below w.heap.size w w1) (hg : w.heap.size ≤ g) (cs : Array Value) : Below w.heap.size w (w1.setRow g cs) :=
  ⟨h.os, h.tape, h.output, by simpa using h.size, fun i hi => (setRow_other w1 g i cs (by omega)).trans (h.block i hi)⟩
theorem lp_next {W w : World} {gl gc gD cap : Nat} {l' : List Z2} {rest' : List Value} {x v : Value} {rs : List (List Z2)} (h1 : Blk W gD 30 (flat l' ++ rest').toArray) (hlen : (flat l' ++ rest').length = cap * 2) (h2 : Blk W gl 22 #[x])
    (h3 : Blk W gc 81 #[.func (.func 91) #[] #[.pointer (some ⟨gl, 0, none⟩)]]) (h4 : RS W w.heap.size [gl, gc, gD] v rs) (h5 : Below w.heap.size w W) (g1 : w.heap.size ≤ gD) (g2 : gD < gl) (g3 : gl < gc) :
    Lp (W.setCell ⟨gl, 0, none⟩ (.slice (some ⟨gD, 0, none⟩) l'.length cap)) gl gc gD cap l' ∧ RS (W.setCell ⟨gl, 0, none⟩ (.slice (some ⟨gD, 0, none⟩) l'.length cap)) w.heap.size [gl, gc, gD] v rs ∧ Below w.heap.size w (W.setCell ⟨gl, 0, none⟩ (.slice (some ⟨gD, 0, none⟩) l'.length cap)) := by
  refine ⟨⟨⟨rest', h1.far (p := ⟨gl, 0, none⟩) (by simp only; omega) _, hlen⟩, h2.set_ 0 _, h3.far (p := ⟨gl, 0, none⟩) (by simp only; omega) _⟩, h4.keep (by simp [World.setCell]) (fun b _ hb => Below.heap_setCell W ⟨gl, 0, none⟩ _ b (fun e => hb (by rw [e]; simp))), h5.setCell (p := ⟨gl, 0, none⟩) (by simp only; omega) _⟩
theorem mem_erase {l : List Z2} {i : Nat} {P : Z2 → Prop} (h : ∀ p ∈ l, P p) : ∀ p ∈ l.eraseIdx i, P p := fun p hp => h p (List.mem_of_mem_eraseIdx hp)
theorem Lp.grown {w w' : World} {gl gc gD cap : Nat} {l : List Z2} {row : Option Nat} (h : Lp w gl gc gD cap l) (hg : w.grownBy w' row) (hr : ∀ b ∈ [gl, gc, gD], some b ≠ row) : Lp w' gl gc gD cap l := by
  obtain ⟨⟨rest, h1, h2⟩, h3, h4⟩ := h
  exact ⟨⟨rest, (hg.block gD h1.lt (hr gD (by simp))).trans h1, h2⟩, (hg.block gl h3.lt (hr gl (by simp))).trans h3, (hg.block gc h4.lt (hr gc (by simp))).trans h4⟩
theorem RS.own {w : World} {base : Nat} {bad : List Nat} {v : Value} {rs : List (List Z2)} (h : RS w base bad v rs) : (∀ b, v.ownBlock = some b → base ≤ b ∧ b < w.heap.size) ∧ (∀ b ∈ bad, some b ≠ v.ownBlock) := by
  obtain ⟨vs, h1, h2, _⟩ := h
  exact ⟨World.ownsRow.lt h1, fun b hb e => h2 b e.symm hb⟩
/-- a new triangle, appended to the row -/
theorem push_new {w W : World} {gl gc gD cap : Nat} {l : List Z2} {v : Value} {rs : List (List Z2)} (a b d : Z2) (hL : Lp W gl gc gD cap l) (hR : RS W w.heap.size [gl, gc, gD] v rs) (hW : Below w.heap.size w W) (hn : rs.length ≤ 100000) :
    ∃ v' w', (Builtin.append_ #[55, 55] 55 #[v, .slice (some ⟨W.heap.size + 1, 0, none⟩) 1 1]).run Try.prog ((W.alloc (.cells #[iv a.x, iv a.y, iv b.x, iv b.y, iv d.x, iv d.y] 30)).alloc (.cells #[.slice (some ⟨W.heap.size, 0, none⟩) 3 3] 22)) = .ok v' w'
      ∧ Lp w' gl gc gD cap l ∧ RS w' w.heap.size [gl, gc, gD] v' (rs ++ [[a, b, d]]) ∧ Below w.heap.size w w' := by
  have hb1 := below_alloc W (.cells #[iv a.x, iv a.y, iv b.x, iv b.y, iv d.x, iv d.y] 30)
  have hs1 : Sp (W.alloc (.cells #[iv a.x, iv a.y, iv b.x, iv b.y, iv d.x, iv d.y] 30)) (some ⟨W.heap.size, 0, none⟩) [a, b, d] := Blk.sp (Blk.new W 30 (flat [a, b, d]).toArray)
  have e1 : (W.alloc (.cells #[iv a.x, iv a.y, iv b.x, iv b.y, iv d.x, iv d.y] 30)).heap.size = W.heap.size + 1 := by simp
  generalize W.alloc (.cells #[iv a.x, iv a.y, iv b.x, iv b.y, iv d.x, iv d.y] 30) = W1 at *
  have hb2 := below_alloc W1 (.cells #[.slice (some ⟨W.heap.size, 0, none⟩) 3 3] 22)
  have hk2 := Blk.new W1 22 #[.slice (some ⟨W.heap.size, 0, none⟩) 3 3]
  have e2 : (W1.alloc (.cells #[.slice (some ⟨W.heap.size, 0, none⟩) 3 3] 22)).heap.size = W.heap.size + 2 := by simp [e1]
  rw [e1] at hk2
  generalize W1.alloc (.cells #[.slice (some ⟨W.heap.size, 0, none⟩) 3 3] 22) = W2 at *
  have hb := below_trans hb1 hb2
  have ho := hR.own
  have hb0 : ∀ x ∈ [gl, gc, gD], x < W.heap.size := fun x hx => by
    obtain ⟨⟨rest, h1, h2⟩, h3, h4⟩ := hL
    simp only [List.mem_cons, List.not_mem_nil, or_false] at hx
    rcases hx with rfl | rfl | rfl
    · exact h3.lt
    · exact h4.lt
    · exact h1.lt
  obtain ⟨v', w', g1, g2, g3⟩ := (hR.later hb).push [a, b, d] W.heap.size 3 (W.heap.size + 1) (by simp) (fun h => by have := hb0 _ h; omega) (fun e => by have := (ho.1 _ e.symm).2; omega) (hs1.later hb2) (by omega)
    (by rw [hk2.cell]; rfl) hn (Nat.le_trans hW.size (by omega)) (fun x hx => by have := hb0 x hx; omega)
  exact ⟨v', w', g1, (hL.later hb).grown g3 ho.2, g2, below_grown (below_trans hW hb) g3 (fun k hk => (ho.1 k hk).1)⟩
/-- what is left, appended to the row -/
theorem push_last {w W : World} {gl gc gD cap : Nat} {l : List Z2} {v : Value} {rs : List (List Z2)} (hL : Lp W gl gc gD cap l) (hR : RS W w.heap.size [gl, gc, gD] v rs) (hW : Below w.heap.size w W) (hn : rs.length ≤ 100000) :
    ∃ A c w', (Builtin.append_ #[55, 55] 55 #[v, .slice (some ⟨W.heap.size, 0, none⟩) 1 1]).run Try.prog (W.alloc (.cells #[.slice (some ⟨gD, 0, none⟩) l.length cap] 22)) = .ok (.slice A (rs ++ [l]).length c) w'
      ∧ SSp w' A (rs ++ [l]) ∧ (rs ++ [l]).length ≤ c ∧ Below w.heap.size w w' := by
  have hb := below_alloc W (.cells #[.slice (some ⟨gD, 0, none⟩) l.length cap] 22)
  have hk := Blk.new W 22 #[.slice (some ⟨gD, 0, none⟩) l.length cap]
  generalize W.alloc (.cells #[.slice (some ⟨gD, 0, none⟩) l.length cap] 22) = W2 at *
  have ho := hR.own
  have hlt : gD < W.heap.size := by obtain ⟨⟨rest, h1, h2⟩, h3, h4⟩ := hL; exact h1.lt
  obtain ⟨A, c, w', g1, g2, g3, g4⟩ := (hR.later hb).last l gD cap W.heap.size hL.le (ho.2 gD (by simp)) (hL.later hb).sp (Nat.lt_of_lt_of_le hlt hb.size) (by rw [hk.cell]; rfl) hn (Nat.le_trans hW.size hb.size)
  exact ⟨A, c, w', g1, g2, g4, below_grown (below_trans hW hb) g3 (fun k hk => (ho.1 k hk).1)⟩
theorem splitG_end {l : List Z2} {rs : List (List Z2)} (h : l.length ≤ 3) : splitG l.length l rs = some (rs ++ [l]) := by
  cases hn : l.length with
  | zero => simp [splitG]
  | succ n => simp only [splitG]; rw [if_pos h]
theorem normZ_len {ps : List Z2} : (normZ ps).length ≤ ps.length := by
  unfold normZ
  split
  · have h1 := cornersTo_length ps ps.length
    have h2 : (corn ps).length ≤ ps.length := by
      unfold corn; split
      · rw [List.length_reverse]; exact h1
      · exact h1
    unfold normR rotZ
    rw [List.length_append, List.length_drop, List.length_take]; omega
  · simp
theorem normZ_mem {ps : List Z2} (h : ∀ p ∈ cornersTo ps ps.length, p ∈ ps) : ∀ p ∈ normZ ps, p ∈ ps := by
  intro p hp
  unfold normZ at hp
  split at hp
  · unfold normR rotZ at hp
    have : p ∈ corn ps := by
      rcases List.mem_append.1 hp with h | h
      · exact List.mem_of_mem_drop h
      · exact List.mem_of_mem_take h
    unfold corn at this
    split at this
    · exact h p (by simpa using this)
    · exact h p this
  · simp at hp

set_option maxRecDepth 100000 in
set_option maxHeartbeats 8000000 in
/-- triangle.Split -/
theorem split58 (A : Option Addr) (n c : Nat) (ps : List Z2) (w : World) (hl : ps.length = n) (hsp : Sp w A ps) (hcap : n ≤ c) (hn3 : chkZ ps = 0 → 3 ≤ (normZ ps).length) (hmem : ∀ p ∈ normZ ps, p ∈ ps) :
    Calls Try.prog 58 #[.slice A n c] w (RetSS (splitZ ps) (splitE ps) w) := by
  have HS := Lib.hid hsp; clear hsp
  by_cases h0 : chkZ ps = 0
  case neg =>
    have HE := Lib.hid (And.intro (show splitZ ps = [] by unfold splitZ; rw [if_neg h0]) (show splitE ps = chkZ ps by unfold splitE; rw [if_neg h0]))
    have hd : (chkZ ps != 0) = true := by simpa using h0
    clear h0 hn3 hmem
    go_enter Try.func58, Try.ntmps58
    go_wp2_with fail
    refine (normal32' A n c ps _ hl HS.out hcap).mono ?_
    rintro e w1 ⟨A1, c1, rfl, hc1, hs1, hb1⟩
    go_wp2
    go_ret2
    refine ⟨none, 0, ?_, ?_, ?_, hb1⟩
    · rw [HE.out.1, HE.out.2]; rfl
    · rw [HE.out.1]; simp
    · rw [HE.out.1]; intro h; exact absurd rfl h
  case pos =>
    have h40 := (chkZ_zero h0).1
    have hD := (chkZ_zero h0).2.2.1
    have HE := Lib.hid (And.intro (show splitZ ps = (splitG (normZ ps).length (normZ ps) []).getD [] by unfold splitZ; rw [if_pos h0]) (show splitE ps = if (splitG (normZ ps).length (normZ ps) []).isSome then 0 else 11 by unfold splitE; rw [if_pos h0]))
    have hL3 := hn3 h0
    have hL40 : (normZ ps).length ≤ 40 := Nat.le_trans normZ_len h40
    have HD := Lib.hid (fun p hp => hD p (hmem p hp))
    have H0 := Lib.hid h0
    clear h0 hn3 hmem hD
    go_enter Try.func58, Try.ntmps58
    go_wp2_with fail
    refine (normal32' A n c ps _ hl HS.out hcap).mono ?_
    rintro e w1 ⟨A1, c1, rfl, hc1, hs1, hb1⟩
    rw [H0.out]
    generalize hL : normZ ps = L at *
    have HS1 := Lib.hid hs1
    have HW := Lib.hid hb1
    clear hL hs1 hb1 hc1 H0
    have hne : L ≠ [] := by intro h; simp [h] at hL3
    have hmk := run_make22 L.length (by omega)
    go_upto_region 5 with fail
    have F1 := (Blk.new w1 30 (flat (List.replicate L.length ⟨0, 0⟩)).toArray).later (below_alloc _ (.cells #[.slice (some ⟨w1.heap.size, 0, none⟩) L.length L.length] 22))
    have F2 := Blk.new (w1.alloc (.cells (flat (List.replicate L.length ⟨0, 0⟩)).toArray 30)) 22 #[.slice (some ⟨w1.heap.size, 0, none⟩) L.length L.length]
    have F3 := below_trans (below_alloc w1 (.cells (flat (List.replicate L.length ⟨0, 0⟩)).toArray 30)) (below_alloc _ (.cells #[.slice (some ⟨w1.heap.size, 0, none⟩) L.length L.length] 22))
    have es : (w1.alloc (.cells (flat (List.replicate L.length ⟨0, 0⟩)).toArray 30)).heap.size = w1.heap.size + 1 := by simp
    have es2 : ((w1.alloc (.cells (flat (List.replicate L.length ⟨0, 0⟩)).toArray 30)).alloc (.cells #[.slice (some ⟨w1.heap.size, 0, none⟩) L.length L.length] 22)).heap.size = w1.heap.size + 2 := by simp
    rw [es] at F2
    revert F1 F2 F3 es2
    generalize ((w1.alloc (.cells (flat (List.replicate L.length ⟨0, 0⟩)).toArray 30)).alloc (.cells #[.slice (some ⟨w1.heap.size, 0, none⟩) L.length L.length] 22)) = W2
    intro F1 F2 F3 es2
    clear es hmk
    have hcp := copy_whole (c := c1) hne F1 (HS1.out.later F3)
    have hgD : w.heap.size ≤ w1.heap.size := HW.out.size
    replace HW := Lib.hid (below_trans HW.out F3)
    clear F3 HS1
    generalize hD0 : w1.heap.size = gD at *
    generalize hl0 : gD + 1 = gl at *
    have hv : W2.cell? ⟨gl, 0, none⟩ = some (.slice (some ⟨gD, 0, none⟩) L.length L.length) := by rw [F2.cell]; rfl
    go_upto_region 6 with fail
    clear hcp hv
    have G1 := blk_setRow (flat L).toArray F1
    have G2 := far_setRow (flat L).toArray F2 (show gl ≠ gD by omega)
    have G3 := below_setRow HW.out hgD (flat L).toArray
    have es3 : (W2.setRow gD (flat L).toArray).heap.size = W2.heap.size := by simp
    rw [es2] at es3
    revert G1 G2 G3 es3
    generalize W2.setRow gD (flat L).toArray = W3
    intro G1 G2 G3 es3
    have ES3 := Lib.hid es3
    clear F1 F2 es2 es3 HW
    have hst := store_fn (.func 91) #[] #[.pointer (some ⟨gl, 0, none⟩)]
    go_wp2_with fail
    clear hst
    have B3 := Blk.new W3 81 #[.func (.func 91) #[] #[.pointer (some ⟨gl, 0, none⟩)]]
    have B4 := below_alloc W3 (.cells #[.func (.func 91) #[] #[.pointer (some ⟨gl, 0, none⟩)]] 81)
    replace G1 := G1.later B4; replace G2 := G2.later B4; replace G3 := below_trans G3 B4
    have hgc : gl < W3.heap.size := by have := ES3.out; omega
    revert B3 B4 G1 G2 G3
    generalize W3.alloc (.cells #[.func (.func 91) #[] #[.pointer (some ⟨gl, 0, none⟩)]] 81) = W4
    generalize W3.heap.size = gc at *
    intro B3 B4 G1 G2 G3
    clear B4
    have hgl : gD < gl := by omega
    have HLP := Lib.hid (Lp.mk (wr := W4) (gl := gl) (gc := gc) (gD := gD) (cap := L.length) (l := L) ⟨[], by rw [List.append_nil]; exact G1, by rw [List.append_nil, flat_length]⟩ G2 B3)
    have HW := Lib.hid G3
    have HGG := Lib.hid (And.intro hgD (And.intro hgl hgc))
    clear G1 G2 G3 B3 ES3 hl0 hD0
    generalize hcap0 : L.length = cap at *
    go_loopg [10] cap (fun k v wr => ∃ (l : List Z2) (rs : List (List Z2)), k = l.length ∧ Lp wr gl gc gD cap l ∧ RS wr w.heap.size [gl, gc, gD] v rs ∧ splitG l.length l rs = splitG cap L [] ∧ 3 ≤ l.length ∧ rs.length + l.length ≤ 43 ∧ (∀ p ∈ l, Bd p) ∧ Below w.heap.size w wr)
    case atStart => exact ⟨L, [], hcap0.symm, HLP.out, RS.nil _ _ _, by rw [hcap0], by omega, by simp; omega, HD.out, HW.out⟩
    case round =>
      clear HLP HW
      obtain ⟨l, rs, hk, hLp, hRS, hspl, hl3, hlr, hbd, hB⟩ := hrel
      have HL := Lib.hid hLp; have HR := Lib.hid hRS; have HSP := Lib.hid hspl; have HBD := Lib.hid hbd; have HW := Lib.hid hB
      have hvc : wr.cell? ⟨gl, 0, none⟩ = some (.slice (some ⟨gD, 0, none⟩) l.length cap) := by rw [hLp.var.cell]; rfl
      clear hLp hRS hspl hbd hB
      by_cases hgt : 3 < l.length
      · go_wp2_with fail
        refine (first95s gl gc l _ HL.out.env (by omega) HBD.out).mono ?_
        rintro e w2 ⟨rfl, hb⟩
        replace HL := Lib.hid (HL.out.later hb); replace HR := Lib.hid (HR.out.later hb); replace HW := Lib.hid (below_trans HW.out hb)
        replace hvc := cell_later hb hvc
        clear hb
        rcases firstZ_cases l.length (flatZ l) with ⟨i, hi, he, ht, hno⟩ | ⟨he, hno⟩
        · have HST := Lib.hid (show splitG l.length l rs = splitG (l.eraseIdx i).length (l.eraseIdx i) rs by
            rw [List.length_eraseIdx_of_lt hi]
            obtain ⟨m, hm⟩ : ∃ m, l.length = m + 1 := ⟨l.length - 1, by omega⟩
            have : l.length - 1 = m := by omega
            rw [this, hm]
            simp only [splitG]
            rw [if_neg (by omega), he, if_pos (by omega)]
            simp)
          rw [he]
          clear he ht hno
          go_upto_region 18 with fail
          have HLE := HL.out.le
          have i1 : (0 : Int) ≤ (i : Int) := by omega
          have i2 : (i : Int) ≤ (l.length : Int) := by omega
          have i3 : (i : Int) ≤ (cap : Int) := by omega
          have i4 : i ≠ cap := by omega
          have i5 : (0 : Int) ≤ (i : Int) + 1 := by omega
          have i6 : (i : Int) + 1 ≤ (l.length : Int) := by omega
          have i7 : (i : Int) + 1 ≤ (cap : Int) := by omega
          have s1 : IntKind.i64.wrap ((i : Int) + 1) = (i : Int) + 1 := IntWalk.i64_in _ (by omega)
          have hel : (l.eraseIdx i).length = l.length - 1 := List.length_eraseIdx_of_lt hi
          have HEL := Lib.hid hel
          clear hel
          obtain ⟨hG1, hG2, hG3⟩ := HGG.out
          obtain ⟨rest, hB0, hlen0⟩ := HL.out.data
          obtain ⟨ad, had, rest', hr, hlen'⟩ : ∃ ad : Addr, ((i + 1 = cap → ad = ⟨gD, 0, none⟩) ∧ (i + 1 ≠ cap → ad = ⟨gD, (i + 1) * 2, none⟩)) ∧ ∃ rest', (Builtin.copy_ #[22, 22] 3 #[.slice (some ⟨gD, i * 2, none⟩) (l.length - i) (cap - i), .slice (some ad) (l.length - (i + 1)) (cap - (i + 1))]).run Try.prog w2.drew = .ok (goInt (Nat.min (l.length - (i + 1)) (l.length - i))) (w2.drew.setRow gD (flat (l.eraseIdx i) ++ rest').toArray) ∧ (flat (l.eraseIdx i) ++ rest').length = cap * 2 := by
            by_cases hic : i + 1 = cap
            · obtain ⟨rest', hr⟩ := copy_left (w := w2.drew) hB0 hlen0 hi ⟨gD, 0, none⟩ (fun h => by omega) (cap - i) (cap - (i + 1))
              exact ⟨_, ⟨fun _ => rfl, fun h => absurd hic h⟩, rest', hr⟩
            · obtain ⟨rest', hr⟩ := copy_left (w := w2.drew) hB0 hlen0 hi ⟨gD, (i + 1) * 2, none⟩ (fun h => rfl) (cap - i) (cap - (i + 1))
              exact ⟨_, ⟨fun h => absurd h hic, fun _ => rfl⟩, rest', hr⟩
          have D1 := Lib.hid (And.intro (blk_setRow (w := w2.drew) (flat (l.eraseIdx i) ++ rest').toArray hB0) hlen')
          have D2 := Lib.hid (And.intro (far_setRow (w := w2.drew) (flat (l.eraseIdx i) ++ rest').toArray HL.out.var (show gl ≠ gD by omega)) (far_setRow (w := w2.drew) (flat (l.eraseIdx i) ++ rest').toArray HL.out.cor (show gc ≠ gD by omega)))
          have D3 := Lib.hid (HR.out.keep (w' := w2.drew.setRow gD (flat (l.eraseIdx i) ++ rest').toArray) (by rw [setRow_size]; exact Nat.le_refl _) (fun b _ hb => (setRow_other w2.drew gD b _ (fun e => hb (by rw [e]; simp)))))
          have D4 := Lib.hid (below_setRow (w1 := w2.drew) HW.out.drew hG1 (flat (l.eraseIdx i) ++ rest').toArray)
          clear hlen' hB0 hlen0
          by_cases hic : i + 1 = cap
          · obtain rfl := had.1 hic
            have z1 : l.length - (i + 1) = 0 := by omega
            have z2 : cap - (i + 1) = 0 := by omega
            rw [z1, z2] at hr
            clear z1 z2
            clear had
            go_region
            clear hr
            have hvc2 : (w2.drew.setRow gD (flat (l.eraseIdx i) ++ rest').toArray).cell? ⟨gl, 0, none⟩ = some (.slice (some ⟨gD, 0, none⟩) l.length cap) := by rw [D2.out.1.cell]; rfl
            have hfz := D2.out.1.frozen 0
            have j1 : (0 : Int) ≤ (l.length : Int) - 1 := by omega
            have j2 : (l.length : Int) - 1 ≤ (cap : Int) := by omega
            have j3 : (l.length : Int) - 1 ≤ (l.length : Int) := by omega
            have hnl : ((l.length : Int) - 1).toNat = l.length - 1 := by omega
            clear hic s1 i1 i2 i3 i4 i5 i6 i7
            go_wp2_with fail
            have NX := Lib.hid (lp_next D1.out.1 D1.out.2 D2.out.1 D2.out.2 D3.out D4.out hG1 hG2 hG3)
            rw [HEL.out] at NX
            go_roundg (l.length - 1)
            case measure => omega
            case rel => exact ⟨l.eraseIdx i, rs, HEL.out.symm, NX.out.1, NX.out.2.1, HST.out.symm.trans HSP.out, by rw [HEL.out]; omega, by rw [HEL.out]; (try simp only [List.length_append, List.length_singleton]); omega, mem_erase HBD.out, NX.out.2.2⟩
          · obtain rfl := had.2 hic
            have hic3 : i + 1 ≠ cap := hic
            clear had
            go_region
            clear hr
            have hvc2 : (w2.drew.setRow gD (flat (l.eraseIdx i) ++ rest').toArray).cell? ⟨gl, 0, none⟩ = some (.slice (some ⟨gD, 0, none⟩) l.length cap) := by rw [D2.out.1.cell]; rfl
            have hfz := D2.out.1.frozen 0
            have j1 : (0 : Int) ≤ (l.length : Int) - 1 := by omega
            have j2 : (l.length : Int) - 1 ≤ (cap : Int) := by omega
            have j3 : (l.length : Int) - 1 ≤ (l.length : Int) := by omega
            have hnl : ((l.length : Int) - 1).toNat = l.length - 1 := by omega
            clear hic s1 i1 i2 i3 i4 i5 i6 i7
            go_wp2_with fail
            have NX := Lib.hid (lp_next D1.out.1 D1.out.2 D2.out.1 D2.out.2 D3.out D4.out hG1 hG2 hG3)
            rw [HEL.out] at NX
            go_roundg (l.length - 1)
            case measure => omega
            case rel => exact ⟨l.eraseIdx i, rs, HEL.out.symm, NX.out.1, NX.out.2.1, HST.out.symm.trans HSP.out, by rw [HEL.out]; omega, by rw [HEL.out]; (try simp only [List.length_append, List.length_singleton]); omega, mem_erase HBD.out, NX.out.2.2⟩
        · rw [he]
          have HE1 := Lib.hid he
          clear he hno
          go_wp2_with fail
          refine (first95f gl gc l _ HL.out.env (by omega) HBD.out).mono ?_
          rintro e w3 ⟨rfl, hb⟩
          replace HL := Lib.hid (HL.out.later hb); replace HR := Lib.hid (HR.out.later hb); replace HW := Lib.hid (below_trans HW.out hb)
          replace hvc := cell_later hb hvc
          clear hb
          rcases firstZ_cases l.length (freeZ l) with ⟨i, hi, he, ht, hno⟩ | ⟨he, hno⟩
          · have HST := Lib.hid (show splitG l.length l rs = splitG (l.eraseIdx i).length (l.eraseIdx i) (rs ++ [[cA l i, pt l i, cC l i]]) by
              rw [List.length_eraseIdx_of_lt hi]
              obtain ⟨m, hm⟩ : ∃ m, l.length = m + 1 := ⟨l.length - 1, by omega⟩
              have : l.length - 1 = m := by omega
              have h1 := HE1.out
              rw [this, hm]
              rw [hm] at h1 he
              simp only [splitG]
              rw [if_neg (by omega), hm, h1, if_neg (by omega), he, if_pos (by omega)]
              simp)
            rw [he]
            clear he ht hno HE1
            have hcr : w3.cell? ⟨gc, 0, none⟩ = some (.func (.func 91) #[] #[.pointer (some ⟨gl, 0, none⟩)]) := HL.out.env.corner
            go_wp2_with fail
            refine (corner91 gl l i _ HL.out.env.left hi (by omega)).mono ?_
            rintro e w4 ⟨rfl, hb⟩
            replace HL := Lib.hid (HL.out.later hb); replace HR := Lib.hid (HR.out.later hb); replace HW := Lib.hid (below_trans HW.out hb)
            clear hb hvc hcr
            generalize hta : cA l i = a at *
            generalize htb : pt l i = b at *
            generalize htc : cC l i = d at *
            clear hta htb htc
            go_upto_region 17 with fail
            have F := boxes3 w4 a b d
            revert F
            generalize (((w4.alloc (.cells #[iv a.x, iv a.y] 30)).alloc (.cells #[iv b.x, iv b.y] 30)).alloc (.cells #[iv d.x, iv d.y] 30)) = W5
            rintro ⟨hb, f1, f2, f3, f4, f5, f6⟩
            replace HL := Lib.hid (HL.out.later hb); replace HR := Lib.hid (HR.out.later hb); replace HW := Lib.hid (below_trans HW.out hb)
            clear hb
            obtain ⟨v', w6, hr, hL6, hR6, hW6⟩ := push_new a b d HL.out HR.out HW.out (by omega)
            have HH := Lib.hid hr
            replace HL := Lib.hid hL6; replace HR := Lib.hid hR6; replace HW := Lib.hid hW6
            clear hr hL6 hR6 hW6
            go_upto_region 18 with (at_builtin; refine Lib.wpList_append_run _ (by rfl) _ _ _ _ (by rfl) _ _ (by rfl) (by rfl) _ _ HH.out ?_)
            clear f1 f2 f3 f4 f5 f6
            have hvc : w6.cell? ⟨gl, 0, none⟩ = some (.slice (some ⟨gD, 0, none⟩) l.length cap) := by rw [HL.out.var.cell]; rfl
            have HLE := HL.out.le
            have i1 : (0 : Int) ≤ (i : Int) := by omega
            have i2 : (i : Int) ≤ (l.length : Int) := by omega
            have i3 : (i : Int) ≤ (cap : Int) := by omega
            have i4 : i ≠ cap := by omega
            have i5 : (0 : Int) ≤ (i : Int) + 1 := by omega
            have i6 : (i : Int) + 1 ≤ (l.length : Int) := by omega
            have i7 : (i : Int) + 1 ≤ (cap : Int) := by omega
            have s1 : IntKind.i64.wrap ((i : Int) + 1) = (i : Int) + 1 := IntWalk.i64_in _ (by omega)
            have hel : (l.eraseIdx i).length = l.length - 1 := List.length_eraseIdx_of_lt hi
            have HEL := Lib.hid hel
            clear hel
            obtain ⟨hG1, hG2, hG3⟩ := HGG.out
            obtain ⟨rest, hB0, hlen0⟩ := HL.out.data
            obtain ⟨ad, had, rest', hr, hlen'⟩ : ∃ ad : Addr, ((i + 1 = cap → ad = ⟨gD, 0, none⟩) ∧ (i + 1 ≠ cap → ad = ⟨gD, (i + 1) * 2, none⟩)) ∧ ∃ rest', (Builtin.copy_ #[22, 22] 3 #[.slice (some ⟨gD, i * 2, none⟩) (l.length - i) (cap - i), .slice (some ad) (l.length - (i + 1)) (cap - (i + 1))]).run Try.prog w6.drew = .ok (goInt (Nat.min (l.length - (i + 1)) (l.length - i))) (w6.drew.setRow gD (flat (l.eraseIdx i) ++ rest').toArray) ∧ (flat (l.eraseIdx i) ++ rest').length = cap * 2 := by
              by_cases hic : i + 1 = cap
              · obtain ⟨rest', hr⟩ := copy_left (w := w6.drew) hB0 hlen0 hi ⟨gD, 0, none⟩ (fun h => by omega) (cap - i) (cap - (i + 1))
                exact ⟨_, ⟨fun _ => rfl, fun h => absurd hic h⟩, rest', hr⟩
              · obtain ⟨rest', hr⟩ := copy_left (w := w6.drew) hB0 hlen0 hi ⟨gD, (i + 1) * 2, none⟩ (fun h => rfl) (cap - i) (cap - (i + 1))
                exact ⟨_, ⟨fun h => absurd h hic, fun _ => rfl⟩, rest', hr⟩
            have D1 := Lib.hid (And.intro (blk_setRow (w := w6.drew) (flat (l.eraseIdx i) ++ rest').toArray hB0) hlen')
            have D2 := Lib.hid (And.intro (far_setRow (w := w6.drew) (flat (l.eraseIdx i) ++ rest').toArray HL.out.var (show gl ≠ gD by omega)) (far_setRow (w := w6.drew) (flat (l.eraseIdx i) ++ rest').toArray HL.out.cor (show gc ≠ gD by omega)))
            have D3 := Lib.hid (HR.out.keep (w' := w6.drew.setRow gD (flat (l.eraseIdx i) ++ rest').toArray) (by rw [setRow_size]; exact Nat.le_refl _) (fun b _ hb => (setRow_other w6.drew gD b _ (fun e => hb (by rw [e]; simp)))))
            have D4 := Lib.hid (below_setRow (w1 := w6.drew) HW.out.drew hG1 (flat (l.eraseIdx i) ++ rest').toArray)
            clear hlen' hB0 hlen0
            by_cases hic : i + 1 = cap
            · obtain rfl := had.1 hic
              have z1 : l.length - (i + 1) = 0 := by omega
              have z2 : cap - (i + 1) = 0 := by omega
              rw [z1, z2] at hr
              clear z1 z2
              clear had
              go_region
              clear hr
              have hvc2 : (w6.drew.setRow gD (flat (l.eraseIdx i) ++ rest').toArray).cell? ⟨gl, 0, none⟩ = some (.slice (some ⟨gD, 0, none⟩) l.length cap) := by rw [D2.out.1.cell]; rfl
              have hfz := D2.out.1.frozen 0
              have j1 : (0 : Int) ≤ (l.length : Int) - 1 := by omega
              have j2 : (l.length : Int) - 1 ≤ (cap : Int) := by omega
              have j3 : (l.length : Int) - 1 ≤ (l.length : Int) := by omega
              have hnl : ((l.length : Int) - 1).toNat = l.length - 1 := by omega
              clear hic s1 i1 i2 i3 i4 i5 i6 i7
              go_wp2_with fail
              have NX := Lib.hid (lp_next D1.out.1 D1.out.2 D2.out.1 D2.out.2 D3.out D4.out hG1 hG2 hG3)
              rw [HEL.out] at NX
              go_roundg (l.length - 1)
              case measure => omega
              case rel => exact ⟨l.eraseIdx i, rs ++ [[a, b, d]], HEL.out.symm, NX.out.1, NX.out.2.1, HST.out.symm.trans HSP.out, by rw [HEL.out]; omega, by rw [HEL.out]; (try simp only [List.length_append, List.length_singleton]); omega, mem_erase HBD.out, NX.out.2.2⟩
            · obtain rfl := had.2 hic
              have hic3 : i + 1 ≠ cap := hic
              clear had
              go_region
              clear hr
              have hvc2 : (w6.drew.setRow gD (flat (l.eraseIdx i) ++ rest').toArray).cell? ⟨gl, 0, none⟩ = some (.slice (some ⟨gD, 0, none⟩) l.length cap) := by rw [D2.out.1.cell]; rfl
              have hfz := D2.out.1.frozen 0
              have j1 : (0 : Int) ≤ (l.length : Int) - 1 := by omega
              have j2 : (l.length : Int) - 1 ≤ (cap : Int) := by omega
              have j3 : (l.length : Int) - 1 ≤ (l.length : Int) := by omega
              have hnl : ((l.length : Int) - 1).toNat = l.length - 1 := by omega
              clear hic s1 i1 i2 i3 i4 i5 i6 i7
              go_wp2_with fail
              have NX := Lib.hid (lp_next D1.out.1 D1.out.2 D2.out.1 D2.out.2 D3.out D4.out hG1 hG2 hG3)
              rw [HEL.out] at NX
              go_roundg (l.length - 1)
              case measure => omega
              case rel => exact ⟨l.eraseIdx i, rs ++ [[a, b, d]], HEL.out.symm, NX.out.1, NX.out.2.1, HST.out.symm.trans HSP.out, by rw [HEL.out]; omega, by rw [HEL.out]; (try simp only [List.length_append, List.length_singleton]); omega, mem_erase HBD.out, NX.out.2.2⟩
          · rw [he]
            have HNO := Lib.hid (show splitG cap L [] = none by
              rw [← HSP.out]
              obtain ⟨m, hm⟩ : ∃ m, l.length = m + 1 := ⟨l.length - 1, by omega⟩
              have h1 := HE1.out
              rw [hm] at h1 he
              rw [hm]
              simp only [splitG]
              rw [if_neg (by omega), hm, h1, if_neg (by omega), he, if_neg (by omega)])
            clear he hno HE1
            go_wp2
            go_ret2
            refine ⟨none, 0, ?_, ?_, ?_, HW.out⟩
            · rw [HE.out.1, HE.out.2, HNO.out]; rfl
            · rw [HE.out.1, HNO.out]; simp
            · rw [HE.out.1, HNO.out]; intro h; exact absurd rfl h
      · have HNO := Lib.hid (show splitG cap L [] = some (rs ++ [l]) by rw [← HSP.out]; exact splitG_end (by omega))
        obtain ⟨A', c', w6, hr, hs6, hc6, hW6⟩ := push_last HL.out HR.out HW.out (by omega)
        have HH := Lib.hid hr
        have H6 := Lib.hid (And.intro hs6 (And.intro hc6 hW6))
        clear hr hs6 hc6 hW6
        go_wp2_with (at_builtin; refine Lib.wpList_append_run _ (by rfl) _ _ _ _ (by rfl) _ _ (by rfl) (by rfl) _ _ HH.out ?_)
        go_ret2
        refine ⟨A', c', ?_, ?_, ?_, H6.out.2.2⟩
        · have e : ((some (rs ++ [l])).getD []).length = rs.length + 1 := by simp
          rw [HE.out.1, HE.out.2, HNO.out, e]; rfl
        · rw [HE.out.1, HNO.out]; exact H6.out.2.1
        · rw [HE.out.1, HNO.out]; exact H6.out.1
end Go.Proofs.Ytfgeengdmbabhaa
