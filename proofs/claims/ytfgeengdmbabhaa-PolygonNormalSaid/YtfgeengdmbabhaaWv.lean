import Derived.Test.YtfgeengdmbabhaaA5
import Derived.Test.YtfgeengdmbabhaaPj
import Derived.BigRegion
import Derived.Deep.RegionLaw
namespace Go.Proofs.Ytfgeengdmbabhaa
open Go.RowKit
attribute [local go_sem ↓] Go.wp_at_zero Go.wp_at_succ

/-- the turn at the next vertex -/
theorem bend_next {ps : List Z2} {i : Nat} (hi : i < ps.length) : bendZ ps ((i + 1) % ps.length) = crZ (pt ps i) (pt ps ((i + 1) % ps.length)) (pt ps ((i + 2) % ps.length)) := by
  unfold bendZ
  rw [mod_succ_succ hi]
  have e : ((i + 1) % ps.length + ps.length - 1) % ps.length = i := by
    by_cases h : i + 1 < ps.length
    · rw [Nat.mod_eq_of_lt h]
      have : i + 1 + ps.length - 1 = i + ps.length := by omega
      rw [this, Nat.add_mod_right, Nat.mod_eq_of_lt hi]
    · have e1 : i + 1 = ps.length := by omega
      rw [e1, Nat.mod_self]
      have : 0 + ps.length - 1 = i := by omega
      rw [this, Nat.mod_eq_of_lt hi]
  rw [e]
theorem bends_all {ps : List Z2} (h : ∀ i, i < ps.length → 0 ≤ bendZ ps ((i + 1) % ps.length)) : ∀ i, i < ps.length → 0 ≤ bendZ ps i := fun i hi => by
  have := h ((i + ps.length - 1) % ps.length) (Nat.mod_lt _ (by omega))
  have e : ((i + ps.length - 1) % ps.length + 1) % ps.length = i := by
    rw [Nat.mod_add_mod]
    have : i + ps.length - 1 + 1 = i + ps.length := by omega
    rw [this, Nat.add_mod_right, Nat.mod_eq_of_lt hi]
  rw [e] at this; exact this

set_option maxRecDepth 100000 in
set_option maxHeartbeats 4000000 in
/-- garmentref11.Convex -/
theorem convex50 (A : Option Addr) (n c : Nat) (ps : List Z2) (w : World) (hl : ps.length = n) (hsp : Sp w A ps) :
    Calls Try.prog 50 #[.slice A n c] w fun e w' => e = .returned (.tuple #[.bool (cvZ ps), iv (chkZ ps)]) ∧ Below w.heap.size w w' := by
  subst hl
  have HS := Lib.hid hsp; clear hsp
  go_enter Try.func50, Try.ntmps50
  go_wp2_with fail
  refine (check46 A _ c ps _ rfl HS.out).mono ?_
  rintro e w1 ⟨rfl, hb1⟩
  by_cases h0 : chkZ ps = 0
  case neg =>
    have HE := Lib.hid (cvZ_neg h0)
    have hd : (chkZ ps != 0) = true := by simpa using h0
    clear h0
    go_wp2
    go_ret2
    refine ⟨?_, hb1⟩
    rw [HE.out]; rfl
  case pos =>
  have H0 := Lib.hid h0
  have HV := Lib.hid (cvZ_pos h0)
  have h3 := (chkZ_zero h0).2.1
  have h40 := (chkZ_zero h0).1
  have HD := Lib.hid (chkZ_zero h0).2.2.1
  rw [h0]
  clear h0
  go_wp2_with fail
  go_loopw [6] (fun v wr => ∃ k : Nat, k ≤ ps.length ∧ v = .int .i64 k ∧ (∀ j, j < k → 0 ≤ bendZ ps ((j + 1) % ps.length)) ∧ Below w.heap.size w wr) (fun v _ => ps.length - (intOf v).toNat)
  case atStart => exact ⟨0, Nat.zero_le _, rfl, fun j hj => absurd hj (by omega), hb1⟩
  case round =>
    clear hb1
    obtain ⟨k, hk, rfl, hno, hB⟩ := hrel
    have HN := Lib.hid hno
    clear hno
    by_cases hlt : k < ps.length
    · have hne : ps ≠ [] := by intro h; simp [h] at hlt
      have hp : 0 < ps.length := by omega
      obtain ⟨b, off, rfl, hc⟩ := HS.out.later hB hne
      have l1 : (k + 1) % ps.length < ps.length := Nat.mod_lt _ hp
      have l2 : (k + 2) % ps.length < ps.length := Nat.mod_lt _ hp
      obtain ⟨g1, g2⟩ := hc k hlt
      obtain ⟨g3, g4⟩ := hc _ l1
      obtain ⟨g5, g6⟩ := hc _ l2
      have m1 := mod_one k ps.length
      have m2 := mod_two k ps.length
      have HE := Lib.hid (bend_next hlt)
      generalize e1 : (k + 1) % ps.length = k1 at *
      generalize e2 : (k + 2) % ps.length = k2 at *
      have E1 := Lib.hid e1
      clear e1 e2 hc
      have q1 : (0 : Int) ≤ (k2 : Int) := by omega
      have q2 : (k2 : Int) < (ps.length : Int) := by omega
      have q5 : (0 : Int) ≤ (k1 : Int) := by omega
      have q6 : (k1 : Int) < (ps.length : Int) := by omega
      have q7 : (0 : Int) ≤ (k : Int) := by omega
      have q8 : (k : Int) < (ps.length : Int) := by omega
      have q3 : ((ps.length : Int) == 0) = false := beq_eq_false_iff_ne.2 (by omega)
      have q4 : ¬ ((ps.length : Int) = 0) := by omega
      have t1 : ((k : Int) + 1).tmod (ps.length : Int) = (k1 : Int) := by rw [Int.tmod_eq_emod_of_nonneg (by omega)]; exact m1
      have t2 : ((k : Int) + 2).tmod (ps.length : Int) = (k2 : Int) := by rw [Int.tmod_eq_emod_of_nonneg (by omega)]; exact m2
      clear m1 m2
      have s1 : IntKind.i64.wrap ((k : Int) + 1) = (k : Int) + 1 := IntWalk.i64_in _ (by omega)
      have s2 : IntKind.i64.wrap ((k : Int) + 2) = (k : Int) + 2 := IntWalk.i64_in _ (by omega)
      go_wp2_with fail
      go_region_held3 (fun w' => Below wr.heap.size wr w' ∧ w'.cell? ⟨b, off + k * 2, none⟩ = some (iv (pt ps k).x) ∧ w'.cell? ⟨b, off + k * 2 + 1, none⟩ = some (iv (pt ps k).y) ∧ w'.cell? ⟨b, off + k1 * 2, none⟩ = some (iv (pt ps k1).x) ∧ w'.cell? ⟨b, off + k1 * 2 + 1, none⟩ = some (iv (pt ps k1).y)
          ∧ w'.cell? ⟨b, off + k2 * 2, none⟩ = some (iv (pt ps k2).x) ∧ w'.cell? ⟨b, off + k2 * 2 + 1, none⟩ = some (iv (pt ps k2).y))
        (first | exact ⟨below_drew wr, g1, g2, g3, g4, g5, g6⟩ | assumption | (go_split_ands; refine ⟨below_trans (by assumption) hbq, ?_, ?_, ?_, ?_, ?_, ?_⟩ <;> exact cell_later hbq (by assumption)))
        (first | (go_at_call 41; refine (cross41 (pt ps k) (pt ps k1) (pt ps k2) _ (bd_pt HD.out _) (bd_pt HD.out _) (bd_pt HD.out _)).mono ?_; rintro e w' ⟨rfl, hbq⟩))
      go_split_ands
      rename_i hbr _ _ _ _ _ _
      have hB3 := hB.trans (hbr.mono hB.size)
      rw [← HE.out]
      clear t1 t2 s1 s2 g1 g2 g3 g4 g5 g6 q1 q2 q5 q6
      by_cases hz : bendZ ps k1 < 0
      · have HZ := Lib.hid hz
        go_wp2
        go_ret2
        refine ⟨?_, hB3⟩
        have : convexZ ps = false := by
          rw [Bool.eq_false_iff]
          intro h
          have := ((convexZ_iff ps).1 h).1 k1 (by rw [← E1.out]; exact Nat.mod_lt _ (by omega))
          have := HZ.out
          omega
        rw [HV.out, this, H0.out]; rfl
      · have HZ := Lib.hid hz
        go_wp2
        go_roundw
        case rel =>
          refine ⟨k + 1, by omega, by go_num, fun j hj => ?_, hB3⟩
          by_cases e : j = k
          · subst e; rw [E1.out]; have := HZ.out; omega
          · exact HN.out j (by omega)
        case measure => simp [intOf]; omega
    · obtain rfl : k = ps.length := by omega
      go_wp2
      go_ret2
      refine ⟨?_, hB⟩
      have hall := bends_all HN.out
      have : convexZ ps = true := (convexZ_iff ps).2 ⟨hall, convex_area H0.out hall⟩
      rw [HV.out, this, H0.out]; rfl

theorem step_append_run {P : Program} {ops : Array Oper} {o : Oper} {a : Act} {w : World} {K : Act → World → Prop} {Q : Exit → Act → World → Prop} {E : Prop}
    (hg : o.guard = none) (s x : Operand) (t t' : TypeId) (hop : o.op = Op.call { callee := Callee.builtin Builtin.append, args := #[s, x], argTypes := #[t, t'] })
    (v u : Value) (hs : a.eval s = v) (hx : a.eval x = u) {v' : Value} {w' : World} (hr : (Builtin.append_ #[t, t'] o.type #[v, u]).run P w = .ok v' w') (hK : K (a.put o.dst v') w') :
    if Region.wanted o (yielded ops a.tmps) = true then Oper.wp P o a w K Q else E := by
  have hw : Region.wanted o (yielded ops a.tmps) = true := by simp [Region.wanted, hg]
  rw [if_pos hw]
  exact Lib.wp_append_run w s x t t' hop v u hs hx v' w' hr hK
theorem move_step (ps : List Z2) (d : Z2) (k : Nat) (hk : k < ps.length) : (ps.take k).map (addZ · d) ++ [addZ (pt ps k) d] = (ps.take (k + 1)).map (addZ · d) := by
  rw [List.take_succ_eq_append_getElem hk, List.map_append, pt_eq hk]; rfl
set_option maxRecDepth 100000 in
set_option maxHeartbeats 4000000 in
/-- garmentref11.Move -/
theorem move53 (A : Option Addr) (n c : Nat) (ps : List Z2) (d : Z2) (w : World) (hl : ps.length = n) (hsp : Sp w A ps) (hn : n ≤ 100000) :
    Calls Try.prog 53 #[.slice A n c, sv d] w (RetOwn w.heap.size (moveZ ps d) w) := by
  subst hl
  have HS := Lib.hid hsp; clear hsp
  go_enter Try.func53, Try.ntmps53
  go_upto_region 1 with fail
  have F := boxes1 w d
  revert F
  generalize w.alloc (.cells #[iv d.x, iv d.y] 30) = W
  rintro ⟨hW, f1, f2⟩
  go_wp2_with fail
  go_loopw [5, 6] (fun v i wr => ∃ k : Nat, k ≤ ps.length ∧ i = .int .i64 k ∧ Own wr (w.heap.size + 1) v ((ps.take k).map (addZ · d)) ∧ Below w.heap.size w wr ∧ w.heap.size + 1 ≤ wr.heap.size ∧ wr.cell? ⟨w.heap.size, 0, none⟩ = some (iv d.x) ∧ wr.cell? ⟨w.heap.size, 1, none⟩ = some (iv d.y)) (fun _ i _ => ps.length - (intOf i).toNat)
  case atStart => exact ⟨0, Nat.zero_le _, rfl, Own.nil _ _, hW, Nat.succ_le_of_lt (World.block_lt_of_cell? _ _ f1), f1, f2⟩
  case round =>
    clear hW f1 f2
    obtain ⟨k, hk, rfl, ho, hB, hsz, f1, f2⟩ := hrel
    have HO := Lib.hid ho
    clear ho
    by_cases hlt : k < ps.length
    · have hne : ps ≠ [] := by intro h; simp [h] at hlt
      obtain ⟨b, off, rfl, hc⟩ := HS.out.later hB hne
      obtain ⟨g1, g2⟩ := hc k hlt
      clear hc
      have q7 : (0 : Int) ≤ (k : Int) := by omega
      have q8 : (k : Int) < (ps.length : Int) := by omega
      have hbd : Below wr.heap.size wr (wr.alloc (.cells #[iv (addZ (pt ps k) d).x, iv (addZ (pt ps k) d).y] 30)).drew := (below_alloc wr (.cells #[iv (addZ (pt ps k) d).x, iv (addZ (pt ps k) d).y] 30)).drew
      have hsq : Sp (wr.alloc (.cells #[iv (addZ (pt ps k) d).x, iv (addZ (pt ps k) d).y] 30)).drew (some ⟨wr.heap.size, 0, none⟩) [addZ (pt ps k) d] := Sp.drew (Blk.sp (Blk.new wr 30 #[iv (addZ (pt ps k) d).x, iv (addZ (pt ps k) d).y]))
      obtain ⟨v', w4, hr, o', hg, hat⟩ := run_append_sp (wr.alloc (.cells #[iv (addZ (pt ps k) d).x, iv (addZ (pt ps k) d).y] 30)).drew (w.heap.size + 1) _ _ _ 1 1 [addZ (pt ps k) d] (HO.out.later hbd) hsq rfl (by simp; omega) (Nat.le_trans hsz hbd.size)
      have hB4 := below_trans hB hbd
      rw [move_step ps d k hlt] at o'
      have hbg := below_grown hB4 hg (fun k hk => by have := (HO.out.lt k hk).1; omega)
      have hcell : ∀ i v, wr.cell? ⟨w.heap.size, i, none⟩ = some v → w4.cell? ⟨w.heap.size, i, none⟩ = some v := fun i v hv => by
        have h1 := cell_later hbd hv
        refine (World.cell?_of_block (a := ⟨w.heap.size, i, none⟩) (hg.block w.heap.size ?_ ?_)).trans h1
        · exact World.block_lt_of_cell? _ _ h1
        · intro e; have := (HO.out.lt _ e.symm).1; omega
      have H4 := Lib.hid (And.intro o' (And.intro hbg (And.intro (Nat.le_trans hsz (Nat.le_trans hbd.size hg.size)) (And.intro (hcell 0 _ f1) (hcell 1 _ f2)))))
      clear o' hg hat hsq hB4 hbg hcell hbd
      have hr2 := hr
      simp only [addZ] at hr2
      rw [← IntWalk.i64_left, ← IntWalk.i64_left] at hr2
      clear hr
      have HR2 := Lib.hid hr2
      clear hr2
      go_wp2_with fail
      go_region_law (refine step_append_run rfl _ _ _ _ rfl _ _ (by rfl) (by rfl) HR2.out ?_)
      all_goals
        go_wp2_with fail
        go_roundw
        case rel => exact ⟨k + 1, by omega, by go_num, H4.out.1, H4.out.2.1, H4.out.2.2.1, H4.out.2.2.2.1, H4.out.2.2.2.2⟩
        case measure => simp [intOf]; omega
    · obtain rfl : k = ps.length := by omega
      go_wp2
      go_ret
      refine ⟨_, rfl, ?_, hB⟩
      have e : (ps.take ps.length).map (addZ · d) = moveZ ps d := by simp [moveZ]
      rw [← e]
      obtain ⟨h1, h2⟩ := HO.out
      refine ⟨h1, ?_⟩
      rcases h2 with h | ⟨g, cap, cur, e1, e2, e3⟩
      · exact .inl h
      · exact .inr ⟨g, cap, cur, e1, by omega, e3⟩
end Go.Proofs.Ytfgeengdmbabhaa
