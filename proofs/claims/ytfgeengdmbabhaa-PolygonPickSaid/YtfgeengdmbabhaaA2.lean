import Derived.Test.YtfgeengdmbabhaaA1
import Derived.Laws.MakeOwn
import Derived.Maps.AppendAt
import Derived.Deep.AppendLies
import Derived.OwnWalk
import Derived.Lib.AppendZeros
namespace Go.Proofs.Ytfgeengdmbabhaa
open Go.RowKit
attribute [local go_sem ↓] Go.wp_at_zero Go.wp_at_succ

/-- the cells of a list of spots -/
def flat : List Z2 → List Value
  | [] => []
  | p :: l => iv p.x :: iv p.y :: flat l
theorem flat_length (l : List Z2) : (flat l).length = l.length * 2 := by
  induction l with
  | nil => rfl
  | cons p l ih => simp only [flat, List.length_cons, ih]; omega
theorem flat_append (l m : List Z2) : flat (l ++ m) = flat l ++ flat m := by
  induction l with
  | nil => rfl
  | cons p l ih => simp [flat, ih]
theorem flat_at (l : List Z2) (k : Nat) (h : k < l.length) : (flat l)[k * 2]? = some (iv (pt l k).x) ∧ (flat l)[k * 2 + 1]? = some (iv (pt l k).y) := by
  induction l generalizing k with
  | nil => simp at h
  | cons p l ih =>
    cases k with
    | zero => simp [flat, pt]
    | succ k =>
      have e : (k + 1) * 2 = k * 2 + 1 + 1 := by omega
      have := ih k (by simpa using h)
      have e2 : pt (p :: l) (k + 1) = pt l k := by simp [pt]
      rw [e, e2]
      simpa [flat] using this
theorem flat_one (l : List Z2) : ∀ u ∈ flat l, u.oneCell' = true := by
  induction l with
  | nil => intro u hu; cases hu
  | cons p l ih =>
    intro u hu
    simp only [flat, List.mem_cons] at hu
    rcases hu with rfl | rfl | hu
    · rfl
    · rfl
    · exact ih u hu
theorem flat_set (l : List Z2) (k : Nat) (q : Z2) : ((flat l).set (k * 2) (iv q.x)).set (k * 2 + 1) (iv q.y) = flat (l.set k q) := by
  induction l generalizing k with
  | nil => rfl
  | cons p l ih =>
    cases k with
    | zero => rfl
    | succ k =>
      have e : (k + 1) * 2 = k * 2 + 1 + 1 := by omega
      rw [e]
      simp only [flat, List.set_cons_succ, ih]

/-- a block whose cells are a list of spots -/
theorem Blk.sp {w : World} {g : Nat} {l : List Z2} (h : Blk w g 30 (flat l).toArray) : Sp w (some ⟨g, 0, none⟩) l := fun _ => by
  refine ⟨g, 0, rfl, fun k hk => ?_⟩
  have := flat_at l k hk
  rw [h.cell, h.cell]
  simpa using this

theorem Blk.setSpot {w : World} {g : Nat} {l : List Z2} (h : Blk w g 30 (flat l).toArray) (k : Nat) (q : Z2) :
    Blk ((w.setCell ⟨g, k * 2, none⟩ (iv q.x)).setCell ⟨g, k * 2 + 1, none⟩ (iv q.y)) g 30 (flat (l.set k q)).toArray := by
  have h2 := (h.set_ (k * 2) (iv q.x)).set_ (k * 2 + 1) (iv q.y)
  rw [← flat_set]
  simpa using h2
theorem Try.info30 : (Try.prog.info? 30).map (fun i => (i.zero, i.size, i.bytes)) = some (some (.agg #[iv 0, iv 0]), 2, 16) := by kernel_rfl

theorem flat_zero (n : Nat) : flat (List.replicate n ⟨0, 0⟩) = List.replicate (n * 2) (iv 0) := by
  induction n with
  | zero => rfl
  | succ n ih =>
    have e : (n + 1) * 2 = n * 2 + 1 + 1 := by omega
    rw [e]
    simp only [List.replicate_succ, flat, ih]
theorem made_flat (n : Nat) : madeCells #[iv 0, iv 0] (n * 2) = (flat (List.replicate n ⟨0, 0⟩)).toArray := by
  rw [flat_zero]
  apply Array.ext
  · simp [madeCells]
  · intro i h1 h2
    simp only [madeCells, Array.getElem_map, Array.getElem_range, List.getElem_toArray, List.getElem_replicate]
    have : i % 2 = 0 ∨ i % 2 = 1 := by omega
    rcases this with h | h <;> simp [h]
theorem run_make22 (n : Nat) (hn : n ≤ 1000000000) (w : World) :
    (Instr.makeSlice 22 (.int .i64 (n : Int)) (.int .i64 (n : Int))).run Try.prog w = .ok (.slice (some ⟨w.heap.size, 0, none⟩) n n) (w.alloc (.cells (flat (List.replicate n ⟨0, 0⟩)).toArray 30)) := by
  obtain ⟨i0, hi, hz0, hz1, hz2⟩ := info_parts Try.info30
  have hr := run_make (P := Try.prog) w 22 30 i0 _ Try.underlying22 hi hz0 .i64 .i64 n n (by omega) (by omega) (by rw [hz2]; omega) (by omega)
  simp only [Int.toNat_natCast, hz1] at hr
  rw [← made_flat]
  exact hr

/-- a new slice that reads as a list -/
def RetSl (qs : List Z2) (w : World) (e : Ending) (w' : World) : Prop := ∃ A c, e = .returned (.slice A qs.length c) ∧ qs.length ≤ c ∧ Sp w' A qs ∧ Below w.heap.size w w'

def addZ (p d : Z2) : Z2 := ⟨wrap64 (p.x + d.x), wrap64 (p.y + d.y)⟩
def moveZ (ps : List Z2) (d : Z2) : List Z2 := ps.map (addZ · d)
/-- the moved list after k rounds -/
def moveTo (ps : List Z2) (d : Z2) (k : Nat) : List Z2 := (ps.take k).map (addZ · d) ++ List.replicate (ps.length - k) ⟨0, 0⟩
theorem moveTo_length (ps : List Z2) (d : Z2) (k : Nat) (hk : k ≤ ps.length) : (moveTo ps d k).length = ps.length := by simp [moveTo]; omega
theorem moveTo_set (ps : List Z2) (d : Z2) (k : Nat) (hk : k < ps.length) : (moveTo ps d k).set k (addZ (pt ps k) d) = moveTo ps d (k + 1) := by
  unfold moveTo
  have e : ps.length - k = (ps.length - (k + 1)) + 1 := by omega
  rw [List.set_append_right _ _ (by simp; omega), e, List.replicate_succ]
  have e2 : k - ((ps.take k).map (addZ · d)).length = 0 := by simp; omega
  rw [e2, List.set_cons_zero, List.take_succ_eq_append_getElem hk, pt_eq hk]
  simp only [List.map_append, List.map_cons, List.map_nil, List.append_assoc, List.cons_append, List.nil_append]
theorem moveTo_end (ps : List Z2) (d : Z2) : moveTo ps d ps.length = moveZ ps d := by simp [moveTo, moveZ]

set_option maxHeartbeats 1000000 in
/-- polyline.Move -/
theorem move88 (A : Option Addr) (c : Nat) (ps : List Z2) (d : Z2) (w : World) (hsp : Sp w A ps) (hn : ps.length ≤ 1000000000) :
    Calls Try.prog 88 #[.slice A ps.length c, sv d] w (RetSl (moveZ ps d) w) := by
  have HS := Lib.hid hsp; clear hsp
  have hmk := run_make22 ps.length hn
  go_enter Try.func88, Try.ntmps88
  go_wp2
  have F : Blk ((w.alloc (.cells #[iv d.x, iv d.y] 30)).alloc (.cells (flat (List.replicate ps.length ⟨0, 0⟩)).toArray 30)) w.heap.size 30 #[iv d.x, iv d.y] ∧ Blk ((w.alloc (.cells #[iv d.x, iv d.y] 30)).alloc (.cells (flat (List.replicate ps.length ⟨0, 0⟩)).toArray 30)) (w.heap.size + 1) 30 (flat (moveTo ps d 0)).toArray ∧ Below w.heap.size w ((w.alloc (.cells #[iv d.x, iv d.y] 30)).alloc (.cells (flat (List.replicate ps.length ⟨0, 0⟩)).toArray 30)) := by
    have G := two_new w 30 #[iv d.x, iv d.y] (flat (List.replicate ps.length ⟨0, 0⟩)).toArray
    have e : moveTo ps d 0 = List.replicate ps.length ⟨0, 0⟩ := by simp [moveTo]
    rw [e]; exact G
  revert F
  generalize ((w.alloc (.cells #[iv d.x, iv d.y] 30)).alloc (.cells (flat (List.replicate ps.length ⟨0, 0⟩)).toArray 30)) = W
  intro F
  have HF := Lib.hid F
  clear F hmk
  go_loopw [13] (fun i wr => ∃ k : Nat, k ≤ ps.length ∧ i = .int .i64 k ∧ Blk wr w.heap.size 30 #[iv d.x, iv d.y] ∧ Blk wr (w.heap.size + 1) 30 (flat (moveTo ps d k)).toArray ∧ Below w.heap.size w wr) (fun i _ => ps.length - (intOf i).toNat)
  case atStart => exact ⟨0, Nat.zero_le _, rfl, HF.out.1, HF.out.2.1, HF.out.2.2⟩
  case round =>
    clear HF
    obtain ⟨k, hk, rfl, Bd', Bm, hB⟩ := hrel
    have HBd := Lib.hid Bd'
    have HBm := Lib.hid Bm
    have f1 := Bd'.cell 0; have f2 := Bd'.cell 1
    simp at f1 f2
    have ll := Bm.lt
    by_cases hlt : k < ps.length
    · have hne : ps ≠ [] := by intro h; simp [h] at hlt
      obtain ⟨b, off, rfl, hc⟩ := HS.out.later hB hne
      obtain ⟨g1, g2⟩ := hc k hlt
      have nb : b < wr.heap.size := World.block_lt_of_cell? _ _ g1
      have v1 : ∃ v, wr.cell? ⟨w.heap.size + 1, k * 2, none⟩ = some v := by
        rw [Bm.cell]; exact ⟨_, (by simpa using (flat_at (moveTo ps d k) k (by rw [moveTo_length _ _ _ hk]; exact hlt)).1)⟩
      have v2 : ∃ v, wr.cell? ⟨w.heap.size + 1, k * 2 + 1, none⟩ = some v := by
        rw [Bm.cell]; exact ⟨_, (by simpa using (flat_at (moveTo ps d k) k (by rw [moveTo_length _ _ _ hk]; exact hlt)).2)⟩
      obtain ⟨v1, f3⟩ := v1
      obtain ⟨v2, f4⟩ := v2
      have z1 := Bm.frozen (k * 2)
      have z2 := Bm.frozen (k * 2 + 1)
      clear Bd' Bm hc
      have y1 : w.heap.size + 1 ≠ wr.heap.size := by omega
      have y2 : w.heap.size ≠ wr.heap.size := by omega
      have y3 : w.heap.size < wr.heap.size := by omega
      go_wp2
      go_roundw
      case rel =>
        have h1 := HBm.out.setSpot k (addZ (pt ps k) d)
        rw [moveTo_set ps d k hlt] at h1
        have h2 := (HBd.out.far (p := ⟨w.heap.size + 1, k * 2, none⟩) (by simp) (iv (addZ (pt ps k) d).x)).far (p := ⟨w.heap.size + 1, k * 2 + 1, none⟩) (by simp) (iv (addZ (pt ps k) d).y)
        have h3 := (hB.setCell (p := ⟨w.heap.size + 1, k * 2, none⟩) (by simp) (iv (addZ (pt ps k) d).x)).setCell (p := ⟨w.heap.size + 1, k * 2 + 1, none⟩) (by simp) (iv (addZ (pt ps k) d).y)
        have k3 := below_alloc ((wr.setCell ⟨w.heap.size + 1, k * 2, none⟩ (iv (addZ (pt ps k) d).x)).setCell ⟨w.heap.size + 1, k * 2 + 1, none⟩ (iv (addZ (pt ps k) d).y)) (.cells #[iv (pt ps k).x, iv (pt ps k).y] 30)
        exact ⟨k + 1, by omega, by go_num, h2.later k3, h1.later k3, h3.trans (k3.mono h3.size)⟩
      case measure => simp [intOf]; omega
    · obtain rfl : k = ps.length := by omega
      clear Bd' Bm
      go_wp2
      go_ret
      have h1 := HBm.out
      rw [moveTo_end] at h1
      have e : (moveZ ps d).length = ps.length := by simp [moveZ]
      exact ⟨some ⟨w.heap.size + 1, 0, none⟩, ps.length, by rw [e]; rfl, by omega, h1.sp, hB⟩

/-- polygon.Move -/
theorem move52 (A : Option Addr) (c : Nat) (ps : List Z2) (d : Z2) (w : World) (hsp : Sp w A ps) (hn : ps.length ≤ 1000000000) :
    Calls Try.prog 52 #[.slice A ps.length c, sv d] w (RetSl (moveZ ps d) w) := by
  have HS := Lib.hid hsp; clear hsp
  go_enter Try.func52, Try.ntmps52
  go_wp2_with fail
  refine (move88 A c ps d _ (HS.out.later (below_alloc _ _)) hn).mono ?_
  rintro e w1 ⟨A1, c1, rfl, h1, h2, h3⟩
  go_wp2
  go_ret
  exact ⟨A1, c1, rfl, h1, h2, below_trans (below_alloc _ _) h3⟩
end Go.Proofs.Ytfgeengdmbabhaa

namespace Go.Proofs.Ytfgeengdmbabhaa
open Go.RowKit
attribute [local go_sem ↓] Go.wp_at_zero Go.wp_at_succ

/-- a slice of the call's own that reads as a list -/
def Own (w : World) (base : Nat) (v : Value) (qs : List Z2) : Prop := w.ownsRow base 30 2 v qs.length (flat qs)

theorem Own.nil (w : World) (base : Nat) : Own w base (.slice none 0 0) [] := World.ownsRow_nil w base 30 2
theorem Own.sp {w : World} {base : Nat} {v : Value} {qs : List Z2} (h : Own w base v qs) : ∃ A c, v = .slice A qs.length c ∧ qs.length ≤ c ∧ Sp w A qs := by
  rcases h.2 with ⟨rfl, hn⟩ | ⟨g, cap, cur, rfl, hb, hg, hnc, hcm, hcs, htake⟩
  · refine ⟨none, 0, by rw [hn], by omega, fun hne => ?_⟩
    cases qs with
    | nil => exact absurd rfl hne
    | cons => simp at hn
  · refine ⟨_, cap, rfl, hnc, fun _ => ⟨g, 0, rfl, fun k hk => ?_⟩⟩
    have h1 := flat_at qs k hk
    have hB : Blk w g 30 cur := hg
    rw [hB.cell, hB.cell]
    rw [← htake, List.getElem?_take, List.getElem?_take, if_pos (by omega), if_pos (by omega)] at h1
    simpa using h1
theorem Own.later {w w' : World} {base : Nat} {v : Value} {qs : List Z2} (h : Own w base v qs) (hb : Below w.heap.size w w') : Own w' base v qs := by
  refine ⟨h.1, ?_⟩
  rcases h.2 with h' | ⟨g, cap, cur, rfl, hbb, hg, hr⟩
  · exact .inl h'
  · have hB : Blk w g 30 cur := hg
    exact .inr ⟨g, cap, cur, rfl, hbb, hB.later hb, hr⟩

/-- slices.Grow of nil -/
def RetOwn (base : Nat) (qs : List Z2) (w : World) (e : Ending) (w' : World) : Prop := ∃ v, e = .returned v ∧ Own w' base v qs ∧ Below w.heap.size w w'

set_option maxHeartbeats 400000 in
theorem grow110 (n base : Nat) (w : World) (hn : n ≤ 1000000) (hbase : base ≤ w.heap.size) : Calls Try.prog 110 #[.slice none 0 0, iv n] w (RetOwn base [] w) := by
  obtain ⟨i0, hi, hz0, hz1, hz2⟩ := info_parts Try.info30
  by_cases h0 : n = 0
  · subst h0
    go_enter Try.func110, Try.ntmps110
    go_wp2
    go_ret
    exact ⟨_, rfl, Own.nil _ _, Below.refl _ _⟩
  · have h0' : 0 < (n : Int) := by omega
    have hr := Lib.run_append_nil_zeros (P := Try.prog) w 22 3 22 30 i0 _ .i64 .i64 Try.underlying22 Try.underlying3 hi hz0 n (by omega) (by omega) (by omega) (by rw [hz2]; omega)
    have HR := Lib.hid hr
    clear hr
    have hge := grownCap_ge w n 0 30
    have hcm := grownCap_le_maxLen w n 0 30 (by unfold maxLen; omega)
    have i1 : (0 : Int) ≤ (grownCap w n 0 30 : Int) := by omega
    go_enter Try.func110, Try.ntmps110
    go_wp2_with (at_builtin; refine Lib.wpList_append_run _ rfl _ _ _ _ rfl _ _ rfl rfl _ _ HR.out ?_)
    go_ret
    refine ⟨.slice (some ⟨w.heap.size, 0, none⟩) 0 (grownCap w n 0 30), rfl, ⟨rfl, .inr ⟨w.heap.size, _, _, rfl, hbase, heap_alloc_new w.drew _, Nat.zero_le _, hcm, ?_, ?_⟩⟩, ?_⟩
    · simp only [Array.size_append, size_zeroCells]
      show n * 2 + (grownCap w n 0 30 - n) * 2 = _
      omega
    · simp [flat]
    · exact (below_alloc w _).drew

theorem add_plain (b off j : Nat) : (⟨b, off, none⟩ : Addr).add j = ⟨b, off + j, none⟩ := by unfold Addr.add; split <;> simp_all

theorem Sp.cells {w : World} {b off : Nat} {l : List Z2} (h : ∀ k, k < l.length → w.cell? ⟨b, off + k * 2, none⟩ = some (iv (pt l k).x) ∧ w.cell? ⟨b, off + k * 2 + 1, none⟩ = some (iv (pt l k).y)) :
    ∀ j u, (flat l)[j]? = some u → w.cell? ((⟨b, off, none⟩ : Addr).add j) = some u := by
  intro j u hu
  have hj : j < l.length * 2 := by
    have := (List.getElem?_eq_some_iff.1 hu).1
    rwa [flat_length] at this
  rw [add_plain]
  have hk : j / 2 < l.length := by omega
  have h1 := flat_at l (j / 2) hk
  have h2 := h (j / 2) hk
  have hc : j = j / 2 * 2 ∨ j = j / 2 * 2 + 1 := by omega
  rcases hc with e | e
  · have e2 : off + j = off + j / 2 * 2 := by omega
    rw [e2, h2.1, ← h1.1, ← e, hu]
  · have e2 : off + j = off + j / 2 * 2 + 1 := by omega
    rw [e2, h2.2, ← h1.2, ← e, hu]

/-- append(v, l...) onto a slice of the call's own -/
theorem run_append_sp (w : World) (base : Nat) (v : Value) (qs : List Z2) (A : Option Addr) (n c : Nat) (l : List Z2) (hown : Own w base v qs) (hsp : Sp w A l) (hl : l.length = n)
    (hsz : qs.length + l.length ≤ 1000000) (hbase : base ≤ w.heap.size) :
    ∃ v' w', (Builtin.append_ #[22, 22] 22 #[v, .slice A n c]).run Try.prog w = .ok v' w' ∧ Own w' base v' (qs ++ l) ∧ w.grownBy w' v.ownBlock ∧ (v'.ownBlock = v.ownBlock ∨ v'.ownBlock = some w.heap.size) := by
  obtain ⟨i0, hi, hz0, hz1, hz2⟩ := info_parts Try.info30
  subst hl
  have key : ∀ ad : Addr, (∀ j u, (flat l)[j]? = some u → w.cell? (ad.add j) = some u) → ∃ v' w', (Builtin.append_ #[22, 22] 22 #[v, .slice (some ad) l.length c]).run Try.prog w = .ok v' w' ∧ Own w' base v' (qs ++ l) ∧ w.grownBy w' v.ownBlock ∧ (v'.ownBlock = v.ownBlock ∨ v'.ownBlock = some w.heap.size) := by
    intro ad hc
    obtain ⟨v', w', h1, h2, h3, _, h5⟩ := run_append_own_at (P := Try.prog) w base 22 22 30 i0 _ 2 16 Try.underlying22 hi hz0 hz1 hz2 rfl (by omega) v qs.length (flat qs) hown ad l.length c (flat l) (flat_length l) hc (flat_one l) (by unfold maxLen; omega) (by omega) hbase
    refine ⟨v', w', h1, ?_, h3, h5⟩
    unfold Own
    rw [flat_append, List.length_append]
    exact h2
  by_cases hne : l = []
  · subst hne
    cases A with
    | some ad => exact key ad (fun j u hu => by simp [flat] at hu)
    | none =>
      refine ⟨v, w, ?_, by simpa using hown, World.grownBy.refl w _, .inl rfl⟩
      rcases hown.2 with ⟨rfl, _⟩ | ⟨g, cap, cur, rfl, _, _, hnc, _⟩
      · simp [Builtin.append_, run_underlying Try.underlying22, sizeOf, typeInfo, hi, Builtin.lenOf, Builtin.firstCells]
      · simp [Builtin.append_, run_underlying Try.underlying22, sizeOf, typeInfo, hi, Builtin.lenOf, Builtin.firstCells, hnc, storeCells]
  · obtain ⟨b, off, rfl, hc⟩ := hsp hne
    exact key _ (Sp.cells hc)

theorem Own.lt {w : World} {base : Nat} {v : Value} {qs : List Z2} (h : Own w base v qs) : ∀ k, v.ownBlock = some k → base ≤ k ∧ k < w.heap.size := World.ownsRow.lt h
/-- what is read elsewhere stays as it was -/
theorem Sp.grown {w w' : World} {A : Option Addr} {l : List Z2} {row : Option Nat} (h : Sp w A l) (hg : w.grownBy w' row) (hr : ∀ a : Addr, A = some a → some a.block ≠ row) : Sp w' A l := fun hne => by
  obtain ⟨b, off, hA, hc⟩ := h hne
  refine ⟨b, off, hA, fun k hk => ?_⟩
  have hb := World.block_lt_of_cell? _ _ (hc k hk).1
  have hblk := hg.block b hb (hr _ hA)
  exact ⟨(World.cell?_of_block (a := ⟨b, off + k * 2, none⟩) hblk).trans (hc k hk).1, (World.cell?_of_block (a := ⟨b, off + k * 2 + 1, none⟩) hblk).trans (hc k hk).2⟩
end Go.Proofs.Ytfgeengdmbabhaa

namespace Go.Proofs.Ytfgeengdmbabhaa
open Go.RowKit
attribute [local go_sem ↓] Go.wp_at_zero Go.wp_at_succ

theorem below_grown {w wr w' : World} {row : Option Nat} (h : Below w.heap.size w wr) (hg : wr.grownBy w' row) (hr : ∀ k, row = some k → w.heap.size ≤ k) : Below w.heap.size w w' := h.grown hg h.size hr

set_option maxHeartbeats 1000000 in
/-- slices.Concat of two slices -/
theorem concat76 (g c n1 n2 c1 c2 : Nat) (A1 A2 : Option Addr) (l1 l2 : List Z2) (w : World) (h1 : w.cell? ⟨g, 0, none⟩ = some (.slice A1 n1 c1)) (h2 : w.cell? ⟨g, 1, none⟩ = some (.slice A2 n2 c2))
    (e1 : l1.length = n1) (e2 : l2.length = n2) (s1 : Sp w A1 l1) (s2 : Sp w A2 l2) (hn1 : n1 ≤ 100000) (hn2 : n2 ≤ 100000) :
    Calls Try.prog 76 #[.slice (some ⟨g, 0, none⟩) 2 c] w (RetOwn w.heap.size (l1 ++ l2) w) := by
  have HS1 := Lib.hid s1; have HS2 := Lib.hid s2
  have E1 := Lib.hid e1; have E2 := Lib.hid e2
  clear s1 s2 e1 e2
  go_enter Try.func76, Try.ntmps76
  go_wp2
  go_loop [3, 11] (fun s i => (i = iv 0 ∧ s = iv 0) ∨ (i = iv 1 ∧ s = iv n1) ∨ (i = iv 2 ∧ s = iv ((n1 : Int) + n2))) (fun _ i => 2 - (intOf i).toNat)
  case atStart => exact .inl ⟨rfl, rfl⟩
  case round =>
    rcases hrel with ⟨rfl, rfl⟩ | ⟨rfl, rfl⟩ | ⟨rfl, rfl⟩
    · go_wp2
      go_round
      case rel => exact .inr (.inl ⟨rfl, rfl⟩)
      case measure => simp [intOf]
    · go_wp2
      go_round
      case rel => exact .inr (.inr ⟨rfl, rfl⟩)
      case measure => simp [intOf]
    · go_wp2_with fail
      have ec : ((n1 : Int) + (n2 : Int)) = ((n1 + n2 : Nat) : Int) := by omega
      rw [ec]
      refine (grow110 (n1 + n2) w.heap.size _ (by omega) (Nat.le_refl _)).mono ?_
      rintro e w1 ⟨v, rfl, hv, hb1⟩
      rw [← ec]
      have HV := Lib.hid hv
      clear hv ec
      go_wp2
      go_loopw [6, 27] (fun u i wr => (i = iv 0 ∧ Own wr w.heap.size u [] ∧ Below w.heap.size w wr) ∨ (i = iv 1 ∧ Own wr w.heap.size u l1 ∧ Below w.heap.size w wr) ∨ (i = iv 2 ∧ Own wr w.heap.size u (l1 ++ l2) ∧ Below w.heap.size w wr)) (fun _ i _ => 2 - (intOf i).toNat)
      case atStart => exact .inl ⟨rfl, HV.out, hb1⟩
      case round =>
        rcases hrel with ⟨rfl, ho, hB⟩ | ⟨rfl, ho, hB⟩ | ⟨rfl, ho, hB⟩
        · have k1 := cell_later hB h1
          have HO := Lib.hid ho
          clear ho h1 h2
          obtain ⟨v', w', hr, o', hg, hat⟩ := run_append_sp wr w.heap.size _ [] A1 n1 c1 l1 HO.out (HS1.out.later hB) E1.out (by have := E1.out; simp; omega) hB.size
          have HH := Lib.hid hr
          have HO2 := Lib.hid (And.intro o' (below_grown hB hg (fun k hk => (HO.out.lt k hk).1)))
          clear hr o' hg hat
          go_wp2_with (at_builtin; refine Lib.wpList_append_run _ (by rfl) _ _ _ _ (by rfl) _ _ (by rfl) (by rfl) _ _ HH.out ?_)
          go_roundw
          case rel => exact .inr (.inl ⟨rfl, by simpa using HO2.out.1, HO2.out.2⟩)
          case measure => simp [intOf]
        · have k2 := cell_later hB h2
          have HO := Lib.hid ho
          clear ho h1 h2
          obtain ⟨v', w', hr, o', hg, hat⟩ := run_append_sp wr w.heap.size _ l1 A2 n2 c2 l2 HO.out (HS2.out.later hB) E2.out (by have := E1.out; have := E2.out; omega) hB.size
          have HH := Lib.hid hr
          have HO2 := Lib.hid (And.intro o' (below_grown hB hg (fun k hk => (HO.out.lt k hk).1)))
          clear hr o' hg hat
          go_wp2_with (at_builtin; refine Lib.wpList_append_run _ (by rfl) _ _ _ _ (by rfl) _ _ (by rfl) (by rfl) _ _ HH.out ?_)
          go_roundw
          case rel => exact .inr (.inr ⟨rfl, HO2.out.1, HO2.out.2⟩)
          case measure => simp [intOf]
        · have HO := Lib.hid ho
          clear ho
          go_wp2
          go_ret
          exact ⟨_, rfl, HO.out, hB⟩
end Go.Proofs.Ytfgeengdmbabhaa

namespace Go.Proofs.Ytfgeengdmbabhaa
open Go.RowKit
attribute [local go_sem ↓] Go.wp_at_zero Go.wp_at_succ

/-- the list after i exchanges -/
def revTo (qs : List Z2) : Nat → List Z2
  | 0 => qs
  | i + 1 => ((revTo qs i).set i (pt (revTo qs i) (qs.length - 1 - i))).set (qs.length - 1 - i) (pt (revTo qs i) i)
theorem revTo_length (qs : List Z2) (i : Nat) : (revTo qs i).length = qs.length := by
  induction i with
  | zero => rfl
  | succ i ih => simp [revTo, ih]
theorem pt_set (l : List Z2) (k t : Nat) (q : Z2) (ht : t < l.length) : pt (l.set k q) t = if k = t then q else pt l t := by
  have h : t < (l.set k q).length := by simpa using ht
  rw [pt_eq h, pt_eq ht, List.getElem_set]
theorem pt_ext {l m : List Z2} (h : l.length = m.length) (hp : ∀ t, t < l.length → pt l t = pt m t) : l = m := by
  apply List.ext_getElem h
  intro t h1 h2
  have := hp t h1
  rwa [pt_eq h1, pt_eq h2] at this
theorem revTo_at (qs : List Z2) (i : Nat) (hi : 2 * i ≤ qs.length) (t : Nat) (ht : t < qs.length) : pt (revTo qs i) t = if t < i ∨ qs.length - i ≤ t then pt qs (qs.length - 1 - t) else pt qs t := by
  induction i generalizing t with
  | zero => rw [if_neg (by omega)]; rfl
  | succ i ih =>
    have hl := revTo_length qs i
    simp only [revTo]
    rw [pt_set _ _ _ _ (by simp [hl]; omega), pt_set _ _ _ _ (by omega)]
    have a1 := ih (by omega) i (by omega)
    have a2 := ih (by omega) (qs.length - 1 - i) (by omega)
    have a3 := ih (by omega) t ht
    rw [if_neg (by omega)] at a1 a2
    by_cases c1 : qs.length - 1 - i = t
    · rw [if_pos c1, a1, if_pos (by omega)]; congr 1; omega
    · rw [if_neg c1]
      by_cases c2 : i = t
      · rw [if_pos c2, a2, if_pos (by omega)]; congr 1; omega
      · rw [if_neg c2, a3]
        by_cases c3 : t < i ∨ qs.length - i ≤ t
        · rw [if_pos c3, if_pos (by omega)]
        · rw [if_neg c3, if_neg (by omega)]
theorem pt_reverse (qs : List Z2) (t : Nat) (ht : t < qs.length) : pt qs.reverse t = pt qs (qs.length - 1 - t) := by
  rw [pt_eq (by simpa using ht), pt_eq (by omega), List.getElem_reverse]
theorem revTo_end (qs : List Z2) (i : Nat) (h1 : 2 * i ≤ qs.length) (h2 : qs.length ≤ 2 * i + 1) : revTo qs i = qs.reverse := by
  apply pt_ext (by rw [revTo_length, List.length_reverse])
  intro t ht
  rw [revTo_length] at ht
  rw [revTo_at qs i h1 t ht, pt_reverse qs t ht]
  split
  · rfl
  · congr 1; omega

theorem flat_set_app (l : List Z2) (rest : List Value) (k : Nat) (q : Z2) (hk : k < l.length) : ((flat l ++ rest).set (k * 2) (iv q.x)).set (k * 2 + 1) (iv q.y) = flat (l.set k q) ++ rest := by
  have h := flat_length l
  rw [List.set_append_left _ _ (by omega), List.set_append_left _ _ (by simp; omega), flat_set]
theorem Blk.setSpotApp {w : World} {g : Nat} {l : List Z2} {rest : List Value} (h : Blk w g 30 (flat l ++ rest).toArray) (k : Nat) (q : Z2) (hk : k < l.length) :
    Blk ((w.setCell ⟨g, k * 2, none⟩ (iv q.x)).setCell ⟨g, k * 2 + 1, none⟩ (iv q.y)) g 30 (flat (l.set k q) ++ rest).toArray := by
  have h2 := (h.set_ (k * 2) (iv q.x)).set_ (k * 2 + 1) (iv q.y)
  rw [← flat_set_app l rest k q hk]
  simpa using h2
theorem Blk.cellApp {w : World} {g : Nat} {l : List Z2} {rest : List Value} (h : Blk w g 30 (flat l ++ rest).toArray) (k : Nat) (hk : k < l.length) :
    w.cell? ⟨g, k * 2, none⟩ = some (iv (pt l k).x) ∧ w.cell? ⟨g, k * 2 + 1, none⟩ = some (iv (pt l k).y) := by
  have h1 := flat_at l k hk
  have hl := flat_length l
  rw [h.cell, h.cell]
  simp only [List.getElem?_toArray]
  rw [List.getElem?_append_left (by omega), List.getElem?_append_left (by omega)]
  exact h1

theorem grown_set {a w : World} {g : Nat} (h : a.grownBy w (some g)) (o : Nat) (u : Value) : a.grownBy (w.setCell ⟨g, o, none⟩ u) (some g) :=
  ⟨h.os, h.tape, h.output, by simpa [World.setCell] using h.size, fun i hi hne => (Below.heap_setCell w ⟨g, o, none⟩ u i (by rintro rfl; exact hne rfl)).trans (h.block i hi hne)⟩
theorem grown_drew {a w : World} {row : Option Nat} (h : a.grownBy w row) : a.grownBy w.drew row := ⟨h.os, h.tape, h.output, h.size, h.block⟩

set_option maxHeartbeats 1000000 in
/-- slices.Reverse -/
theorem reverse75 (g n cap : Nat) (qs : List Z2) (rest : List Value) (w : World) (hb : Blk w g 30 (flat qs ++ rest).toArray) (hl : qs.length = n) (hn : n ≤ 100000) :
    Calls Try.prog 75 #[.slice (some ⟨g, 0, none⟩) n cap] w fun e w' => e = .returned (.tuple #[]) ∧ Blk w' g 30 (flat qs.reverse ++ rest).toArray ∧ w.grownBy w' (some g) := by
  subst hl
  have HB := Lib.hid hb
  clear hb
  go_enter Try.func75, Try.ntmps75
  go_wp2
  go_loopw [2, 3] (fun a b wr => ∃ (k : Nat) (j : Int), a = iv k ∧ b = iv j ∧ Hid (j = (qs.length : Int) - 1 - k) ∧ 2 * k ≤ qs.length ∧ Blk wr g 30 (flat (revTo qs k) ++ rest).toArray ∧ w.grownBy wr (some g)) (fun a _ _ => qs.length - (intOf a).toNat)
  case atStart => exact ⟨0, _, rfl, rfl, Lib.hid (by omega), by omega, HB.out, World.grownBy.refl w _⟩
  case round =>
    obtain ⟨k, j, rfl, rfl, HJ, hk, hb, hg⟩ := hrel
    have HB2 := Lib.hid hb
    by_cases hlt : (k : Int) < j
    · obtain ⟨m, rfl⟩ : ∃ m : Nat, j = m := ⟨j.toNat, by omega⟩
      have hj := HJ.out
      have hl := revTo_length qs k
      obtain ⟨f1, f2⟩ := hb.cellApp k (by omega)
      obtain ⟨f3, f4⟩ := hb.cellApp m (by omega)
      have z1 := hb.frozen (k * 2); have z2 := hb.frozen (k * 2 + 1); have z3 := hb.frozen (m * 2); have z4 := hb.frozen (m * 2 + 1)
      have n1 : (m : Int) < (qs.length : Int) := by omega
      have n2 : (k : Int) < (qs.length : Int) := by omega
      have n3 : (0 : Int) ≤ (k : Int) := by omega
      have n4 : (0 : Int) ≤ (m : Int) := by omega
      have d1 : k * 2 ≠ m * 2 := by omega
      have d2 : k * 2 + 1 ≠ m * 2 := by omega
      have d3 : k * 2 ≠ m * 2 + 1 := by omega
      have d4 : k * 2 + 1 ≠ m * 2 + 1 := by omega
      have d5 : k ≠ m := by omega
      clear hb hj hl
      go_wp2
      go_region
      go_wp2
      go_roundw
      case rel =>
        have hj := HJ.out
        have hl := revTo_length qs k
        have b1 := HB2.out.setSpotApp k (pt (revTo qs k) m) (by omega)
        have b2 := b1.setSpotApp m (pt (revTo qs k) k) (by simp; omega)
        have e1 : qs.length - 1 - k = m := by omega
        have e2 : ((revTo qs k).set k (pt (revTo qs k) m)).set m (pt (revTo qs k) k) = revTo qs (k + 1) := by simp only [revTo, e1]
        rw [e2] at b2
        exact ⟨k + 1, (m : Int) - 1, by go_num, rfl, Lib.hid (by omega), by omega, b2, grown_drew (grown_set (grown_set (grown_set (grown_set hg _ _) _ _) _ _) _ _)⟩
      case measure => simp [intOf]; omega
    · go_wp2
      go_end0
      have hj := HJ.out
      have b1 := HB2.out
      rw [revTo_end qs k hk (by omega)] at b1
      exact ⟨rfl, b1, hg⟩

theorem sliceBlock {w : World} {base : Nat} {v : Value} {qs : List Z2} (h : Own w base v qs) : (v = .slice none 0 0 ∧ qs = []) ∨ ∃ g cap rest, v = .slice (some ⟨g, 0, none⟩) qs.length cap ∧ base ≤ g ∧ Blk w g 30 (flat qs ++ rest).toArray ∧ qs.length ≤ cap ∧ cap ≤ maxLen ∧ (flat qs ++ rest).length = cap * 2 := by
  rcases h.2 with ⟨rfl, hn⟩ | ⟨g, cap, cur, rfl, hb, hg, hnc, hcm, hcs, htake⟩
  · exact .inl ⟨rfl, List.eq_nil_of_length_eq_zero hn⟩
  · refine .inr ⟨g, cap, cur.toList.drop (qs.length * 2), rfl, hb, ?_, hnc, hcm, ?_⟩
    · rw [← htake, List.take_append_drop]
      exact hg
    · rw [← htake, List.take_append_drop]
      simpa using hcs
theorem ownOf {w : World} {base g cap : Nat} {qs : List Z2} {rest : List Value} (hb : base ≤ g) (h : Blk w g 30 (flat qs ++ rest).toArray) (h1 : qs.length ≤ cap) (h2 : cap ≤ maxLen) (h3 : (flat qs ++ rest).length = cap * 2) :
    Own w base (.slice (some ⟨g, 0, none⟩) qs.length cap) qs := by
  refine ⟨flat_length qs, .inr ⟨g, cap, _, rfl, hb, h, h1, h2, by simpa using h3, ?_⟩⟩
  rw [← flat_length qs]
  simp

set_option maxHeartbeats 1000000 in
/-- slices.Reverse of a slice of the call's own -/
theorem reverseOwn (base : Nat) (v : Value) (qs : List Z2) (w : World) (h : Own w base v qs) (hn : qs.length ≤ 100000) :
    Calls Try.prog 75 #[v] w fun e w' => e = .returned (.tuple #[]) ∧ Own w' base v qs.reverse ∧ w.grownBy w' v.ownBlock := by
  rcases sliceBlock h with ⟨rfl, rfl⟩ | ⟨g, cap, rest, rfl, hb, hB, h1, h2, h3⟩
  · clear h
    go_enter Try.func75, Try.ntmps75
    go_wp2
    go_loopw [2, 3] (fun a b wr => a = iv 0 ∧ b = iv (-1) ∧ wr = w) (fun _ _ _ => 0)
    case atStart => exact ⟨rfl, rfl, rfl⟩
    case round =>
      obtain ⟨rfl, rfl, rfl⟩ := hrel
      go_wp2
      go_end0
      exact ⟨rfl, Own.nil _ _, World.grownBy.refl _ _⟩
  · refine (reverse75 g qs.length cap qs rest w hB rfl hn).mono ?_
    rintro e w' ⟨rfl, hB', hg⟩
    have e : qs.length = qs.reverse.length := by simp
    refine ⟨rfl, ?_, hg⟩
    rw [e]
    refine ownOf hb hB' (by simpa using h1) h2 ?_
    rw [List.length_append, flat_length] at h3 ⊢
    simpa using h3
end Go.Proofs.Ytfgeengdmbabhaa

namespace Go.Proofs.Ytfgeengdmbabhaa
open Go.RowKit
attribute [local go_sem ↓] Go.wp_at_zero Go.wp_at_succ

def cornersTo (ps : List Z2) : Nat → List Z2
  | 0 => []
  | k + 1 => if bendZ ps k = 0 then cornersTo ps k else cornersTo ps k ++ [pt ps k]
theorem cornersTo_length (ps : List Z2) (k : Nat) : (cornersTo ps k).length ≤ k := by
  induction k with
  | zero => simp [cornersTo]
  | succ k ih =>
    simp only [cornersTo]
    split
    · omega
    · rw [List.length_append, List.length_singleton]; omega
/-- the vertices that are not straight, counterclockwise -/
def corn (ps : List Z2) : List Z2 := if areaZ ps < 0 then (cornersTo ps ps.length).reverse else cornersTo ps ps.length
def lessZ (a b : Z2) : Bool := decide (a.x < b.x) || (decide (a.x = b.x) && decide (a.y < b.y))
theorem lessZ_iff (a b : Z2) : lessZ a b = true ↔ (a.x < b.x ∨ a.x = b.x ∧ a.y < b.y) := by simp [lessZ]
def firstTo (l : List Z2) : Nat → Nat
  | 0 => 0
  | k + 1 => if lessZ (pt l k) (pt l (firstTo l k)) then k else firstTo l k
theorem firstTo_lt (l : List Z2) (k : Nat) (h : 0 < k) : firstTo l k < k := by
  induction k with
  | zero => omega
  | succ k ih =>
    simp only [firstTo]
    split
    · omega
    · cases k with
      | zero => simp [firstTo]
      | succ k => have := ih (by omega); omega
def rotZ (l : List Z2) : List Z2 := l.drop (firstTo l l.length) ++ l.take (firstTo l l.length)
def normR (ps : List Z2) : List Z2 := rotZ (corn ps)
def normZ (ps : List Z2) : List Z2 := if chkZ ps = 0 then normR ps else []
theorem normZ_pos {ps : List Z2} (h : chkZ ps = 0) : normZ ps = normR ps := if_pos h
theorem normZ_neg {ps : List Z2} (h : ¬ chkZ ps = 0) : normZ ps = [] := if_neg h

/-- a new slice and a number -/
def RetSl2 (qs : List Z2) (n : Int) (w : World) (e : Ending) (w' : World) : Prop := ∃ A c, e = .returned (.tuple #[.slice A qs.length c, iv n]) ∧ qs.length ≤ c ∧ Sp w' A qs ∧ Below w.heap.size w w'

theorem Sp.drop {w : World} {b off : Nat} {l : List Z2} (h : Sp w (some ⟨b, off, none⟩) l) (f : Nat) : Sp w (some ⟨b, off + f * 2, none⟩) (l.drop f) := fun hne => by
  obtain ⟨b', off', hA, hc⟩ := h (by rintro rfl; simp at hne)
  injection hA with hA
  injection hA with h1 h2
  subst h1 h2
  refine ⟨_, _, rfl, fun k hk => ?_⟩
  simp only [List.length_drop] at hk
  have := hc (f + k) (by omega)
  have e : pt (l.drop f) k = pt l (f + k) := by simp [pt, List.getD_eq_getElem?_getD]
  rw [e]
  have e1 : off + f * 2 + k * 2 = off + (f + k) * 2 := by omega
  rw [e1]; exact this

theorem Blk.spApp {w : World} {g : Nat} {l : List Z2} {rest : List Value} (h : Blk w g 30 (flat l ++ rest).toArray) : Sp w (some ⟨g, 0, none⟩) l := fun _ => ⟨g, 0, rfl, fun k hk => by
  have := h.cellApp k hk
  simpa using this⟩
theorem concatAt (n1 n2 c1 c2 : Nat) (A1 A2 : Option Addr) (l1 l2 : List Z2) (wr : World) (e1 : l1.length = n1) (e2 : l2.length = n2) (s1 : Sp wr A1 l1) (s2 : Sp wr A2 l2) (hn1 : n1 ≤ 100000) (hn2 : n2 ≤ 100000) :
    Calls Try.prog 76 #[.slice (some ⟨wr.heap.size, 0, none⟩) 2 2] (wr.alloc (.cells #[.slice A1 n1 c1, .slice A2 n2 c2] 22)).drew (RetOwn wr.heap.size (l1 ++ l2) wr) := by
  have hb := (below_alloc wr (.cells #[.slice A1 n1 c1, .slice A2 n2 c2] 22)).drew
  refine (concat76 wr.heap.size 2 n1 n2 c1 c2 A1 A2 l1 l2 _ (by simp) (by simp) e1 e2 (s1.later hb) (s2.later hb) hn1 hn2).mono ?_
  rintro e w5 ⟨v5, rfl, ho5, hb5⟩
  refine ⟨v5, rfl, ⟨ho5.1, ?_⟩, below_trans hb hb5⟩
  rcases ho5.2 with h | ⟨g, cap, cur, h1, h2, h3⟩
  · exact .inl h
  · exact .inr ⟨g, cap, cur, h1, Nat.le_trans hb.size h2, h3⟩

set_option maxRecDepth 100000 in
set_option maxHeartbeats 4000000 in
/-- polygon.Normal -/
theorem normal32 (A : Option Addr) (c : Nat) (ps : List Z2) (w : World) (hsp : Sp w A ps) (hcap : ps.length ≤ c) :
    Calls Try.prog 32 #[.slice A ps.length c] w (RetSl2 (normZ ps) (chkZ ps) w) := by
  have HS := Lib.hid hsp; clear hsp
  by_cases h0 : chkZ ps = 0
  case neg =>
    have H0 := Lib.hid h0
    have hd : (chkZ ps != 0) = true := by simpa using h0
    clear h0
    go_enter Try.func32, Try.ntmps32
    go_wp2_with fail
    refine (check38 A c ps _ HS.out hcap).mono ?_
    rintro e w1 ⟨rfl, hb1⟩
    go_wp2
    go_ret2
    refine ⟨none, 0, ?_, ?_, ?_, hb1⟩
    · rw [normZ_neg H0.out]; rfl
    · rw [normZ_neg H0.out]; simp
    · rw [normZ_neg H0.out]; intro h; exact absurd rfl h
  case pos =>
    have H0 := Lib.hid h0
    obtain ⟨hl, hl3, hD, _, _⟩ := chkZ_zero h0
    have HD := Lib.hid hD
    clear h0 hD
    go_enter Try.func32, Try.ntmps32
    go_wp2_with fail
    refine (check38 A c ps _ HS.out hcap).mono ?_
    rintro e w1 ⟨rfl, hb1⟩
    rw [H0.out]
    go_wp2
    go_loopw [5, 19] (fun v i wr => ∃ k : Nat, k ≤ ps.length ∧ i = .int .i64 k ∧ Own wr w.heap.size v (cornersTo ps k) ∧ Below w.heap.size w wr) (fun _ i _ => ps.length - (intOf i).toNat)
    case atStart => exact ⟨0, Nat.zero_le _, rfl, Own.nil _ _, hb1⟩
    case round =>
      clear hb1
      obtain ⟨k, hk, rfl, ho, hB⟩ := hrel
      have HO := Lib.hid ho
      clear ho
      by_cases hlt : k < ps.length
      · have hne : ps ≠ [] := by intro h; simp [h] at hlt
        obtain ⟨b, off, rfl, hc⟩ := HS.out.later hB hne
        obtain ⟨g1, g2⟩ := hc k hlt
        have nb : b < wr.heap.size := World.block_lt_of_cell? _ _ g1
        clear hc
        go_wp2_with fail
        have F := boxes1 wr (pt ps k)
        revert F
        generalize wr.alloc (.cells #[iv (pt ps k).x, iv (pt ps k).y] 30) = W
        rintro ⟨hW, f1, f2⟩
        have hB2 := hB.trans (hW.mono hB.size)
        refine (bend73 _ c ps k _ (HS.out.later hB2) (by omega) hlt HD.out).mono ?_
        rintro e w2 ⟨rfl, hb2⟩
        replace f1 := cell_later hb2 f1
        replace f2 := cell_later hb2 f2
        have hB3 := hB2.trans (hb2.mono hB2.size)
        have HO3 := Lib.hid ((HO.out.later hW).later hb2)
        clear hb2 hB2 hW g1 g2 nb HO
        by_cases hz : bendZ ps k = 0
        · have hd : (bendZ ps k != 0) = false := by simpa using hz
          have HZ := Lib.hid hz
          clear hz
          go_wp2
          go_roundw
          case rel => exact ⟨k + 1, by omega, by go_num, by simp only [cornersTo]; rw [if_pos HZ.out]; exact HO3.out, hB3⟩
          case measure => simp [intOf]; omega
        · have hd : (bendZ ps k != 0) = true := by simpa using hz
          have HZ := Lib.hid hz
          clear hz
          have hsq : Sp (w2.alloc (.cells #[iv (pt ps k).x, iv (pt ps k).y] 30)) (some ⟨w2.heap.size, 0, none⟩) [pt ps k] := Blk.sp (Blk.new w2 30 #[iv (pt ps k).x, iv (pt ps k).y])
          have hcl := cornersTo_length ps k
          obtain ⟨v', w', hr, o', hg, hat⟩ := run_append_sp (w2.alloc (.cells #[iv (pt ps k).x, iv (pt ps k).y] 30)) w.heap.size _ (cornersTo ps k) _ 1 1 [pt ps k] (HO3.out.later (below_alloc _ _)) hsq rfl (by simp; omega) (Nat.le_trans hB3.size (by simp))
          have HH := Lib.hid hr
          have hB4 := hB3.trans ((below_alloc w2 (.cells #[iv (pt ps k).x, iv (pt ps k).y] 30)).mono hB3.size)
          have HO4 := Lib.hid (And.intro o' (below_grown hB4 hg (fun k hk => (HO3.out.lt k hk).1)))
          clear hr o' hg hat hsq
          go_wp2_with (at_builtin; refine Lib.wpList_append_run _ (by rfl) _ _ _ _ (by rfl) _ _ (by rfl) (by rfl) _ _ HH.out ?_)
          go_roundw
          case rel => exact ⟨k + 1, by omega, by go_num, by simp only [cornersTo]; rw [if_neg HZ.out]; exact HO4.out.1, HO4.out.2⟩
          case measure => simp [intOf]; omega
      · obtain rfl : k = ps.length := by omega
        have hcl := cornersTo_length ps ps.length
        by_cases ha : areaZ ps < 0
        case' pos =>
          have dA := decide_eq_true ha
          have HA := Lib.hid ha
          clear ha
          go_wp2_with fail
          refine (area74 A c ps _ (HS.out.later hB) (by omega) HD.out).mono ?_
          rintro e w2 ⟨rfl, hb2⟩
          have hB2 := hB.trans (hb2.mono hB.size)
          have HO2 := Lib.hid (HO.out.later hb2)
          clear HO hb2
          go_wp2_with fail
          refine (reverseOwn w.heap.size _ _ _ HO2.out (by omega)).mono ?_
          rintro e w3 ⟨rfl, ho3, hg3⟩
          have hB3 := below_grown hB2 hg3 (fun k hk => (HO2.out.lt k hk).1)
          have HO3 := Lib.hid (show Own w3 w.heap.size _ (corn ps) by unfold corn; rw [if_pos HA.out]; exact ho3)
          have HL := Lib.hid (show (corn ps).length ≤ ps.length by unfold corn; rw [if_pos HA.out]; simpa using hcl)
          clear ho3 hg3 HO2 hB2
        case' neg =>
          have dA := decide_eq_false ha
          have HA := Lib.hid ha
          clear ha
          go_wp2_with fail
          refine (area74 A c ps _ (HS.out.later hB) (by omega) HD.out).mono ?_
          rintro e w3 ⟨rfl, hb2⟩
          have hB3 := hB.trans (hb2.mono hB.size)
          have HO3 := Lib.hid (show Own w3 w.heap.size _ (corn ps) by unfold corn; rw [if_neg (by have := HA.out; omega)]; exact HO.out.later hb2)
          have HL := Lib.hid (show (corn ps).length ≤ ps.length by unfold corn; rw [if_neg (by have := HA.out; omega)]; simpa using hcl)
          clear HO hb2
        all_goals
          rcases sliceBlock HO3.out with ⟨rfl, hel⟩ | ⟨g, cap, rest, rfl, hgb, hblk, hc1, hc2, hc3⟩
          · have HEL := Lib.hid hel
            clear hel
            go_wp2_with fail
            go_loopw [8, 40] (fun u i wr => i = iv 0 ∧ u = iv 0 ∧ Below w.heap.size w wr) (fun _ _ _ => 0)
            case atStart => exact ⟨rfl, rfl, hB3⟩
            case round =>
              obtain ⟨rfl, rfl, hB4⟩ := hrel
              go_wp2_with fail
              go_region_held3 (fun w' => Below w.heap.size w w') (first | exact hB4.drew | assumption | exact Below.alloc hB4.drew hB4.size _ | exact hB4.trans (hb5.mono hB4.size))
                (first | (go_at_call 76; refine (concatAt 0 0 0 0 none none [] [] wr rfl rfl (fun h => absurd rfl h) (fun h => absurd rfl h) (by omega) (by omega)).mono ?_; rintro e w5 ⟨v5, rfl, ho5, hb5⟩))
              go_wp2
              go_ret2
              obtain ⟨A5, c5, rfl, h51, h52⟩ := ho5.sp
              refine ⟨A5, c5, ?_, ?_, ?_, hB4.trans (hb5.mono hB4.size)⟩
              · rw [normZ_pos H0.out, H0.out]; simp only [normR, rotZ, HEL.out]; rfl
              · rw [normZ_pos H0.out]; simp only [normR, rotZ, HEL.out]; exact h51
              · rw [normZ_pos H0.out]; simp only [normR, rotZ, HEL.out]; exact h52
          · have HX := Lib.hid (And.intro hblk hc3)
            clear hblk hc3 HO3
            have hll := HL.out
            go_wp2_with fail
            go_loopw [8, 40] (fun u i wr => ∃ k : Nat, k ≤ (corn ps).length ∧ i = .int .i64 k ∧ u = iv (firstTo (corn ps) k) ∧ Blk wr g 30 (flat (corn ps) ++ rest).toArray ∧ Below w.heap.size w wr) (fun _ i _ => (corn ps).length - (intOf i).toNat)
            case atStart => exact ⟨0, Nat.zero_le _, rfl, rfl, HX.out.1, hB3⟩
            case round =>
              obtain ⟨k, hk, rfl, rfl, hblk, hB4⟩ := hrel
              have HK := Lib.hid hblk
              by_cases hlt : k < (corn ps).length
              · have hf : firstTo (corn ps) k < (corn ps).length := by
                  cases k with
                  | zero => simpa [firstTo] using hlt
                  | succ k => have := firstTo_lt (corn ps) (k + 1) (by omega); omega
                have HF := Lib.hid (show firstTo (corn ps) (k + 1) = if lessZ (pt (corn ps) k) (pt (corn ps) (firstTo (corn ps) k)) then k else firstTo (corn ps) k from rfl)
                generalize firstTo (corn ps) k = f at *
                obtain ⟨f1, f2⟩ := hblk.cellApp k hlt
                obtain ⟨f3, f4⟩ := hblk.cellApp f hf
                have nb := hblk.lt
                have nb2 : g ≠ wr.heap.size := by omega
                have nb3 : g ≠ wr.heap.size + 1 := by omega
                clear hblk
                go_wp2
                all_goals
                  go_roundw
                  case rel =>
                    refine ⟨k + 1, by omega, by go_num, ?_, (HK.out.later (below_alloc _ _)).later (below_alloc _ _), hB4.trans ((below_trans (below_alloc _ _) (below_alloc _ _)).mono hB4.size)⟩
                    rw [HF.out]
                    first
                      | rw [if_pos ((lessZ_iff _ _).2 (by omega))]
                      | rw [if_neg (fun h => by have := (lessZ_iff _ _).1 h; omega)]
                  case measure => simp [intOf]; omega
              · obtain rfl : k = (corn ps).length := by omega
                have hf : firstTo (corn ps) (corn ps).length ≤ (corn ps).length := by
                  by_cases e : (corn ps).length = 0
                  · rw [e]; simp [firstTo]
                  · have := firstTo_lt (corn ps) (corn ps).length (by omega); omega
                have HR := Lib.hid (show normR ps = (corn ps).drop (firstTo (corn ps) (corn ps).length) ++ (corn ps).take (firstTo (corn ps) (corn ps).length) from rfl)
                generalize firstTo (corn ps) (corn ps).length = f at *
                have hs := Blk.spApp hblk
                have i1 : (0 : Int) ≤ (f : Int) := by omega
                have i2 : (f : Int) ≤ ((corn ps).length : Int) := by omega
                have i3 : (f : Int) ≤ (cap : Int) := by omega
                clear hblk
                have q1 : ((corn ps).take f).length = f := by simp; omega
                have q2 : ((corn ps).drop f).length = (corn ps).length - f := by simp
                have Q1 := Lib.hid q1; have Q2 := Lib.hid q2
                have HS2 := Lib.hid hs
                clear hs q1 q2
                by_cases hfc : cap = f
                · have hnil : (corn ps).drop f = [] := List.drop_eq_nil_of_le (by omega)
                  have HN := Lib.hid hnil
                  clear hnil
                  go_wp2_with fail
                  go_region_held3 (fun w' => Below w.heap.size w w') (first | exact hB4.drew | assumption | exact Below.alloc hB4.drew hB4.size _ | exact hB4.trans (hb5.mono hB4.size))
                    (first | (go_at_call 76; refine (concatAt ((corn ps).length - f) f 0 f (some ⟨g, 0, none⟩) (some ⟨g, 0, none⟩) ((corn ps).drop f) ((corn ps).take f) wr Q2.out Q1.out (fun h => absurd HN.out h) (HS2.out.take f) (by omega) (by omega)).mono ?_; rintro e w5 ⟨v5, rfl, ho5, hb5⟩))
                  go_wp2
                  go_ret2
                  obtain ⟨A5, c5, rfl, h51, h52⟩ := ho5.sp
                  refine ⟨A5, c5, ?_, ?_, ?_, hB4.trans (hb5.mono hB4.size)⟩
                  · rw [normZ_pos H0.out, H0.out, HR.out]; rfl
                  · rw [normZ_pos H0.out, HR.out]; exact h51
                  · rw [normZ_pos H0.out, HR.out]; exact h52
                · have hfc' : f ≠ cap := by omega
                  have hdr := HS2.out.drop f
                  rw [Nat.zero_add] at hdr
                  have HDR := Lib.hid hdr
                  clear hdr
                  go_wp2_with fail
                  go_region_held3 (fun w' => Below w.heap.size w w') (first | exact hB4.drew | assumption | exact Below.alloc hB4.drew hB4.size _ | exact hB4.trans (hb5.mono hB4.size))
                    (first | (go_at_call 76; refine (concatAt ((corn ps).length - f) f (cap - f) cap (some ⟨g, f * 2, none⟩) (some ⟨g, 0, none⟩) ((corn ps).drop f) ((corn ps).take f) wr Q2.out Q1.out HDR.out (HS2.out.take f) (by omega) (by omega)).mono ?_; rintro e w5 ⟨v5, rfl, ho5, hb5⟩))
                  go_wp2
                  go_ret2
                  obtain ⟨A5, c5, rfl, h51, h52⟩ := ho5.sp
                  refine ⟨A5, c5, ?_, ?_, ?_, hB4.trans (hb5.mono hB4.size)⟩
                  · rw [normZ_pos H0.out, H0.out, HR.out]; rfl
                  · rw [normZ_pos H0.out, HR.out]; exact h51
                  · rw [normZ_pos H0.out, HR.out]; exact h52
end Go.Proofs.Ytfgeengdmbabhaa

namespace Go.Proofs.Ytfgeengdmbabhaa
open Go.RowKit
attribute [local go_sem ↓] Go.wp_at_zero Go.wp_at_succ

set_option maxHeartbeats 400000 in
/-- garmentref11.Same -/
theorem same34 (A B : Option Addr) (n m c d : Nat) (ps qs : List Z2) (w : World) (e1 : ps.length = n) (e2 : qs.length = m) (h1 : Sp w A ps) (h2 : Sp w B qs) (hn : n ≤ 1000000000) :
    Calls Try.prog 34 #[.slice A n c, .slice B m d] w fun e w' => e = .returned (.bool (decide (ps = qs))) ∧ Below w.heap.size w w' := by
  subst e1 e2
  have H1 := Lib.hid h1; have H2 := Lib.hid h2
  clear h1 h2
  by_cases hl : ps.length = qs.length
  · have q0 : ((ps.length : Int) != (qs.length : Int)) = false := by simp [hl]
    have HL := Lib.hid hl
    clear hl
    go_enter Try.func34, Try.ntmps34
    go_wp2
    go_loopw [5] (fun i wr => ∃ k : Nat, k ≤ ps.length ∧ i = .int .i64 k ∧ (∀ j, j < k → pt ps j = pt qs j) ∧ Below w.heap.size w wr) (fun i _ => ps.length - (intOf i).toNat)
    case atStart => exact ⟨0, Nat.zero_le _, rfl, fun j hj => absurd hj (by omega), Below.refl _ _⟩
    case round =>
      obtain ⟨k, hk, rfl, hno, hB⟩ := hrel
      have HN := Lib.hid hno
      clear hno
      by_cases hlt : k < ps.length
      · have hlt2 : k < qs.length := by have := HL.out; omega
        have hne1 : ps ≠ [] := by intro h; simp [h] at hlt
        have hne2 : qs ≠ [] := by intro h; simp [h] at hlt2
        obtain ⟨b, off, rfl, hc⟩ := H1.out.later hB hne1
        obtain ⟨b', off', rfl, hc'⟩ := H2.out.later hB hne2
        obtain ⟨g1, g2⟩ := hc k hlt
        obtain ⟨g3, g4⟩ := hc' k hlt2
        have he := fun w => neq30 (pt ps k) (pt qs k) w
        have i1 : (0 : Int) ≤ (k : Int) := by omega
        have i2 : (k : Int) < (ps.length : Int) := by omega
        have i3 : (k : Int) < (qs.length : Int) := by omega
        clear hc hc' hne1 hne2
        go_wp2
        go_region_held3 (fun w' => Below w.heap.size w w' ∧ w'.cell? ⟨b, off + k * 2, none⟩ = some (iv (pt ps k).x) ∧ w'.cell? ⟨b, off + k * 2 + 1, none⟩ = some (iv (pt ps k).y) ∧ w'.cell? ⟨b', off' + k * 2, none⟩ = some (iv (pt qs k).x) ∧ w'.cell? ⟨b', off' + k * 2 + 1, none⟩ = some (iv (pt qs k).y)) (first | exact ⟨hB.drew, g1, g2, g3, g4⟩ | assumption) (fail)
        go_split_ands
        clear he
        cases hz : eqZ (pt ps k) (pt qs k)
        case true =>
          have HZ := Lib.hid hz
          clear hz
          go_wp2
          go_roundw
          case rel =>
            refine ⟨k + 1, by omega, by go_num, fun j hj => ?_, by assumption⟩
            by_cases e : j = k
            · subst e; simpa [eqZ] using HZ.out
            · exact HN.out j (by omega)
          case measure => simp [intOf]; omega
        case false =>
          have HZ := Lib.hid hz
          clear hz
          go_wp2
          go_ret
          refine ⟨ret_bool ?_, by assumption⟩
          symm
          rw [decide_eq_false_iff_not]
          rintro rfl
          have := HZ.out
          simp [eqZ] at this
      · go_wp2
        go_ret
        refine ⟨ret_bool ?_, hB⟩
        symm
        rw [decide_eq_true_iff]
        exact pt_ext HL.out (fun t ht => HN.out t (by omega))
  · have q0 : ((ps.length : Int) != (qs.length : Int)) = true := by simp; omega
    have HL := Lib.hid hl
    clear hl
    go_enter Try.func34, Try.ntmps34
    go_wp2
    go_ret
    refine ⟨ret_bool ?_, Below.refl _ _⟩
    symm
    rw [decide_eq_false_iff_not]
    rintro rfl
    exact HL.out rfl

/-- garmentlaw11.few -/
theorem few30 (A : Option Addr) (n c : Nat) (w : World) : Calls Try.prog 30 #[.slice A n c] w fun e w' => e = .returned (.bool (decide (n ≤ 50))) ∧ w = w' := by
  go_enter Try.func30, Try.ntmps30
  go_wp2
  go_ret
  exact ⟨ret_bool (by rw [Bool.eq_iff_iff]; simp; omega), rfl⟩

/-- the chapter's polygons -/
def sqZ : List Z2 := [⟨0, 0⟩, ⟨4, 0⟩, ⟨4, 4⟩, ⟨0, 4⟩]
def longZ : List Z2 := [⟨4, 4⟩, ⟨4, 0⟩, ⟨2, 0⟩, ⟨0, 0⟩, ⟨0, 4⟩]
def elZ : List Z2 := [⟨0, 0⟩, ⟨4, 0⟩, ⟨4, 2⟩, ⟨2, 2⟩, ⟨2, 4⟩, ⟨0, 4⟩]
def crossedZ : List Z2 := [⟨0, 0⟩, ⟨4, 4⟩, ⟨4, 0⟩, ⟨0, 4⟩]

theorem ex_norm : normZ longZ = sqZ ∧ chkZ longZ = 0 := by decide +kernel
theorem ex_w1 : whereZ sqZ ⟨1, 1⟩ = 1 ∧ whereZ sqZ ⟨4, 2⟩ = 0 ∧ chkZ sqZ = 0 ∧ whereZ elZ ⟨3, 3⟩ = -1 ∧ chkZ elZ = 0 := by decide +kernel
theorem ex_box : boxZ elZ = ⟨0, 0, 4, 4⟩ ∧ cvZ sqZ = true ∧ cvZ elZ = false := by decide +kernel
theorem ex_area : aZ sqZ = 32 ∧ aZ longZ = -32 ∧ aZ crossedZ = 0 ∧ chkZ crossedZ = 11 ∧ chkZ (sqZ.take 2) = 11 := by decide +kernel
end Go.Proofs.Ytfgeengdmbabhaa

namespace Go.Proofs.Ytfgeengdmbabhaa
open Go.RowKit
attribute [local go_sem ↓] Go.wp_at_zero Go.wp_at_succ

theorem eql41 (a b : R4) (w : World) : (binOp .eql 41 (rv a) (rv b)).run Try.prog w = .ok (.bool (decide (a = b))) w := by
  obtain ⟨a1, a2, a3, a4⟩ := a
  obtain ⟨b1, b2, b3, b4⟩ := b
  by_cases h1 : a1 = b1
  · subst h1
    by_cases h2 : a2 = b2
    · subst h2
      by_cases h3 : a3 = b3
      · subst h3
        by_cases h4 : a4 = b4
        · subst h4; go_simp
        · go_simp
      · go_simp
    · go_simp
  · go_simp


theorem normal_long (A : Option Addr) (w : World) (h : Sp w A longZ) : Calls Try.prog 32 #[.slice A 5 5] w (RetSl2 sqZ 0 w) := by
  have := normal32 A 5 longZ w h (by decide)
  rw [ex_norm.1, ex_norm.2] at this
  exact this
theorem where_sq (A : Option Addr) (n : Int) (q : Z2) (w : World) (h : Sp w A sqZ) (hw : whereZ sqZ q = n) : Calls Try.prog 35 #[.slice A 4 4, sv q] w fun e w' => e = .returned (.tuple #[iv n, iv 0]) ∧ Below w.heap.size w w' := by
  have := where35 A 4 sqZ q w h (by decide)
  rw [hw, ex_w1.2.2.1] at this
  exact this
theorem where_el (A : Option Addr) (w : World) (h : Sp w A elZ) : Calls Try.prog 35 #[.slice A 6 6, sv ⟨3, 3⟩] w fun e w' => e = .returned (.tuple #[iv (-1), iv 0]) ∧ Below w.heap.size w w' := by
  have := where35 A 6 elZ ⟨3, 3⟩ w h (by decide)
  rw [ex_w1.2.2.2.1, ex_w1.2.2.2.2] at this
  exact this
theorem box_el (A : Option Addr) (w : World) (h : Sp w A elZ) : Calls Try.prog 42 #[.slice A 6 6] w fun e w' => e = .returned (.tuple #[rv ⟨0, 0, 4, 4⟩, iv 0]) ∧ Below w.heap.size w w' := by
  have := box42 A 6 elZ w h (by decide)
  rw [ex_box.1, ex_w1.2.2.2.2] at this
  exact this
theorem convex_sq (A : Option Addr) (w : World) (h : Sp w A sqZ) : Calls Try.prog 44 #[.slice A 4 4] w fun e w' => e = .returned (.tuple #[.bool true, iv 0]) ∧ Below w.heap.size w w' := by
  have := convex44 A 4 sqZ w h (by decide)
  rw [ex_box.2.1, ex_w1.2.2.1] at this
  exact this
theorem convex_el (A : Option Addr) (w : World) (h : Sp w A elZ) : Calls Try.prog 44 #[.slice A 6 6] w fun e w' => e = .returned (.tuple #[.bool false, iv 0]) ∧ Below w.heap.size w w' := by
  have := convex44 A 6 elZ w h (by decide)
  rw [ex_box.2.2, ex_w1.2.2.2.2] at this
  exact this
theorem area_sq (A : Option Addr) (w : World) (h : Sp w A sqZ) : Calls Try.prog 39 #[.slice A 4 4] w fun e w' => e = .returned (iv 32) ∧ Below w.heap.size w w' := by
  have := area2_39 A 4 sqZ w h (by decide)
  rw [ex_area.1] at this
  exact this
theorem area_long (A : Option Addr) (w : World) (h : Sp w A longZ) : Calls Try.prog 39 #[.slice A 5 5] w fun e w' => e = .returned (iv (-32)) ∧ Below w.heap.size w w' := by
  have := area2_39 A 5 longZ w h (by decide)
  rw [ex_area.2.1] at this
  exact this
theorem area_crossed (A : Option Addr) (w : World) (h : Sp w A crossedZ) : Calls Try.prog 39 #[.slice A 4 4] w fun e w' => e = .returned (iv 0) ∧ Below w.heap.size w w' := by
  have := area2_39 A 4 crossedZ w h (by decide)
  rw [ex_area.2.2.1] at this
  exact this
theorem check_crossed (A : Option Addr) (w : World) (h : Sp w A crossedZ) : Calls Try.prog 38 #[.slice A 4 4] w fun e w' => e = .returned (iv 11) ∧ Below w.heap.size w w' := by
  have := check38 A 4 crossedZ w h (by decide)
  rw [ex_area.2.2.2.1] at this
  exact this
theorem check_sq2 (A : Option Addr) (w : World) (h : Sp w A sqZ) : Calls Try.prog 38 #[.slice A 2 4] w fun e w' => e = .returned (iv 11) ∧ Below w.heap.size w w' := by
  have := check38 A 4 (sqZ.take 2) w (h.take 2) (by decide)
  rw [ex_area.2.2.2.2] at this
  exact this

/-- what the walk of awake keeps -/
structure AW (w W : World) : Prop where
  s : Sp W (some ⟨w.heap.size, 0, none⟩) sqZ
  l : Sp W (some ⟨w.heap.size + 1, 0, none⟩) longZ
  b : Sp W (some ⟨w.heap.size + 1 + 1, 0, none⟩) elZ
  h : Below w.heap.size w W
theorem AW.later {w W W' : World} (a : AW w W) (hb : Below W.heap.size W W') : AW w W' := ⟨a.s.later hb, a.l.later hb, a.b.later hb, a.h.trans (hb.mono a.h.size)⟩
theorem AW.new (w : World) : AW w (((w.alloc (.cells (flat sqZ).toArray 30)).alloc (.cells (flat longZ).toArray 30)).alloc (.cells (flat elZ).toArray 30)) := by
  have h1 := two_new w 30 (flat sqZ).toArray (flat longZ).toArray
  have hs : ((w.alloc (.cells (flat sqZ).toArray 30)).alloc (.cells (flat longZ).toArray 30)).heap.size = w.heap.size + 1 + 1 := by simp
  generalize ((w.alloc (.cells (flat sqZ).toArray 30)).alloc (.cells (flat longZ).toArray 30)) = W at *
  have h2 := Blk.new W 30 (flat elZ).toArray
  have h3 := below_alloc W (.cells (flat elZ).toArray 30)
  rw [hs] at h2
  exact ⟨(h1.1.later h3).sp, (h1.2.1.later h3).sp, h2.sp, below_trans h1.2.2 h3⟩

set_option maxRecDepth 100000 in
set_option maxHeartbeats 4000000 in
/-- garmentlaw11.awake -/
theorem awake31 (w : World) : Calls Try.prog 31 #[] w fun e w' => e = .returned (.bool true) ∧ Below w.heap.size w w' := by
  go_enter Try.func31, Try.ntmps31
  go_wp2_with fail
  have HA := Lib.hid (AW.new w)
  simp only [flat, sqZ, longZ, elZ] at HA
  revert HA
  generalize (((w.alloc (.cells #[iv 0, iv 0, iv 4, iv 0, iv 4, iv 4, iv 0, iv 4] 30)).alloc (.cells #[iv 4, iv 4, iv 4, iv 0, iv 2, iv 0, iv 0, iv 0, iv 0, iv 4] 30)).alloc (.cells #[iv 0, iv 0, iv 4, iv 0, iv 4, iv 2, iv 2, iv 2, iv 2, iv 4, iv 0, iv 4] 30)) = W
  intro HA
  refine (normal_long _ _ HA.out.l).mono ?_
  rintro e w1 ⟨A1, c1, rfl, _, hs1, hb⟩
  have HA1 := Lib.hid (And.intro (HA.out.later hb) hs1)
  clear HA hb hs1
  go_wp2_with fail
  refine (where_sq _ 1 ⟨1, 1⟩ _ HA1.out.1.s ex_w1.1).mono ?_
  rintro e w2 ⟨rfl, hb⟩
  have HA2 := Lib.hid (And.intro (HA1.out.1.later hb) (HA1.out.2.later hb))
  clear HA1 hb
  go_wp2_with fail
  refine (where_sq _ 0 ⟨4, 2⟩ _ HA2.out.1.s ex_w1.2.1).mono ?_
  rintro e w3 ⟨rfl, hb⟩
  have HA3 := Lib.hid (And.intro (HA2.out.1.later hb) (HA2.out.2.later hb))
  clear HA2 hb
  go_wp2_with fail
  refine (where_el _ _ HA3.out.1.b).mono ?_
  rintro e w4 ⟨rfl, hb⟩
  have HA4 := Lib.hid (And.intro (HA3.out.1.later hb) (HA3.out.2.later hb))
  clear HA3 hb
  go_wp2_with fail
  refine (box_el _ _ HA4.out.1.b).mono ?_
  rintro e w5 ⟨rfl, hb⟩
  have HA5 := Lib.hid (And.intro (HA4.out.1.later hb) (HA4.out.2.later hb))
  clear HA4 hb
  go_wp2_with fail
  have hb := below_alloc w5 (.cells #[iv 0, iv 0, iv 4, iv 4] 41)
  have hk := Blk.new w5 41 #[iv 0, iv 0, iv 4, iv 4]
  have HA6 := Lib.hid (And.intro (HA5.out.1.later hb) (And.intro (HA5.out.2.later hb) hk))
  clear HA5 hb hk
  refine (convex_sq _ _ HA6.out.1.s).mono ?_
  rintro e w7 ⟨rfl, hb⟩
  have HA7 := Lib.hid (And.intro (HA6.out.1.later hb) (And.intro (HA6.out.2.1.later hb) (HA6.out.2.2.later hb)))
  clear HA6 hb
  go_wp2_with fail
  refine (convex_el _ _ HA7.out.1.b).mono ?_
  rintro e w8 ⟨rfl, hb⟩
  have HA8 := Lib.hid (And.intro (HA7.out.1.later hb) (And.intro (HA7.out.2.1.later hb) (HA7.out.2.2.later hb)))
  clear HA7 hb
  go_wp2_with fail
  have hb := below_alloc w8 (.cells (flat crossedZ).toArray 30)
  have hk := (Blk.new w8 30 (flat crossedZ).toArray).sp
  have HA9 := Lib.hid (And.intro (HA8.out.1.later hb) (And.intro (HA8.out.2.1.later hb) (And.intro (HA8.out.2.2.later hb) hk)))
  clear HA8 hb hk
  refine (same34 A1 (some ⟨w.heap.size, 0, none⟩) sqZ.length 4 c1 4 sqZ sqZ _ rfl rfl HA9.out.2.1 HA9.out.1.s (by decide)).mono ?_
  rintro e w10 ⟨rfl, hb⟩
  rw [decide_eq_true (show sqZ = sqZ from rfl)]
  have HA10 := Lib.hid (And.intro (HA9.out.1.later hb) (And.intro (HA9.out.2.2.1.later hb) (HA9.out.2.2.2.later hb)))
  clear HA9 hb
  have r0 := HA10.out.2.1.cell 0; have r1 := HA10.out.2.1.cell 1; have r2 := HA10.out.2.1.cell 2; have r3 := HA10.out.2.1.cell 3
  simp at r0 r1 r2 r3
  have he := fun w => eql41 ⟨0, 0, 4, 4⟩ ⟨0, 0, 4, 4⟩ w
  go_wp2_with fail
  clear he r0 r1 r2 r3
  refine (area_sq _ _ HA10.out.1.s).mono ?_
  rintro e w11 ⟨rfl, hb⟩
  have HA11 := Lib.hid (And.intro (HA10.out.1.later hb) (HA10.out.2.2.later hb))
  clear HA10 hb
  go_wp2_with fail
  refine (area_long _ _ HA11.out.1.l).mono ?_
  rintro e w12 ⟨rfl, hb⟩
  have HA12 := Lib.hid (And.intro (HA11.out.1.later hb) (HA11.out.2.later hb))
  clear HA11 hb
  go_wp2_with fail
  refine (area_crossed _ _ HA12.out.2).mono ?_
  rintro e w13 ⟨rfl, hb⟩
  have HA13 := Lib.hid (And.intro (HA12.out.1.later hb) (HA12.out.2.later hb))
  clear HA12 hb
  go_wp2_with fail
  refine (check_crossed _ _ HA13.out.2).mono ?_
  rintro e w14 ⟨rfl, hb⟩
  have HA14 := Lib.hid (And.intro (HA13.out.1.later hb) (HA13.out.2.later hb))
  clear HA13 hb
  go_wp2_with fail
  refine (check_sq2 _ _ HA14.out.1.s).mono ?_
  rintro e w15 ⟨rfl, hb⟩
  have HA15 := Lib.hid (HA14.out.1.later hb)
  clear HA14 hb
  go_wp2
  go_ret
  exact ⟨rfl, HA15.out.h⟩
end Go.Proofs.Ytfgeengdmbabhaa

namespace Go.Proofs.Ytfgeengdmbabhaa
open Go.RowKit
attribute [local go_sem ↓] Go.wp_at_zero Go.wp_at_succ

theorem where35' (A : Option Addr) (n c : Nat) (ps : List Z2) (q : Z2) (w : World) (hl : ps.length = n) (hsp : Sp w A ps) (hcap : n ≤ c) :
    Calls Try.prog 35 #[.slice A n c, sv q] w fun e w' => e = .returned (.tuple #[iv (whereZ ps q), iv (chkZ ps)]) ∧ Below w.heap.size w w' := by subst hl; exact where35 A c ps q w hsp hcap
theorem check38' (A : Option Addr) (n c : Nat) (ps : List Z2) (w : World) (hl : ps.length = n) (hsp : Sp w A ps) (hcap : n ≤ c) :
    Calls Try.prog 38 #[.slice A n c] w fun e w' => e = .returned (iv (chkZ ps)) ∧ Below w.heap.size w w' := by subst hl; exact check38 A c ps w hsp hcap
theorem area2_39' (A : Option Addr) (n c : Nat) (ps : List Z2) (w : World) (hl : ps.length = n) (hsp : Sp w A ps) (hcap : n ≤ c) :
    Calls Try.prog 39 #[.slice A n c] w fun e w' => e = .returned (iv (aZ ps)) ∧ Below w.heap.size w w' := by subst hl; exact area2_39 A c ps w hsp hcap
theorem box42' (A : Option Addr) (n c : Nat) (ps : List Z2) (w : World) (hl : ps.length = n) (hsp : Sp w A ps) (hcap : n ≤ c) :
    Calls Try.prog 42 #[.slice A n c] w fun e w' => e = .returned (.tuple #[rv (boxZ ps), iv (chkZ ps)]) ∧ Below w.heap.size w w' := by subst hl; exact box42 A c ps w hsp hcap
theorem normal32' (A : Option Addr) (n c : Nat) (ps : List Z2) (w : World) (hl : ps.length = n) (hsp : Sp w A ps) (hcap : n ≤ c) :
    Calls Try.prog 32 #[.slice A n c] w (RetSl2 (normZ ps) (chkZ ps) w) := by subst hl; exact normal32 A c ps w hsp hcap

theorem aZ_bd (ps : List Z2) : -9000000000000000000 ≤ aZ ps ∧ aZ ps ≤ 9000000000000000000 := by
  by_cases h : chkZ ps = 0
  · rw [aZ_pos h]
    obtain ⟨h1, _, h2, _⟩ := chkZ_zero h
    have := areaTo_bd h2 ps.length
    unfold areaZ
    omega
  · rw [aZ_neg h]; omega

/-- the last j elements, backwards -/
theorem rev_step (ps : List Z2) (j : Nat) (hj : j < ps.length) : (ps.drop (j + 1)).reverse ++ [pt ps j] = (ps.drop j).reverse := by
  rw [List.drop_eq_getElem_cons hj, List.reverse_cons, pt_eq hj]

set_option maxHeartbeats 1000000 in
/-- garmentref11.Reversed -/
theorem reversed37 (A : Option Addr) (c : Nat) (ps : List Z2) (w : World) (hsp : Sp w A ps) (hn : ps.length ≤ 100000) :
    Calls Try.prog 37 #[.slice A ps.length c] w (RetOwn w.heap.size ps.reverse w) := by
  have HS := Lib.hid hsp; clear hsp
  go_enter Try.func37, Try.ntmps37
  go_wp2
  go_loopw [3, 4] (fun v i wr => ∃ k : Nat, k ≤ ps.length ∧ i = iv ((k : Int) - 1) ∧ Own wr w.heap.size v (ps.drop k).reverse ∧ Below w.heap.size w wr) (fun _ i _ => (intOf i + 1).toNat)
  case atStart => exact ⟨ps.length, Nat.le_refl _, rfl, by simp; exact Own.nil _ _, Below.refl _ _⟩
  case round =>
    obtain ⟨k, hk, rfl, ho, hB⟩ := hrel
    have HO := Lib.hid ho
    clear ho
    cases k with
    | zero =>
      go_wp2
      go_ret
      exact ⟨_, rfl, by simpa using HO.out, hB⟩
    | succ j =>
      have ej : ((j + 1 : Nat) : Int) - 1 = (j : Int) := by omega
      rw [ej]
      have hlt : j < ps.length := by omega
      have hne : ps ≠ [] := by intro h; simp [h] at hlt
      obtain ⟨b, off, rfl, hc⟩ := HS.out.later hB hne
      obtain ⟨g1, g2⟩ := hc j hlt
      have nb : b < wr.heap.size := World.block_lt_of_cell? _ _ g1
      have hsq : Sp (wr.alloc (.cells #[iv (pt ps j).x, iv (pt ps j).y] 30)) (some ⟨wr.heap.size, 0, none⟩) [pt ps j] := Blk.sp (Blk.new wr 30 #[iv (pt ps j).x, iv (pt ps j).y])
      obtain ⟨v', w', hr, o', hg, hat⟩ := run_append_sp (wr.alloc (.cells #[iv (pt ps j).x, iv (pt ps j).y] 30)) w.heap.size _ _ _ 1 1 [pt ps j] (HO.out.later (below_alloc _ _)) hsq rfl (by simp; omega) (Nat.le_trans hB.size (by simp))
      have HH := Lib.hid hr
      have hB4 := hB.trans ((below_alloc wr (.cells #[iv (pt ps j).x, iv (pt ps j).y] 30)).mono hB.size)
      rw [rev_step ps j hlt] at o'
      have HO4 := Lib.hid (And.intro o' (below_grown hB4 hg (fun k hk => (HO.out.lt k hk).1)))
      clear hr o' hg hat hsq hc ej
      go_wp2_with (at_builtin; refine Lib.wpList_append_run _ (by rfl) _ _ _ _ (by rfl) _ _ (by rfl) (by rfl) _ _ HH.out ?_)
      go_roundw
      case rel => exact ⟨j, by omega, rfl, HO4.out.1, HO4.out.2⟩
      case measure => simp [intOf]

set_option maxRecDepth 100000 in
set_option maxHeartbeats 1000000 in
/-- garmentlaw11.PolygonReverse, out of the plain laws -/
theorem lawReverse (A : Option Addr) (c : Nat) (ps : List Z2) (q : Z2) (w : World) (hsp : Sp w A ps) (hcap : ps.length ≤ c)
    (p1 : chkZ ps.reverse = chkZ ps) (p2 : aZ ps.reverse = - aZ ps) (p3 : whereZ ps.reverse q = whereZ ps q) :
    Calls Try.prog 10 #[.slice A ps.length c, sv q] w fun e w' => e = .returned (.bool true) ∧ Below w.heap.size w w' := by
  have HS := Lib.hid hsp; clear hsp
  have P1 := Lib.hid p1; have P2 := Lib.hid p2; have P3 := Lib.hid p3
  clear p1 p2 p3
  have hbd := aZ_bd ps
  by_cases hf : ps.length ≤ 50
  · have dF := decide_eq_true hf
    go_enter Try.func10, Try.ntmps10
    go_wp2_with fail
    refine (few30 _ _ _ _).mono ?_
    rintro e w1 ⟨rfl, rfl⟩
    have F := boxes1 w q
    revert F
    generalize w.alloc (.cells #[iv q.x, iv q.y] 30) = W
    rintro ⟨hW, f1, f2⟩
    rw [dF]
    clear dF
    go_wp2_with fail
    refine (reversed37 A c ps _ (HS.out.later hW) (by omega)).mono ?_
    rintro e w1 ⟨v, rfl, ho, hb⟩
    obtain ⟨A', c', rfl, hc', hs'⟩ := ho.sp
    replace f1 := cell_later hb f1; replace f2 := cell_later hb f2
    have H1 := Lib.hid (And.intro (below_trans hW hb) hs')
    clear ho hs' hb hW
    go_wp2_with fail
    refine (where35 A c ps q _ (HS.out.later H1.out.1) hcap).mono ?_
    rintro e w2 ⟨rfl, hb⟩
    replace f1 := cell_later hb f1; replace f2 := cell_later hb f2
    have H2 := Lib.hid (And.intro (below_trans H1.out.1 hb) (H1.out.2.later hb))
    clear hb H1
    go_wp2_with fail
    refine (where35' A' _ c' ps.reverse q _ (by simp) H2.out.2 (by simpa using hc')).mono ?_
    rintro e w3 ⟨rfl, hb⟩
    have H3 := Lib.hid (And.intro (below_trans H2.out.1 hb) (H2.out.2.later hb))
    clear hb H2 f1 f2
    rw [P1.out, P3.out]
    go_wp2_with fail
    refine (check38' A' _ c' ps.reverse _ (by simp) H3.out.2 (by simpa using hc')).mono ?_
    rintro e w4 ⟨rfl, hb⟩
    have H4 := Lib.hid (And.intro (below_trans H3.out.1 hb) (H3.out.2.later hb))
    clear hb H3
    rw [P1.out]
    go_wp2_with fail
    refine (check38 A c ps _ (HS.out.later H4.out.1) hcap).mono ?_
    rintro e w5 ⟨rfl, hb⟩
    have H5 := Lib.hid (And.intro (below_trans H4.out.1 hb) (H4.out.2.later hb))
    clear hb H4
    go_wp2_with fail
    refine (area2_39' A' _ c' ps.reverse _ (by simp) H5.out.2 (by simpa using hc')).mono ?_
    rintro e w6 ⟨rfl, hb⟩
    have H6 := Lib.hid (below_trans H5.out.1 hb)
    clear hb H5
    rw [P2.out]
    go_wp2_with fail
    refine (area2_39 A c ps _ (HS.out.later H6.out) hcap).mono ?_
    rintro e w7 ⟨rfl, hb⟩
    have H7 := Lib.hid (below_trans H6.out hb)
    clear hb H6
    go_wp2_with fail
    refine (awake31 _).mono ?_
    rintro e w8 ⟨rfl, hb⟩
    have H8 := Lib.hid (below_trans H7.out hb)
    clear hb H7
    go_wp2
    go_ret
    exact ⟨rfl, H8.out⟩
  · have dF := decide_eq_false hf
    go_enter Try.func10, Try.ntmps10
    go_wp2_with fail
    refine (few30 _ _ _ _).mono ?_
    rintro e w1 ⟨rfl, rfl⟩
    rw [dF]
    go_wp2_with fail
    refine (awake31 _).mono ?_
    rintro e w8 ⟨rfl, hb⟩
    go_wp2
    go_ret
    exact ⟨rfl, below_trans (below_alloc _ _) hb⟩
end Go.Proofs.Ytfgeengdmbabhaa

namespace Go.Proofs.Ytfgeengdmbabhaa
open Go.RowKit
attribute [local go_sem ↓] Go.wp_at_zero Go.wp_at_succ

set_option maxHeartbeats 400000 in
/-- garmentref11.Cross -/
theorem cross41 (a b c : Z2) (w : World) (ha : Bd a) (hb : Bd b) (hc : Bd c) :
    Calls Try.prog 41 #[sv a, sv b, sv c] w fun e w' => e = .returned (iv (crZ a b c)) ∧ Below w.heap.size w w' := by
  have HE := Lib.hid (crZ_wrap ha hb hc)
  obtain ⟨a1, a2, a3, a4⟩ := ha
  obtain ⟨b1, b2, b3, b4⟩ := hb
  obtain ⟨c1, c2, c3, c4⟩ := hc
  go_enter Try.func41, Try.ntmps41
  go_wp2
  go_ret
  exact ⟨ret_int HE.out, (((Below.refl _ _).alloc (Nat.le_refl _) _).alloc (by simp) _).alloc (by simp; omega) _⟩

set_option maxHeartbeats 400000 in
/-- garmentref11.sign -/
theorem sign126 (n : Int) (w : World) : Calls Try.prog 126 #[iv n] w fun e w' => e = .returned (iv (sgn n)) ∧ w = w' := by
  go_enter Try.func126, Try.ntmps126
  go_wp2
  all_goals
    go_ret
    exact ⟨ret_int (by unfold sgn; first | (rw [if_pos (by omega)]) | (rw [if_neg (by omega), if_pos (by omega)]) | (rw [if_neg (by omega), if_neg (by omega)])), rfl⟩

set_option maxHeartbeats 400000 in
/-- garmentref11.Between -/
theorem between111 (a b c : Z2) (w : World) (ha : Bd a) (hb : Bd b) (hc : Bd c) :
    Calls Try.prog 111 #[sv a, sv b, sv c] w fun e w' => e = .returned (.bool (onZ a b c)) ∧ Below w.heap.size w w' := by
  go_enter Try.func111, Try.ntmps111
  go_wp2_with fail
  refine (cross41 a b c _ ha hb hc).mono ?_
  rintro e w1 ⟨rfl, hb1⟩
  obtain ⟨hcl, hfr⟩ := bcell hb1
  go_wp2_with fail
  all_goals
    go_ret
    refine ⟨ret_bool ?_, (((((Below.refl _ _).alloc (Nat.le_refl _) _).alloc (by simp) _).alloc (by simp; omega) _).trans (hb1.mono (by simp; omega)))⟩
    rw [Bool.eq_iff_iff]
    simp [onZ]
    omega

set_option maxHeartbeats 400000 in
/-- garmentref11.Within at MaxCoord -/
theorem within43 (a : Z2) (w : World) : Calls Try.prog 43 #[sv a, iv 1048576] w fun e w' => e = .returned (.bool (!outZ a)) ∧ Below w.heap.size w w' := by
  go_enter Try.func43, Try.ntmps43
  go_wp2
  all_goals
    go_ret
    refine ⟨ret_bool ?_, below_alloc _ _⟩
    rw [Bool.eq_iff_iff]
    simp [outZ]
    try omega
end Go.Proofs.Ytfgeengdmbabhaa
