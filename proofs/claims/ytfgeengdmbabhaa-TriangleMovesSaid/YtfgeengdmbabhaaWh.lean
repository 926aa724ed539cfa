import Derived.Test.YtfgeengdmbabhaaWg
import Derived.Laws.MakeOwn
import Derived.Maps.AppendAt
import Derived.Deep.AppendLies
import Derived.OwnWalk
namespace Go.Proofs.Ytfgeengdmbabhaa
open Go.RowKit
attribute [local go_sem ↓] Go.wp_at_zero Go.wp_at_succ

/-- the cells of a list of spots -/
def flat : List Z2 → List Value
  | [] => []
  | p :: l => iv p.x :: iv p.y :: flat l
theorem flat_length (l : List Z2) : (flat l).length = l.length * 2 := by
  induction l with
  | nil => rfl
  | cons p l ih => simp only [flat, List.length_cons, ih]; omega
theorem flat_append (l m : List Z2) : flat (l ++ m) = flat l ++ flat m := by
  induction l with
  | nil => rfl
  | cons p l ih => simp [flat, ih]
theorem flat_at (l : List Z2) (k : Nat) (h : k < l.length) : (flat l)[k * 2]? = some (iv (pt l k).x) ∧ (flat l)[k * 2 + 1]? = some (iv (pt l k).y) := by
  induction l generalizing k with
  | nil => simp at h
  | cons p l ih =>
    cases k with
    | zero => simp [flat, pt]
    | succ k =>
      have e : (k + 1) * 2 = k * 2 + 1 + 1 := by omega
      have := ih k (by simpa using h)
      have e2 : pt (p :: l) (k + 1) = pt l k := by simp [pt]
      rw [e, e2]
      simpa [flat] using this
theorem flat_one (l : List Z2) : ∀ u ∈ flat l, u.oneCell' = true := by
  induction l with
  | nil => intro u hu; cases hu
  | cons p l ih =>
    intro u hu
    simp only [flat, List.mem_cons] at hu
    rcases hu with rfl | rfl | hu
    · rfl
    · rfl
    · exact ih u hu
theorem flat_set (l : List Z2) (k : Nat) (q : Z2) : ((flat l).set (k * 2) (iv q.x)).set (k * 2 + 1) (iv q.y) = flat (l.set k q) := by
  induction l generalizing k with
  | nil => rfl
  | cons p l ih =>
    cases k with
    | zero => rfl
    | succ k =>
      have e : (k + 1) * 2 = k * 2 + 1 + 1 := by omega
      rw [e]
      simp only [flat, List.set_cons_succ, ih]

/-- a block whose cells are a list of spots -/
theorem Blk.sp {w : World} {g : Nat} {l : List Z2} (h : Blk w g 30 (flat l).toArray) : Sp w (some ⟨g, 0, none⟩) l := fun _ => by
  refine ⟨g, 0, rfl, fun k hk => ?_⟩
  have := flat_at l k hk
  rw [h.cell, h.cell]
  simpa using this

theorem Blk.setSpot {w : World} {g : Nat} {l : List Z2} (h : Blk w g 30 (flat l).toArray) (k : Nat) (q : Z2) :
    Blk ((w.setCell ⟨g, k * 2, none⟩ (iv q.x)).setCell ⟨g, k * 2 + 1, none⟩ (iv q.y)) g 30 (flat (l.set k q)).toArray := by
  have h2 := (h.set_ (k * 2) (iv q.x)).set_ (k * 2 + 1) (iv q.y)
  rw [← flat_set]
  simpa using h2
theorem Try.info30 : (Try.prog.info? 30).map (fun i => (i.zero, i.size, i.bytes)) = some (some (.agg #[iv 0, iv 0]), 2, 16) := by kernel_rfl

theorem flat_zero (n : Nat) : flat (List.replicate n ⟨0, 0⟩) = List.replicate (n * 2) (iv 0) := by
  induction n with
  | zero => rfl
  | succ n ih =>
    have e : (n + 1) * 2 = n * 2 + 1 + 1 := by omega
    rw [e]
    simp only [List.replicate_succ, flat, ih]
theorem made_flat (n : Nat) : madeCells #[iv 0, iv 0] (n * 2) = (flat (List.replicate n ⟨0, 0⟩)).toArray := by
  rw [flat_zero]
  apply Array.ext
  · simp [madeCells]
  · intro i h1 h2
    simp only [madeCells, Array.getElem_map, Array.getElem_range, List.getElem_toArray, List.getElem_replicate]
    have : i % 2 = 0 ∨ i % 2 = 1 := by omega
    rcases this with h | h <;> simp [h]
theorem run_make22 (n : Nat) (hn : n ≤ 1000000000) (w : World) :
    (Instr.makeSlice 22 (.int .i64 (n : Int)) (.int .i64 (n : Int))).run Try.prog w = .ok (.slice (some ⟨w.heap.size, 0, none⟩) n n) (w.alloc (.cells (flat (List.replicate n ⟨0, 0⟩)).toArray 30)) := by
  obtain ⟨i0, hi, hz0, hz1, hz2⟩ := info_parts Try.info30
  have hr := run_make (P := Try.prog) w 22 30 i0 _ Try.underlying22 hi hz0 .i64 .i64 n n (by omega) (by omega) (by rw [hz2]; omega) (by omega)
  simp only [Int.toNat_natCast, hz1] at hr
  rw [← made_flat]
  exact hr

/-- a new slice that reads as a list -/
def RetSl (qs : List Z2) (w : World) (e : Ending) (w' : World) : Prop := ∃ A c, e = .returned (.slice A qs.length c) ∧ qs.length ≤ c ∧ Sp w' A qs ∧ Below w.heap.size w w'

def addZ (p d : Z2) : Z2 := ⟨wrap64 (p.x + d.x), wrap64 (p.y + d.y)⟩
def moveZ (ps : List Z2) (d : Z2) : List Z2 := ps.map (addZ · d)
/-- the moved list after k rounds -/
def moveTo (ps : List Z2) (d : Z2) (k : Nat) : List Z2 := (ps.take k).map (addZ · d) ++ List.replicate (ps.length - k) ⟨0, 0⟩
theorem moveTo_length (ps : List Z2) (d : Z2) (k : Nat) (hk : k ≤ ps.length) : (moveTo ps d k).length = ps.length := by simp [moveTo]; omega
theorem moveTo_set (ps : List Z2) (d : Z2) (k : Nat) (hk : k < ps.length) : (moveTo ps d k).set k (addZ (pt ps k) d) = moveTo ps d (k + 1) := by
  unfold moveTo
  have e : ps.length - k = (ps.length - (k + 1)) + 1 := by omega
  rw [List.set_append_right _ _ (by simp; omega), e, List.replicate_succ]
  have e2 : k - ((ps.take k).map (addZ · d)).length = 0 := by simp; omega
  rw [e2, List.set_cons_zero, List.take_succ_eq_append_getElem hk, pt_eq hk]
  simp only [List.map_append, List.map_cons, List.map_nil, List.append_assoc, List.cons_append, List.nil_append]
theorem moveTo_end (ps : List Z2) (d : Z2) : moveTo ps d ps.length = moveZ ps d := by simp [moveTo, moveZ]

set_option maxHeartbeats 1000000 in
/-- polyline.Move -/
theorem move88 (A : Option Addr) (c : Nat) (ps : List Z2) (d : Z2) (w : World) (hsp : Sp w A ps) (hn : ps.length ≤ 1000000000) :
    Calls Try.prog 88 #[.slice A ps.length c, sv d] w (RetSl (moveZ ps d) w) := by
  have HS := Lib.hid hsp; clear hsp
  have hmk := run_make22 ps.length hn
  go_enter Try.func88, Try.ntmps88
  go_wp2
  have F : Blk ((w.alloc (.cells #[iv d.x, iv d.y] 30)).alloc (.cells (flat (List.replicate ps.length ⟨0, 0⟩)).toArray 30)) w.heap.size 30 #[iv d.x, iv d.y] ∧ Blk ((w.alloc (.cells #[iv d.x, iv d.y] 30)).alloc (.cells (flat (List.replicate ps.length ⟨0, 0⟩)).toArray 30)) (w.heap.size + 1) 30 (flat (moveTo ps d 0)).toArray ∧ Below w.heap.size w ((w.alloc (.cells #[iv d.x, iv d.y] 30)).alloc (.cells (flat (List.replicate ps.length ⟨0, 0⟩)).toArray 30)) := by
    have G := two_new w 30 #[iv d.x, iv d.y] (flat (List.replicate ps.length ⟨0, 0⟩)).toArray
    have e : moveTo ps d 0 = List.replicate ps.length ⟨0, 0⟩ := by simp [moveTo]
    rw [e]; exact G
  revert F
  generalize ((w.alloc (.cells #[iv d.x, iv d.y] 30)).alloc (.cells (flat (List.replicate ps.length ⟨0, 0⟩)).toArray 30)) = W
  intro F
  have HF := Lib.hid F
  clear F hmk
  go_loopw [13] (fun i wr => ∃ k : Nat, k ≤ ps.length ∧ i = .int .i64 k ∧ Blk wr w.heap.size 30 #[iv d.x, iv d.y] ∧ Blk wr (w.heap.size + 1) 30 (flat (moveTo ps d k)).toArray ∧ Below w.heap.size w wr) (fun i _ => ps.length - (intOf i).toNat)
  case atStart => exact ⟨0, Nat.zero_le _, rfl, HF.out.1, HF.out.2.1, HF.out.2.2⟩
  case round =>
    clear HF
    obtain ⟨k, hk, rfl, Bd', Bm, hB⟩ := hrel
    have HBd := Lib.hid Bd'
    have HBm := Lib.hid Bm
    have f1 := Bd'.cell 0; have f2 := Bd'.cell 1
    simp at f1 f2
    have ll := Bm.lt
    by_cases hlt : k < ps.length
    · have hne : ps ≠ [] := by intro h; simp [h] at hlt
      obtain ⟨b, off, rfl, hc⟩ := HS.out.later hB hne
      obtain ⟨g1, g2⟩ := hc k hlt
      have nb : b < wr.heap.size := World.block_lt_of_cell? _ _ g1
      have v1 : ∃ v, wr.cell? ⟨w.heap.size + 1, k * 2, none⟩ = some v := by
        rw [Bm.cell]; exact ⟨_, (by simpa using (flat_at (moveTo ps d k) k (by rw [moveTo_length _ _ _ hk]; exact hlt)).1)⟩
      have v2 : ∃ v, wr.cell? ⟨w.heap.size + 1, k * 2 + 1, none⟩ = some v := by
        rw [Bm.cell]; exact ⟨_, (by simpa using (flat_at (moveTo ps d k) k (by rw [moveTo_length _ _ _ hk]; exact hlt)).2)⟩
      obtain ⟨v1, f3⟩ := v1
      obtain ⟨v2, f4⟩ := v2
      have z1 := Bm.frozen (k * 2)
      have z2 := Bm.frozen (k * 2 + 1)
      clear Bd' Bm hc
      have y1 : w.heap.size + 1 ≠ wr.heap.size := by omega
      have y2 : w.heap.size ≠ wr.heap.size := by omega
      have y3 : w.heap.size < wr.heap.size := by omega
      go_wp2
      go_roundw
      case rel =>
        have h1 := HBm.out.setSpot k (addZ (pt ps k) d)
        rw [moveTo_set ps d k hlt] at h1
        have h2 := (HBd.out.far (p := ⟨w.heap.size + 1, k * 2, none⟩) (by simp) (iv (addZ (pt ps k) d).x)).far (p := ⟨w.heap.size + 1, k * 2 + 1, none⟩) (by simp) (iv (addZ (pt ps k) d).y)
        have h3 := (hB.setCell (p := ⟨w.heap.size + 1, k * 2, none⟩) (by simp) (iv (addZ (pt ps k) d).x)).setCell (p := ⟨w.heap.size + 1, k * 2 + 1, none⟩) (by simp) (iv (addZ (pt ps k) d).y)
        have k3 := below_alloc ((wr.setCell ⟨w.heap.size + 1, k * 2, none⟩ (iv (addZ (pt ps k) d).x)).setCell ⟨w.heap.size + 1, k * 2 + 1, none⟩ (iv (addZ (pt ps k) d).y)) (.cells #[iv (pt ps k).x, iv (pt ps k).y] 30)
        exact ⟨k + 1, by omega, by go_num, h2.later k3, h1.later k3, h3.trans (k3.mono h3.size)⟩
      case measure => simp [intOf]; omega
    · obtain rfl : k = ps.length := by omega
      clear Bd' Bm
      go_wp2
      go_ret
      have h1 := HBm.out
      rw [moveTo_end] at h1
      have e : (moveZ ps d).length = ps.length := by simp [moveZ]
      exact ⟨some ⟨w.heap.size + 1, 0, none⟩, ps.length, by rw [e]; rfl, by omega, h1.sp, hB⟩

/-- polygon.Move -/
theorem move52 (A : Option Addr) (c : Nat) (ps : List Z2) (d : Z2) (w : World) (hsp : Sp w A ps) (hn : ps.length ≤ 1000000000) :
    Calls Try.prog 52 #[.slice A ps.length c, sv d] w (RetSl (moveZ ps d) w) := by
  have HS := Lib.hid hsp; clear hsp
  go_enter Try.func52, Try.ntmps52
  go_wp2_with fail
  refine (move88 A c ps d _ (HS.out.later (below_alloc _ _)) hn).mono ?_
  rintro e w1 ⟨A1, c1, rfl, h1, h2, h3⟩
  go_wp2
  go_ret
  exact ⟨A1, c1, rfl, h1, h2, below_trans (below_alloc _ _) h3⟩
end Go.Proofs.Ytfgeengdmbabhaa
