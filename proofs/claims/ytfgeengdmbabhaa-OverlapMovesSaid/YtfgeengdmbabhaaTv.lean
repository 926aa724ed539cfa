import Derived.Test.YtfgeengdmbabhaaTu
namespace Go.Proofs.Ytfgeengdmbabhaa
open Go.RowKit
attribute [local go_sem ↓] Go.wp_at_zero Go.wp_at_succ

def turnZ (f : Bool) (m : Nat) (p : Z2) : Z2 := quart (mirZ f p) m
def polyZ (f : Bool) (m : Nat) (ps : List Z2) : List Z2 := if f then (ps.map (turnZ f m)).reverse else ps.map (turnZ f m)
/-- the list after k rounds -/
def polyTo (f : Bool) (m : Nat) (ps : List Z2) (k : Nat) : List Z2 :=
  if f then List.replicate (ps.length - k) ⟨0, 0⟩ ++ ((ps.take k).map (turnZ f m)).reverse else (ps.take k).map (turnZ f m) ++ List.replicate (ps.length - k) ⟨0, 0⟩
theorem polyTo_length (f : Bool) (m : Nat) (ps : List Z2) (k : Nat) (hk : k ≤ ps.length) : (polyTo f m ps k).length = ps.length := by
  unfold polyTo; split <;> simp <;> omega
def spotAt (f : Bool) (n k : Nat) : Nat := if f then n - 1 - k else k
theorem polyTo_set (f : Bool) (m : Nat) (ps : List Z2) (k : Nat) (hk : k < ps.length) : (polyTo f m ps k).set (spotAt f ps.length k) (turnZ f m (pt ps k)) = polyTo f m ps (k + 1) := by
  unfold polyTo spotAt
  cases f with
  | false =>
    simp only [Bool.false_eq_true, if_false]
    have e : ps.length - k = (ps.length - (k + 1)) + 1 := by omega
    rw [List.set_append_right _ _ (by simp; omega), e, List.replicate_succ]
    have e2 : k - ((ps.take k).map (turnZ false m)).length = 0 := by simp; omega
    rw [e2, List.set_cons_zero, List.take_succ_eq_append_getElem hk, pt_eq hk]
    simp only [List.map_append, List.map_cons, List.map_nil, List.append_assoc, List.cons_append, List.nil_append]
  | true =>
    simp only [if_true]
    have e : ps.length - k = (ps.length - (k + 1)) + 1 := by omega
    rw [List.set_append_left _ _ (by simp; omega), List.take_succ_eq_append_getElem hk, pt_eq hk]
    have e3 : (List.replicate (ps.length - k) (⟨0, 0⟩ : Z2)).set (ps.length - 1 - k) (turnZ true m ps[k]) = List.replicate (ps.length - (k + 1)) ⟨0, 0⟩ ++ [turnZ true m ps[k]] := by
      rw [e, List.replicate_succ', List.set_append_right _ _ (by simp; omega)]
      have : ps.length - 1 - k - (List.replicate (ps.length - (k + 1)) (⟨0, 0⟩ : Z2)).length = 0 := by simp; omega
      rw [this]; rfl
    rw [e3, List.map_append, List.reverse_append]
    simp only [List.map_cons, List.map_nil, List.reverse_cons, List.reverse_nil, List.nil_append, List.append_assoc, List.cons_append]
theorem polyTo_end (f : Bool) (m : Nat) (ps : List Z2) : polyTo f m ps ps.length = polyZ f m ps := by
  unfold polyTo polyZ; cases f <;> simp
theorem polyZ_length (f : Bool) (m : Nat) (ps : List Z2) : (polyZ f m ps).length = ps.length := by unfold polyZ; cases f <;> simp

set_option maxRecDepth 100000 in
set_option maxHeartbeats 4000000 in
/-- turn.Poly -/
theorem poly54 (f : Bool) (q : Int) (m : Nat) (A : Option Addr) (c : Nat) (ps : List Z2) (w : World) (hm : m ≤ 3) (hq : bits .and .i64 q 3 = (m : Int)) (hsp : Sp w A ps) (hn : ps.length ≤ 100000) (hbd : ∀ p ∈ ps, Bd p) :
    Calls Try.prog 54 #[tv f q, .slice A ps.length c] w (RetSl (polyZ f m ps) w) := by
  have HS := Lib.hid hsp; clear hsp
  have HD := Lib.hid hbd; clear hbd
  have HQ := Lib.hid (fun p (hp : Bd p) w => apply89 f q m p w hm hq hp)
  clear hq
  have hmk := run_make22 ps.length (by omega)
  go_enter Try.func54, Try.ntmps54
  go_wp2
  have F : Blk ((w.alloc (.cells #[.bool f, iv q] 51)).alloc (.cells (flat (List.replicate ps.length ⟨0, 0⟩)).toArray 30)) w.heap.size 51 #[.bool f, iv q] ∧ Blk ((w.alloc (.cells #[.bool f, iv q] 51)).alloc (.cells (flat (List.replicate ps.length ⟨0, 0⟩)).toArray 30)) (w.heap.size + 1) 30 (flat (polyTo f m ps 0)).toArray ∧ Below w.heap.size w ((w.alloc (.cells #[.bool f, iv q] 51)).alloc (.cells (flat (List.replicate ps.length ⟨0, 0⟩)).toArray 30)) := by
    have e : polyTo f m ps 0 = List.replicate ps.length ⟨0, 0⟩ := by unfold polyTo; cases f <;> simp
    rw [e]
    refine ⟨(Blk.new w 51 #[.bool f, iv q]).later (below_alloc _ _), ?_, below_trans (below_alloc _ _) (below_alloc _ _)⟩
    have := Blk.new (w.alloc (.cells #[.bool f, iv q] 51)) 30 (flat (List.replicate ps.length ⟨0, 0⟩)).toArray
    simpa using this
  revert F
  generalize ((w.alloc (.cells #[.bool f, iv q] 51)).alloc (.cells (flat (List.replicate ps.length ⟨0, 0⟩)).toArray 30)) = W
  intro F
  have HF := Lib.hid F
  clear F hmk
  go_loopw [13] (fun i wr => ∃ k : Nat, k ≤ ps.length ∧ i = .int .i64 k ∧ Blk wr w.heap.size 51 #[.bool f, iv q] ∧ Blk wr (w.heap.size + 1) 30 (flat (polyTo f m ps k)).toArray ∧ Below w.heap.size w wr) (fun i _ => ps.length - (intOf i).toNat)
  case atStart => exact ⟨0, Nat.zero_le _, rfl, HF.out.1, HF.out.2.1, HF.out.2.2⟩
  case round =>
    clear HF
    obtain ⟨k, hk, rfl, Bt, Bm, hB⟩ := hrel
    by_cases hlt : k < ps.length
    · have hne : ps ≠ [] := by intro h; simp [h] at hlt
      obtain ⟨b, off, rfl, hc⟩ := HS.out.later hB hne
      obtain ⟨g1, g2⟩ := hc k hlt
      clear hc
      have HX := Lib.hid (polyTo_set f m ps k hlt)
      have HL := Lib.hid (polyTo_length f m ps k hk)
      have BP := Lib.hid (bd_pt HD.out k)
      generalize pt ps k = s at *
      go_upto_region 5 with fail
      have F := boxes1 wr s
      revert F
      generalize wr.alloc (.cells #[iv s.x, iv s.y] 30) = W5
      rintro ⟨hb, f5, f6⟩
      replace hB := below_trans hB hb
      replace Bt := Bt.later hb
      replace Bm := Bm.later hb
      clear hb g1 g2
      generalize wr.heap.size = h5 at *
      have t1 := Bt.cell 0; have t2 := Bt.cell 1
      simp at t1 t2
      have K := Lib.hid (And.intro Bt (And.intro Bm hB))
      clear Bt Bm hB
      have hj : spotAt f ps.length k < ps.length := by unfold spotAt; split <;> omega
      have ej : f = true → ((ps.length : Int) - 1 - (k : Int)) = ((spotAt f ps.length k : Nat) : Int) := by intro h; rw [h]; unfold spotAt; simp; omega
      have ek : f = false → spotAt f ps.length k = k := by intro h; rw [h]; rfl
      generalize hsj : spotAt f ps.length k = j at *
      clear hsj
      have i1 : (0 : Int) ≤ (j : Int) := by omega
      have i2 : (j : Int) < (ps.length : Int) := by omega
      have s1 : IntKind.i64.wrap ((ps.length : Int) - 1) = (ps.length : Int) - 1 := IntWalk.i64_in _ (by omega)
      have s2 : IntKind.i64.wrap ((ps.length : Int) - 1 - (k : Int)) = (ps.length : Int) - 1 - (k : Int) := IntWalk.i64_in _ (by omega)
      have fin : ∀ (w6 : World), Below W5.heap.size W5 w6 → (∃ v1 v2, w6.cell? ⟨w.heap.size + 1, j * 2, none⟩ = some v1 ∧ w6.cell? ⟨w.heap.size + 1, j * 2 + 1, none⟩ = some v2) ∧ w6.frozen? ⟨w.heap.size + 1, j * 2, none⟩ = false ∧ w6.frozen? ⟨w.heap.size + 1, j * 2 + 1, none⟩ = false ∧
          (∀ x : Z2, x = turnZ f m s → Blk ((w6.setCell ⟨w.heap.size + 1, j * 2, none⟩ (iv x.x)).setCell ⟨w.heap.size + 1, j * 2 + 1, none⟩ (iv x.y)) w.heap.size 51 #[.bool f, iv q] ∧ Blk ((w6.setCell ⟨w.heap.size + 1, j * 2, none⟩ (iv x.x)).setCell ⟨w.heap.size + 1, j * 2 + 1, none⟩ (iv x.y)) (w.heap.size + 1) 30 (flat (polyTo f m ps (k + 1))).toArray ∧ Below w.heap.size w ((w6.setCell ⟨w.heap.size + 1, j * 2, none⟩ (iv x.x)).setCell ⟨w.heap.size + 1, j * 2 + 1, none⟩ (iv x.y))) := fun w6 hb => by
        have B1 := K.out.1.later hb
        have B2 := K.out.2.1.later hb
        have B3 := below_trans K.out.2.2 hb
        have hfl := flat_at (polyTo f m ps k) j (by rw [HL.out]; exact hj)
        refine ⟨⟨_, _, by rw [B2.cell]; simpa using hfl.1, by rw [B2.cell]; simpa using hfl.2⟩, B2.frozen _, B2.frozen _, fun x hx => ⟨?_, ?_, ?_⟩⟩
        · exact (B1.far (p := ⟨w.heap.size + 1, j * 2, none⟩) (by simp) (iv x.x)).far (p := ⟨w.heap.size + 1, j * 2 + 1, none⟩) (by simp) (iv x.y)
        · have h1 := B2.setSpot j x
          rw [hx] at h1 ⊢
          rw [HX.out] at h1
          exact h1
        · exact (B3.setCell (p := ⟨w.heap.size + 1, j * 2, none⟩) (by simp) (iv x.x)).setCell (p := ⟨w.heap.size + 1, j * 2 + 1, none⟩) (by simp) (iv x.y)
      have FIN := Lib.hid fin
      clear fin hj K
      have HTZ := Lib.hid (show quart (mirZ f s) m = turnZ f m s from rfl)
      cases f with
      | false =>
        have ekk := ek rfl
        clear ej ek s1 s2
        go_wp2_with fail
        refine (HQ.out s BP.out _).mono ?_
        rintro e w6 ⟨rfl, hb⟩
        obtain ⟨⟨v1, v2, c1, c2⟩, z1, z2, FF⟩ := FIN.out w6 hb
        have HFF := Lib.hid FF
        clear FF hb f5 f6 t1 t2
        rw [HTZ.out]
        generalize hx : turnZ false m s = x at *
        have RR := Lib.hid (HFF.out x rfl)
        clear hx HFF FIN HTZ
        rw [ekk] at c1 c2 z1 z2 RR i1 i2
        clear ekk HX
        go_wp2
        go_roundw
        case rel => exact ⟨k + 1, by omega, by go_num, RR.out.1, RR.out.2.1, RR.out.2.2⟩
        case measure => simp [intOf]; omega
      | true =>
        have ejj := ej rfl
        clear ej ek
        rw [ejj] at s2
        go_wp2_with fail
        refine (HQ.out s BP.out _).mono ?_
        rintro e w6 ⟨rfl, hb⟩
        obtain ⟨⟨v1, v2, c1, c2⟩, z1, z2, FF⟩ := FIN.out w6 hb
        have HFF := Lib.hid FF
        clear FF hb f5 f6 t1 t2
        rw [HTZ.out]
        generalize hx : turnZ true m s = x at *
        have RR := Lib.hid (HFF.out x rfl)
        clear hx HFF FIN HTZ HX
        go_wp2
        go_roundw
        case rel => exact ⟨k + 1, by omega, by go_num, RR.out.1, RR.out.2.1, RR.out.2.2⟩
        case measure => simp [intOf]; omega
    · obtain rfl : k = ps.length := by omega
      have HM := Lib.hid (And.intro Bm hB)
      clear Bt Bm hB
      go_wp2
      go_ret
      have h1 := HM.out.1
      rw [polyTo_end] at h1
      exact ⟨some ⟨w.heap.size + 1, 0, none⟩, ps.length, by rw [polyZ_length]; rfl, by rw [polyZ_length]; omega, h1.sp, HM.out.2⟩
end Go.Proofs.Ytfgeengdmbabhaa
