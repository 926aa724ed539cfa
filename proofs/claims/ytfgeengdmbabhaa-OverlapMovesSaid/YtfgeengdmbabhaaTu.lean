import Derived.Test.YtfgeengdmbabhaaA5
namespace Go.Proofs.Ytfgeengdmbabhaa
open Go.RowKit
attribute [local go_sem ↓] Go.wp_at_zero Go.wp_at_succ

theorem and3 (q : Int) : ∃ m : Nat, m ≤ 3 ∧ bits .and .i64 q 3 = (m : Int) := by
  refine ⟨(BitVec.ofInt 64 q &&& BitVec.ofInt 64 3).toNat, ?_, ?_⟩
  · rw [BitVec.toNat_and]
    exact Nat.le_trans Nat.and_le_right (by decide)
  · have h : (BitVec.ofInt 64 q &&& BitVec.ofInt 64 3).toNat ≤ 3 := by
      rw [BitVec.toNat_and]
      exact Nat.le_trans Nat.and_le_right (by decide)
    have e : bits .and .i64 q 3 = IntKind.i64.wrap ((BitVec.ofInt 64 q &&& BitVec.ofInt 64 3).toNat : Int) := rfl
    rw [e]
    exact IntWalk.i64_in _ (by omega)
/-- quarter turns -/
def quart (p : Z2) : Nat → Z2
  | 0 => p
  | k + 1 => ⟨- (quart p k).y, (quart p k).x⟩
def mirZ (f : Bool) (p : Z2) : Z2 := if f then ⟨- p.x, p.y⟩ else p
theorem quart_bd {p : Z2} (h : Bd p) (k : Nat) : Bd (quart p k) := by
  induction k with
  | zero => exact h
  | succ k ih => unfold Bd at *; simp only [quart]; omega
theorem mir_bd {p : Z2} (h : Bd p) (f : Bool) : Bd (mirZ f p) := by
  unfold mirZ; split
  · unfold Bd at *; simp only; omega
  · exact h
abbrev tv (f : Bool) (q : Int) : Value := .agg #[.bool f, .int .i64 q]

set_option maxRecDepth 100000 in
set_option maxHeartbeats 4000000 in
/-- turn.Apply -/
theorem apply89 (f : Bool) (q : Int) (m : Nat) (p : Z2) (w : World) (hm : m ≤ 3) (hq : bits .and .i64 q 3 = (m : Int)) (hp : Bd p) :
    Calls Try.prog 89 #[tv f q, sv p] w fun e w' => e = .returned (sv (quart (mirZ f p) m)) ∧ Below w.heap.size w w' := by
  have HP := Lib.hid (mir_bd hp f)
  go_enter Try.func89, Try.ntmps89
  go_upto_region 1 with fail
  have T1 : Blk (((w.alloc (.cells #[.bool f, iv q] 51)).alloc (.cells #[iv p.x, iv p.y] 30)).alloc (.cells #[iv 0, iv 0] 30)) w.heap.size 51 #[.bool f, iv q] := ((Blk.new w 51 #[.bool f, iv q]).later (below_alloc _ _)).later (below_alloc _ _)
  have T2 : Blk (((w.alloc (.cells #[.bool f, iv q] 51)).alloc (.cells #[iv p.x, iv p.y] 30)).alloc (.cells #[iv 0, iv 0] 30)) (w.heap.size + 1) 30 #[iv p.x, iv p.y] := by
    have := (Blk.new (w.alloc (.cells #[.bool f, iv q] 51)) 30 #[iv p.x, iv p.y]).later (below_alloc _ (.cells #[iv 0, iv 0] 30))
    simpa using this
  have T3 : Blk (((w.alloc (.cells #[.bool f, iv q] 51)).alloc (.cells #[iv p.x, iv p.y] 30)).alloc (.cells #[iv 0, iv 0] 30)) (w.heap.size + 1 + 1) 30 #[iv 0, iv 0] := by
    have := Blk.new ((w.alloc (.cells #[.bool f, iv q] 51)).alloc (.cells #[iv p.x, iv p.y] 30)) 30 #[iv 0, iv 0]
    simpa using this
  have T4 : Below w.heap.size w (((w.alloc (.cells #[.bool f, iv q] 51)).alloc (.cells #[iv p.x, iv p.y] 30)).alloc (.cells #[iv 0, iv 0] 30)) := below_trans (below_trans (below_alloc _ _) (below_alloc _ _)) (below_alloc _ _)
  revert T1 T2 T3 T4
  generalize (((w.alloc (.cells #[.bool f, iv q] 51)).alloc (.cells #[iv p.x, iv p.y] 30)).alloc (.cells #[iv 0, iv 0] 30)) = W
  intro T1 T2 T3 T4
  have t1 := T1.cell 0; have t2 := T1.cell 1; have t3 := T2.cell 0; have t4 := T2.cell 1
  have z1 := T2.frozen 0; have z2 := T2.frozen 1
  simp at t1 t2 t3 t4
  have K := Lib.hid (And.intro T1 (And.intro T2 (And.intro T3 T4)))
  clear T1 T2 T3 T4
  unfold Bd at hp
  generalize hh0 : w.heap.size = h0 at *
  go_upto_if 6 with fail
  go_cut [] (fun wx => Blk wx h0 51 #[.bool f, iv q] ∧ Blk wx (h0 + 1) 30 #[iv (mirZ f p).x, iv (mirZ f p).y] ∧ Blk wx (h0 + 1 + 1) 30 #[iv 0, iv 0] ∧ Below h0 w wx)
  case first =>
    cases f
    · go_wp2_with fail
      go_meet
      exact ⟨K.out.1, K.out.2.1, K.out.2.2.1, K.out.2.2.2⟩
    · have s1 : IntKind.i64.wrap (-p.x) = -p.x := IntWalk.i64_in _ (by omega)
      go_wp2_with fail
      go_meet
      have a1 := K.out.1.far (p := ⟨h0 + 1, 0, none⟩) (by simp) (iv (-p.x))
      have a2 := K.out.2.1.set_ 0 (iv (-p.x))
      have a3 := K.out.2.2.1.far (p := ⟨h0 + 1, 0, none⟩) (by simp) (iv (-p.x))
      have a4 := K.out.2.2.2.setCell (p := ⟨h0 + 1, 0, none⟩) (by simp) (iv (-p.x))
      exact ⟨a1, a2, a3, a4⟩
  case rest =>
  clear K t1 t2 t3 t4 z1 z2 hp
  obtain ⟨C1, C2, C3, C4⟩ := hcut
  have t2 := C1.cell 1
  simp at t2
  have K := Lib.hid (And.intro C1 (And.intro C2 (And.intro C3 C4)))
  clear C1 C2 C3 C4
  generalize hz : mirZ f p = z at *
  have HZ := Lib.hid hz
  clear hz
  go_wp2_with fail
  go_loopw [14] (fun v wr => ∃ k : Nat, k ≤ m ∧ v = .int .i64 k ∧ Blk wr h0 51 #[.bool f, iv q] ∧ Blk wr (h0 + 1) 30 #[iv (quart z k).x, iv (quart z k).y] ∧ Blk wr (h0 + 1 + 1) 30 #[iv 0, iv 0] ∧ Below h0 w wr) (fun v _ => m - (intOf v).toNat)
  case atStart => exact ⟨0, Nat.zero_le _, rfl, K.out.1, K.out.2.1, K.out.2.2.1, K.out.2.2.2⟩
  case round =>
    clear K t2
    obtain ⟨k, hk, rfl, C1, C2, C3, C4⟩ := hrel
    have t3 := C2.cell 0; have t4 := C2.cell 1
    have z1 := C2.frozen 0; have z2 := C2.frozen 1
    have t5 := C3.cell 0; have t6 := C3.cell 1
    have z3 := C3.frozen 0; have z4 := C3.frozen 1
    simp at t3 t4 t5 t6
    have K := Lib.hid (And.intro C1 (And.intro C2 (And.intro C3 C4)))
    clear C1 C2 C3 C4
    have hb := quart_bd HP.out k
    unfold Bd at hb
    by_cases hlt : k < m
    · have HQ := Lib.hid (show quart z (k + 1) = ⟨- (quart z k).y, (quart z k).x⟩ from rfl)
      generalize quart z k = y at *
      have s1 : IntKind.i64.wrap (-y.y) = -y.y := IntWalk.i64_in _ (by omega)
      go_wp2
      go_roundw
      case rel =>
        have a1 := K.out.1.far2 (k := h0 + 1) (by omega) (iv (-y.y)) (iv y.x)
        have a2 := K.out.2.1.set2 (iv (-y.y)) (iv y.x)
        have a3 := K.out.2.2.1.far2 (k := h0 + 1) (by omega) (iv (-y.y)) (iv y.x)
        have a4 := (K.out.2.2.2.setCell (p := ⟨h0 + 1, 0, none⟩) (by simp) (iv (-y.y))).setCell (p := ⟨h0 + 1, 1, none⟩) (by simp) (iv y.x)
        exact ⟨k + 1, by omega, by go_num, a1, by rw [HQ.out]; exact a2, a3, a4⟩
      case measure => simp [intOf]; omega
    · obtain rfl : k = m := by omega
      go_wp2
      have a3 := K.out.2.2.1.set2 (iv (quart z k).x) (iv (quart z k).y)
      have a4 := (K.out.2.2.2.setCell (p := ⟨h0 + 1 + 1, 0, none⟩) (by simp only; omega) (iv (quart z k).x)).setCell (p := ⟨h0 + 1 + 1, 1, none⟩) (by simp only; omega) (iv (quart z k).y)
      revert a3 a4
      generalize ((wr.setCell ⟨h0 + 1 + 1, 0, none⟩ (iv (quart z k).x)).setCell ⟨h0 + 1 + 1, 1, none⟩ (iv (quart z k).y)) = W2
      intro a3 a4
      have r0 := a3.cell 0; have r1 := a3.cell 1
      simp at r0 r1
      refine bodyPost_ret (v := sv (quart z k)) ?_ rfl ?_
      · simp [results, Try.results89, go_sem, r0, r1]
      · rw [HZ.out]
        exact ⟨rfl, by rw [hh0]; exact a4⟩

end Go.Proofs.Ytfgeengdmbabhaa
