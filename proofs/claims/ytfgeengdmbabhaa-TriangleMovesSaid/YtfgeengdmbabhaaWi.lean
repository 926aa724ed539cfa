import Derived.Test.YtfgeengdmbabhaaWh
import Derived.Lib.AppendZeros
namespace Go.Proofs.Ytfgeengdmbabhaa
open Go.RowKit
attribute [local go_sem ↓] Go.wp_at_zero Go.wp_at_succ

/-- a slice of the call's own that reads as a list -/
def Own (w : World) (base : Nat) (v : Value) (qs : List Z2) : Prop := w.ownsRow base 30 2 v qs.length (flat qs)

theorem Own.nil (w : World) (base : Nat) : Own w base (.slice none 0 0) [] := World.ownsRow_nil w base 30 2
theorem Own.sp {w : World} {base : Nat} {v : Value} {qs : List Z2} (h : Own w base v qs) : ∃ A c, v = .slice A qs.length c ∧ qs.length ≤ c ∧ Sp w A qs := by
  rcases h.2 with ⟨rfl, hn⟩ | ⟨g, cap, cur, rfl, hb, hg, hnc, hcm, hcs, htake⟩
  · refine ⟨none, 0, by rw [hn], by omega, fun hne => ?_⟩
    cases qs with
    | nil => exact absurd rfl hne
    | cons => simp at hn
  · refine ⟨_, cap, rfl, hnc, fun _ => ⟨g, 0, rfl, fun k hk => ?_⟩⟩
    have h1 := flat_at qs k hk
    have hB : Blk w g 30 cur := hg
    rw [hB.cell, hB.cell]
    rw [← htake, List.getElem?_take, List.getElem?_take, if_pos (by omega), if_pos (by omega)] at h1
    simpa using h1
theorem Own.later {w w' : World} {base : Nat} {v : Value} {qs : List Z2} (h : Own w base v qs) (hb : Below w.heap.size w w') : Own w' base v qs := by
  refine ⟨h.1, ?_⟩
  rcases h.2 with h' | ⟨g, cap, cur, rfl, hbb, hg, hr⟩
  · exact .inl h'
  · have hB : Blk w g 30 cur := hg
    exact .inr ⟨g, cap, cur, rfl, hbb, hB.later hb, hr⟩

/-- slices.Grow of nil -/
def RetOwn (base : Nat) (qs : List Z2) (w : World) (e : Ending) (w' : World) : Prop := ∃ v, e = .returned v ∧ Own w' base v qs ∧ Below w.heap.size w w'

set_option maxHeartbeats 400000 in
theorem grow110 (n base : Nat) (w : World) (hn : n ≤ 1000000) (hbase : base ≤ w.heap.size) : Calls Try.prog 110 #[.slice none 0 0, iv n] w (RetOwn base [] w) := by
  obtain ⟨i0, hi, hz0, hz1, hz2⟩ := info_parts Try.info30
  by_cases h0 : n = 0
  · subst h0
    go_enter Try.func110, Try.ntmps110
    go_wp2
    go_ret
    exact ⟨_, rfl, Own.nil _ _, Below.refl _ _⟩
  · have h0' : 0 < (n : Int) := by omega
    have hr := Lib.run_append_nil_zeros (P := Try.prog) w 22 3 22 30 i0 _ .i64 .i64 Try.underlying22 Try.underlying3 hi hz0 n (by omega) (by omega) (by omega) (by rw [hz2]; omega)
    have HR := Lib.hid hr
    clear hr
    have hge := grownCap_ge w n 0 30
    have hcm := grownCap_le_maxLen w n 0 30 (by unfold maxLen; omega)
    have i1 : (0 : Int) ≤ (grownCap w n 0 30 : Int) := by omega
    go_enter Try.func110, Try.ntmps110
    go_wp2_with (at_builtin; refine Lib.wpList_append_run _ rfl _ _ _ _ rfl _ _ rfl rfl _ _ HR.out ?_)
    go_ret
    refine ⟨.slice (some ⟨w.heap.size, 0, none⟩) 0 (grownCap w n 0 30), rfl, ⟨rfl, .inr ⟨w.heap.size, _, _, rfl, hbase, heap_alloc_new w.drew _, Nat.zero_le _, hcm, ?_, ?_⟩⟩, ?_⟩
    · simp only [Array.size_append, size_zeroCells]
      show n * 2 + (grownCap w n 0 30 - n) * 2 = _
      omega
    · simp [flat]
    · exact (below_alloc w _).drew

theorem add_plain (b off j : Nat) : (⟨b, off, none⟩ : Addr).add j = ⟨b, off + j, none⟩ := by unfold Addr.add; split <;> simp_all

theorem Sp.cells {w : World} {b off : Nat} {l : List Z2} (h : ∀ k, k < l.length → w.cell? ⟨b, off + k * 2, none⟩ = some (iv (pt l k).x) ∧ w.cell? ⟨b, off + k * 2 + 1, none⟩ = some (iv (pt l k).y)) :
    ∀ j u, (flat l)[j]? = some u → w.cell? ((⟨b, off, none⟩ : Addr).add j) = some u := by
  intro j u hu
  have hj : j < l.length * 2 := by
    have := (List.getElem?_eq_some_iff.1 hu).1
    rwa [flat_length] at this
  rw [add_plain]
  have hk : j / 2 < l.length := by omega
  have h1 := flat_at l (j / 2) hk
  have h2 := h (j / 2) hk
  have hc : j = j / 2 * 2 ∨ j = j / 2 * 2 + 1 := by omega
  rcases hc with e | e
  · have e2 : off + j = off + j / 2 * 2 := by omega
    rw [e2, h2.1, ← h1.1, ← e, hu]
  · have e2 : off + j = off + j / 2 * 2 + 1 := by omega
    rw [e2, h2.2, ← h1.2, ← e, hu]

/-- append(v, l...) onto a slice of the call's own -/
theorem run_append_sp (w : World) (base : Nat) (v : Value) (qs : List Z2) (A : Option Addr) (n c : Nat) (l : List Z2) (hown : Own w base v qs) (hsp : Sp w A l) (hl : l.length = n)
    (hsz : qs.length + l.length ≤ 1000000) (hbase : base ≤ w.heap.size) :
    ∃ v' w', (Builtin.append_ #[22, 22] 22 #[v, .slice A n c]).run Try.prog w = .ok v' w' ∧ Own w' base v' (qs ++ l) ∧ w.grownBy w' v.ownBlock ∧ (v'.ownBlock = v.ownBlock ∨ v'.ownBlock = some w.heap.size) := by
  obtain ⟨i0, hi, hz0, hz1, hz2⟩ := info_parts Try.info30
  subst hl
  have key : ∀ ad : Addr, (∀ j u, (flat l)[j]? = some u → w.cell? (ad.add j) = some u) → ∃ v' w', (Builtin.append_ #[22, 22] 22 #[v, .slice (some ad) l.length c]).run Try.prog w = .ok v' w' ∧ Own w' base v' (qs ++ l) ∧ w.grownBy w' v.ownBlock ∧ (v'.ownBlock = v.ownBlock ∨ v'.ownBlock = some w.heap.size) := by
    intro ad hc
    obtain ⟨v', w', h1, h2, h3, _, h5⟩ := run_append_own_at (P := Try.prog) w base 22 22 30 i0 _ 2 16 Try.underlying22 hi hz0 hz1 hz2 rfl (by omega) v qs.length (flat qs) hown ad l.length c (flat l) (flat_length l) hc (flat_one l) (by unfold maxLen; omega) (by omega) hbase
    refine ⟨v', w', h1, ?_, h3, h5⟩
    unfold Own
    rw [flat_append, List.length_append]
    exact h2
  by_cases hne : l = []
  · subst hne
    cases A with
    | some ad => exact key ad (fun j u hu => by simp [flat] at hu)
    | none =>
      refine ⟨v, w, ?_, by simpa using hown, World.grownBy.refl w _, .inl rfl⟩
      rcases hown.2 with ⟨rfl, _⟩ | ⟨g, cap, cur, rfl, _, _, hnc, _⟩
      · simp [Builtin.append_, run_underlying Try.underlying22, sizeOf, typeInfo, hi, Builtin.lenOf, Builtin.firstCells]
      · simp [Builtin.append_, run_underlying Try.underlying22, sizeOf, typeInfo, hi, Builtin.lenOf, Builtin.firstCells, hnc, storeCells]
  · obtain ⟨b, off, rfl, hc⟩ := hsp hne
    exact key _ (Sp.cells hc)

theorem Own.lt {w : World} {base : Nat} {v : Value} {qs : List Z2} (h : Own w base v qs) : ∀ k, v.ownBlock = some k → base ≤ k ∧ k < w.heap.size := World.ownsRow.lt h
/-- what is read elsewhere stays as it was -/
theorem Sp.grown {w w' : World} {A : Option Addr} {l : List Z2} {row : Option Nat} (h : Sp w A l) (hg : w.grownBy w' row) (hr : ∀ a : Addr, A = some a → some a.block ≠ row) : Sp w' A l := fun hne => by
  obtain ⟨b, off, hA, hc⟩ := h hne
  refine ⟨b, off, hA, fun k hk => ?_⟩
  have hb := World.block_lt_of_cell? _ _ (hc k hk).1
  have hblk := hg.block b hb (hr _ hA)
  exact ⟨(World.cell?_of_block (a := ⟨b, off + k * 2, none⟩) hblk).trans (hc k hk).1, (World.cell?_of_block (a := ⟨b, off + k * 2 + 1, none⟩) hblk).trans (hc k hk).2⟩
end Go.Proofs.Ytfgeengdmbabhaa
