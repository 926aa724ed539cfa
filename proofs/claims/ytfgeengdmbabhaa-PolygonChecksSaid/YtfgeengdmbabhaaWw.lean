import Derived.Test.YtfgeengdmbabhaaA5
import Derived.BigRegion
namespace Go.Proofs.Ytfgeengdmbabhaa
open Go.RowKit
attribute [local go_sem ↓] Go.wp_at_zero Go.wp_at_succ run_min2 run_max2

set_option maxRecDepth 100000 in
set_option maxHeartbeats 8000000 in
/-- garmentref11.Box -/
theorem box49 (A : Option Addr) (n c : Nat) (ps : List Z2) (w : World) (hl : ps.length = n) (hsp : Sp w A ps) :
    Calls Try.prog 49 #[.slice A n c] w fun e w' => e = .returned (.tuple #[rv (boxZ ps), iv (chkZ ps)]) ∧ Below w.heap.size w w' := by
  subst hl
  have HS := Lib.hid hsp; clear hsp
  by_cases h0 : chkZ ps = 0
  case neg =>
    have H0 := Lib.hid h0
    have hd : (chkZ ps != 0) = true := by simpa using h0
    clear h0
    go_enter Try.func49, Try.ntmps49
    go_wp2_with fail
    refine (check46 A _ c ps _ rfl (HS.out.later (below_alloc _ _))).mono ?_
    rintro e w1 ⟨rfl, hb1⟩
    have B2 := (Blk.new w 41 #[iv 0, iv 0, iv 0, iv 0]).later hb1
    have hB1 := below_trans (below_alloc _ _) hb1
    clear hb1
    have f0 := B2.cell 0; have f1 := B2.cell 1; have f2 := B2.cell 2; have f3 := B2.cell 3
    have z0 := B2.frozen 0; have z1 := B2.frozen 1; have z2 := B2.frozen 2; have z3 := B2.frozen 3
    simp at f0 f1 f2 f3
    have HB2 := Lib.hid B2
    clear B2
    go_wp2
    have B3 := HB2.out.set4 (iv 0) (iv 0) (iv 0) (iv 0)
    have hB3 := below_set4 hB1 (Nat.le_refl _) (iv 0) (iv 0) (iv 0) (iv 0)
    revert B3 hB3
    generalize ((((w1.setCell ⟨w.heap.size, 0, none⟩ (iv 0)).setCell ⟨w.heap.size, 1, none⟩ (iv 0)).setCell ⟨w.heap.size, 2, none⟩ (iv 0)).setCell ⟨w.heap.size, 3, none⟩ (iv 0)) = W
    intro B3 hB3
    have r0 := B3.cell 0; have r1 := B3.cell 1; have r2 := B3.cell 2; have r3 := B3.cell 3
    simp at r0 r1 r2 r3
    refine bodyPost_ret (v := .tuple #[rv ⟨0, 0, 0, 0⟩, iv (chkZ ps)]) ?_ rfl ?_
    · simp [results, Try.results49, go_sem, r0, r1, r2, r3]
    · rw [boxZ_neg H0.out]
      exact ⟨rfl, hB3⟩
  case pos =>
    have H0 := Lib.hid h0
    obtain ⟨hl, hl3, hD, _, _⟩ := chkZ_zero h0
    have HD := Lib.hid hD
    clear h0 hD
    go_enter Try.func49, Try.ntmps49
    go_wp2_with fail
    refine (check46 A _ c ps _ rfl (HS.out.later (below_alloc _ _))).mono ?_
    rintro e w1 ⟨rfl, hb1⟩
    have B2 := (Blk.new w 41 #[iv 0, iv 0, iv 0, iv 0]).later hb1
    have hB1 := below_trans (below_alloc _ _) hb1
    clear hb1
    have HB2 := Lib.hid B2
    have nw : w.heap.size < w1.heap.size := B2.lt
    clear B2
    rw [H0.out]
    have hne : ps ≠ [] := by intro h; simp [h] at hl3
    obtain ⟨b, off, rfl, hc⟩ := HS.out.later hB1 hne
    have HBW := Lib.hid (show b < w.heap.size by
      obtain ⟨b', o', e, hc'⟩ := HS.out hne
      injection e with e; injection e with e1 e2
      subst e1
      exact World.block_lt_of_cell? _ _ (hc' 0 (by omega)).1)
    obtain ⟨g1, g2⟩ := hc 0 (by omega)
    simp only [Nat.zero_mul, Nat.add_zero] at g1 g2
    clear hc
    have p1 : (0 : Int) < (ps.length : Int) := by omega
    have nb : b < w1.heap.size := World.block_lt_of_cell? _ _ g1
    have nb2 : b ≠ w1.heap.size := by omega
    have nb3 : b ≠ w1.heap.size + 1 := by omega
    go_upto_region 4 with fail
    go_cut [5, 6] (fun u v wx => ∃ gl gh : Nat, u = .pointer (some ⟨gl, 0, none⟩) ∧ v = .pointer (some ⟨gh, 0, none⟩) ∧ w1.heap.size ≤ gl ∧ w1.heap.size ≤ gh ∧ gl ≠ gh ∧ Blk wx gl 30 #[iv (pt ps 0).x, iv (pt ps 0).y] ∧ Blk wx gh 30 #[iv (pt ps 0).x, iv (pt ps 0).y] ∧ Below w1.heap.size w1 wx)
    case first =>
      go_region
      · go_wp2_with fail
        go_meet
        have F := two_new w1 30 #[iv (pt ps 0).x, iv (pt ps 0).y] #[iv (pt ps 0).x, iv (pt ps 0).y]
        exact ⟨w1.heap.size, w1.heap.size + 1, rfl, rfl, by omega, by omega, by omega, F.1, F.2.1, F.2.2.drew⟩
      · go_wp2_with fail
        go_meet
        have F := two_new w1 30 #[iv (pt ps 0).x, iv (pt ps 0).y] #[iv (pt ps 0).x, iv (pt ps 0).y]
        exact ⟨w1.heap.size + 1, w1.heap.size, rfl, rfl, by omega, by omega, by omega, F.2.1, F.1, F.2.2.drew⟩
    case rest =>
      obtain ⟨gl, gh, rfl, rfl, nl, nh, nlh, Bl, Bh, hbx⟩ := hcut
      have HI := Lib.hid (And.intro Bl (And.intro Bh (And.intro (HB2.out.later hbx) (hB1.trans (hbx.mono hB1.size)))))
      clear Bl Bh hbx g1 g2 nb nb2 nb3 HB2
      have HI1 := Lib.hid (And.intro (show loTo ps 1 = pt ps 0 by simp [loTo]) (show hiTo ps 1 = pt ps 0 by simp [hiTo]))
      go_wp2
      go_loopw [7] (fun i wr => ∃ k : Nat, 1 ≤ k ∧ k ≤ ps.length ∧ i = .int .i64 k ∧ Blk wr gl 30 #[iv (loTo ps k).x, iv (loTo ps k).y] ∧ Blk wr gh 30 #[iv (hiTo ps k).x, iv (hiTo ps k).y] ∧ Blk wr w.heap.size 41 #[iv 0, iv 0, iv 0, iv 0] ∧ Below w.heap.size w wr) (fun i _ => ps.length - (intOf i).toNat)
      case atStart => exact ⟨1, by omega, by omega, rfl, by rw [HI1.out.1]; exact HI.out.1, by rw [HI1.out.2]; exact HI.out.2.1, HI.out.2.2.1, HI.out.2.2.2⟩
      case round =>
        clear HI
        obtain ⟨k, hk1, hk, rfl, Bl, Bh, Br, hB⟩ := hrel
        have HL := Lib.hid Bl; have HH := Lib.hid Bh; have HR := Lib.hid Br
        have ll := Bl.lt
        have lh := Bh.lt
        have hlo := loTo_bd HD.out k
        have hhi := hiTo_bd HD.out k
        unfold Bd at hlo hhi
        have f1 := Bl.cell 0; have f2 := Bl.cell 1; have f3 := Bh.cell 0; have f4 := Bh.cell 1
        have z1 := Bl.frozen 0; have z2 := Bl.frozen 1; have z3 := Bh.frozen 0; have z4 := Bh.frozen 1
        have f5 := Br.cell 0; have f6 := Br.cell 1; have f7 := Br.cell 2; have f8 := Br.cell 3
        have z5 := Br.frozen 0; have z6 := Br.frozen 1; have z7 := Br.frozen 2; have z8 := Br.frozen 3
        simp at f1 f2 f3 f4 f5 f6 f7 f8
        clear Bl Bh Br
        by_cases hlt : k < ps.length
        · obtain ⟨b, off, hA, hc⟩ := HS.out.later hB hne
          injection hA with hA
          injection hA with hA1 hA2
          subst hA1 hA2
          obtain ⟨g1, g2⟩ := hc k hlt
          clear hc f5 f6 f7 f8 z5 z6 z7 z8
          have nb : b < wr.heap.size := World.block_lt_of_cell? _ _ g1
          have q7 : (0 : Int) ≤ (k : Int) := by omega
          have q8 : (k : Int) < (ps.length : Int) := by omega
          have HM := Lib.hid (And.intro (show loTo ps (k + 1) = ⟨min (loTo ps k).x (pt ps k).x, min (loTo ps k).y (pt ps k).y⟩ from rfl) (show hiTo ps (k + 1) = ⟨max (hiTo ps k).x (pt ps k).x, max (hiTo ps k).y (pt ps k).y⟩ from rfl))
          generalize loTo ps k = lo at *
          generalize hiTo ps k = hi at *
          go_wp2_with fail
          go_region
          have C1 := HL.out.set2 (iv (min lo.x (pt ps k).x)) (iv (min lo.y (pt ps k).y))
          have C2 := HH.out.far2 (k := gl) (by omega) (iv (min lo.x (pt ps k).x)) (iv (min lo.y (pt ps k).y))
          have C3 := HR.out.far2 (k := gl) (by omega) (iv (min lo.x (pt ps k).x)) (iv (min lo.y (pt ps k).y))
          have C4 := below_set2 (g := gl) hB (by omega) (iv (min lo.x (pt ps k).x)) (iv (min lo.y (pt ps k).y))
          have e8 : ∀ i v, wr.cell? ⟨b, i, none⟩ = some v → b ≠ gl → ((wr.setCell ⟨gl, 0, none⟩ (iv (min lo.x (pt ps k).x))).setCell ⟨gl, 1, none⟩ (iv (min lo.y (pt ps k).y))).cell? ⟨b, i, none⟩ = some v := fun i v hv hne => by
            rw [← hv]
            exact World.cell?_of_block (a := ⟨b, i, none⟩) ((Below.heap_setCell _ ⟨gl, 1, none⟩ _ b hne).trans (Below.heap_setCell wr ⟨gl, 0, none⟩ _ b hne))
          have hbl : b ≠ gl := by have := HBW.out; omega
          have k1 := e8 _ _ g1 hbl
          have k2 := e8 _ _ g2 hbl
          clear e8 f1 f2 f3 f4 z1 z2 z3 z4 g1 g2 HL HH HR
          revert C1 C2 C3 C4 k1 k2
          generalize ((wr.setCell ⟨gl, 0, none⟩ (iv (min lo.x (pt ps k).x))).setCell ⟨gl, 1, none⟩ (iv (min lo.y (pt ps k).y))) = W8
          intro C1 C2 C3 C4 g1 g2
          have f3 := C2.cell 0; have f4 := C2.cell 1
          have z3 := C2.frozen 0; have z4 := C2.frozen 1
          simp at f3 f4
          have K := Lib.hid (And.intro C1 (And.intro C2 (And.intro C3 C4)))
          clear C1 C2 C3 C4
          go_wp2_with fail
          go_region
          clear f3 f4 z3 z4 g1 g2
          go_wp2_with fail
          have D1 := (show Blk W8.drew gl 30 _ from K.out.1).far2 (k := gh) nlh (iv (max hi.x (pt ps k).x)) (iv (max hi.y (pt ps k).y))
          have D2 := (show Blk W8.drew gh 30 _ from K.out.2.1).set2 (iv (max hi.x (pt ps k).x)) (iv (max hi.y (pt ps k).y))
          have D3 := (show Blk W8.drew w.heap.size 41 _ from K.out.2.2.1).far2 (k := gh) (by omega) (iv (max hi.x (pt ps k).x)) (iv (max hi.y (pt ps k).y))
          have D4 := below_set2 (g := gh) K.out.2.2.2 (by omega) (iv (max hi.x (pt ps k).x)) (iv (max hi.y (pt ps k).y))
          go_roundw
          case rel => exact ⟨k + 1, by omega, by omega, by go_num, by rw [HM.out.1]; exact D1, by rw [HM.out.2]; exact D2, D3, D4.drew.drew⟩
          case measure => simp [intOf]; omega
        · obtain rfl : k = ps.length := by omega
          go_wp2
          have B3 := HR.out.set4 (iv (loTo ps ps.length).x) (iv (loTo ps ps.length).y) (iv ((hiTo ps ps.length).x - (loTo ps ps.length).x)) (iv ((hiTo ps ps.length).y - (loTo ps ps.length).y))
          have hB3 := below_set4 hB (Nat.le_refl _) (iv (loTo ps ps.length).x) (iv (loTo ps ps.length).y) (iv ((hiTo ps ps.length).x - (loTo ps ps.length).x)) (iv ((hiTo ps ps.length).y - (loTo ps ps.length).y))
          revert B3 hB3
          generalize ((((wr.setCell ⟨w.heap.size, 0, none⟩ (iv (loTo ps ps.length).x)).setCell ⟨w.heap.size, 1, none⟩ (iv (loTo ps ps.length).y)).setCell ⟨w.heap.size, 2, none⟩ (iv ((hiTo ps ps.length).x - (loTo ps ps.length).x))).setCell ⟨w.heap.size, 3, none⟩ (iv ((hiTo ps ps.length).y - (loTo ps ps.length).y))) = W
          intro B3 hB3
          have r0 := B3.cell 0; have r1 := B3.cell 1; have r2 := B3.cell 2; have r3 := B3.cell 3
          simp at r0 r1 r2 r3
          refine bodyPost_ret (v := .tuple #[rv (boxR ps), iv 0]) ?_ rfl ?_
          · simp [results, Try.results49, go_sem, r0, r1, r2, r3, boxR]
          · rw [boxZ_pos H0.out, H0.out]
            exact ⟨rfl, hB3⟩
end Go.Proofs.Ytfgeengdmbabhaa
