import Derived.Test.YtfgeengdmbabhaaWf
import Derived.RegionTactic
namespace Go.Proofs.Ytfgeengdmbabhaa
open Go.RowKit
attribute [local go_sem ↓] Go.wp_at_zero Go.wp_at_succ

theorem run_min2 {P : Program} {w : World} (ts : Array TypeId) (t : TypeId) (x y : Int) : (Builtin.min_ ts t #[.int .i64 x, .int .i64 y]).run P w = .ok (.int .i64 (min x y)) w := by
  have e : (if y < x then y else x) = min x y := by split <;> omega
  rw [run_min_int2, e]
theorem run_max2 {P : Program} {w : World} (ts : Array TypeId) (t : TypeId) (x y : Int) : (Builtin.max_ ts t #[.int .i64 x, .int .i64 y]).run P w = .ok (.int .i64 (max x y)) w := by
  have e : (if x < y then y else x) = max x y := by split <;> omega
  rw [run_max_int2, e]

/-- a rectangle -/
structure R4 where
  x : Int
  y : Int
  w : Int
  h : Int
deriving DecidableEq
abbrev rv (r : R4) : Value := .agg #[.int .i64 r.x, .int .i64 r.y, .int .i64 r.w, .int .i64 r.h]

def loTo (ps : List Z2) : Nat → Z2
  | 0 => pt ps 0
  | k + 1 => ⟨min (loTo ps k).x (pt ps k).x, min (loTo ps k).y (pt ps k).y⟩
def hiTo (ps : List Z2) : Nat → Z2
  | 0 => pt ps 0
  | k + 1 => ⟨max (hiTo ps k).x (pt ps k).x, max (hiTo ps k).y (pt ps k).y⟩
def boxR (ps : List Z2) : R4 := ⟨(loTo ps ps.length).x, (loTo ps ps.length).y, (hiTo ps ps.length).x - (loTo ps ps.length).x, (hiTo ps ps.length).y - (loTo ps ps.length).y⟩
def boxZ (ps : List Z2) : R4 := if chkZ ps = 0 then boxR ps else ⟨0, 0, 0, 0⟩
theorem boxZ_pos {ps : List Z2} (h : chkZ ps = 0) : boxZ ps = boxR ps := if_pos h
theorem boxZ_neg {ps : List Z2} (h : ¬ chkZ ps = 0) : boxZ ps = ⟨0, 0, 0, 0⟩ := if_neg h
theorem loTo_bd {ps : List Z2} (h : ∀ p ∈ ps, Bd p) (k : Nat) : Bd (loTo ps k) := by
  induction k with
  | zero => exact bd_pt h 0
  | succ k ih => have := bd_pt h k; unfold Bd at *; simp only [loTo]; omega
theorem hiTo_bd {ps : List Z2} (h : ∀ p ∈ ps, Bd p) (k : Nat) : Bd (hiTo ps k) := by
  induction k with
  | zero => exact bd_pt h 0
  | succ k ih => have := bd_pt h k; unfold Bd at *; simp only [hiTo]; omega

/-- a block that is known whole -/
def Blk (w : World) (g : Nat) (t : TypeId) (cs : Array Value) : Prop := w.heap[g]? = some (.cells cs t (0, 0))
theorem Blk.lt {w : World} {g : Nat} {t : TypeId} {cs : Array Value} (h : Blk w g t cs) : g < w.heap.size := by
  rcases Nat.lt_or_ge g w.heap.size with hlt | hge
  · exact hlt
  · unfold Blk at h; rw [Array.getElem?_eq_none hge] at h; cases h
theorem Blk.cell {w : World} {g : Nat} {t : TypeId} {cs : Array Value} (h : Blk w g t cs) (i : Nat) : w.cell? ⟨g, i, none⟩ = cs[i]? := cell_of_row w g i cs t (0, 0) h
theorem Blk.frozen {w : World} {g : Nat} {t : TypeId} {cs : Array Value} (h : Blk w g t cs) (i : Nat) : w.frozen? ⟨g, i, none⟩ = false := by
  unfold Blk at h
  simp [World.frozen?, h]
theorem Blk.new (w : World) (t : TypeId) (cs : Array Value) : Blk (w.alloc (.cells cs t)) w.heap.size t cs := heap_alloc_new w _
theorem Blk.later {w w' : World} {g : Nat} {t : TypeId} {cs : Array Value} (h : Blk w g t cs) (hb : Below w.heap.size w w') : Blk w' g t cs := (hb.block g h.lt).trans h
theorem Blk.drewN {w : World} {g : Nat} {t : TypeId} {cs : Array Value} (h : Blk w g t cs) (n : Nat) : Blk (w.drewN n) g t cs := h
theorem Blk.set_ {w : World} {g : Nat} {t : TypeId} {cs : Array Value} (h : Blk w g t cs) (i : Nat) (u : Value) : Blk (w.setCell ⟨g, i, none⟩ u) g t (cs.setIfInBounds i u) := by
  unfold Blk at h ⊢
  simp [World.setCell, Array.getElem?_modify, h]
theorem Blk.far {w : World} {g : Nat} {t : TypeId} {cs : Array Value} (h : Blk w g t cs) {p : Addr} (hp : g ≠ p.block) (u : Value) : Blk (w.setCell p u) g t cs := (Below.heap_setCell w p u g hp).trans h
/-- a spot in a block of its own, set anew -/
theorem Blk.set2 {w : World} {g : Nat} {t : TypeId} {x y : Value} (h : Blk w g t #[x, y]) (u v : Value) : Blk ((w.setCell ⟨g, 0, none⟩ u).setCell ⟨g, 1, none⟩ v) g t #[u, v] := (h.set_ 0 u).set_ 1 v
theorem Blk.far2 {w : World} {g k : Nat} {t : TypeId} {cs : Array Value} (h : Blk w g t cs) (hp : g ≠ k) (u v : Value) : Blk ((w.setCell ⟨k, 0, none⟩ u).setCell ⟨k, 1, none⟩ v) g t cs := (h.far (p := ⟨k, 0, none⟩) hp u).far (p := ⟨k, 1, none⟩) hp v

theorem Blk.set4 {w : World} {g : Nat} {t : TypeId} {x y z u : Value} (h : Blk w g t #[x, y, z, u]) (a b c d : Value) :
    Blk ((((w.setCell ⟨g, 0, none⟩ a).setCell ⟨g, 1, none⟩ b).setCell ⟨g, 2, none⟩ c).setCell ⟨g, 3, none⟩ d) g t #[a, b, c, d] := (((h.set_ 0 a).set_ 1 b).set_ 2 c).set_ 3 d
theorem below_set4 {w w1 : World} {g : Nat} (h : Below w.heap.size w w1) (hg : w.heap.size ≤ g) (a b c d : Value) :
    Below w.heap.size w ((((w1.setCell ⟨g, 0, none⟩ a).setCell ⟨g, 1, none⟩ b).setCell ⟨g, 2, none⟩ c).setCell ⟨g, 3, none⟩ d) :=
  (((h.setCell (p := ⟨g, 0, none⟩) hg a).setCell (p := ⟨g, 1, none⟩) hg b).setCell (p := ⟨g, 2, none⟩) hg c).setCell (p := ⟨g, 3, none⟩) hg d
theorem below_set2 {w w1 : World} {g : Nat} (h : Below w.heap.size w w1) (hg : w.heap.size ≤ g) (a b : Value) :
    Below w.heap.size w ((w1.setCell ⟨g, 0, none⟩ a).setCell ⟨g, 1, none⟩ b) :=
  (h.setCell (p := ⟨g, 0, none⟩) hg a).setCell (p := ⟨g, 1, none⟩) hg b

theorem two_new (w : World) (t : TypeId) (cs ds : Array Value) : Blk ((w.alloc (.cells cs t)).alloc (.cells ds t)) w.heap.size t cs ∧ Blk ((w.alloc (.cells cs t)).alloc (.cells ds t)) (w.heap.size + 1) t ds ∧ Below w.heap.size w ((w.alloc (.cells cs t)).alloc (.cells ds t)) := by
  have h1 := Blk.new w t cs
  have h2 := Blk.new (w.alloc (.cells cs t)) t ds
  have h3 := below_alloc (w.alloc (.cells cs t)) (.cells ds t)
  refine ⟨h1.later h3, ?_, below_trans (below_alloc _ _) h3⟩
  have e : (w.alloc (.cells cs t)).heap.size = w.heap.size + 1 := by simp
  rw [e] at h2; exact h2

theorem box_step {w wr : World} {gl gh : Nat} {t : TypeId} {a b c d : Value} {cs : Array Value} (Bl : Blk wr gl 30 #[a, b]) (Bh : Blk wr gh 30 #[c, d]) (Br : Blk wr w.heap.size t cs) (hB : Below w.heap.size w wr) (n1 : w.heap.size < gl) (n2 : w.heap.size < gh) (n3 : gl ≠ gh) (x1 y1 x2 y2 : Value) (o : Obj) :
    Blk (((((wr.setCell ⟨gl, 0, none⟩ x1).setCell ⟨gl, 1, none⟩ y1).setCell ⟨gh, 0, none⟩ x2).setCell ⟨gh, 1, none⟩ y2).alloc o) gl 30 #[x1, y1]
    ∧ Blk (((((wr.setCell ⟨gl, 0, none⟩ x1).setCell ⟨gl, 1, none⟩ y1).setCell ⟨gh, 0, none⟩ x2).setCell ⟨gh, 1, none⟩ y2).alloc o) gh 30 #[x2, y2]
    ∧ Blk (((((wr.setCell ⟨gl, 0, none⟩ x1).setCell ⟨gl, 1, none⟩ y1).setCell ⟨gh, 0, none⟩ x2).setCell ⟨gh, 1, none⟩ y2).alloc o) w.heap.size t cs
    ∧ Below w.heap.size w (((((wr.setCell ⟨gl, 0, none⟩ x1).setCell ⟨gl, 1, none⟩ y1).setCell ⟨gh, 0, none⟩ x2).setCell ⟨gh, 1, none⟩ y2).alloc o) := by
  have h1 := (Bl.set2 x1 y1).far2 n3 x2 y2
  have h2 := (Bh.far2 (k := gl) (by omega) x1 y1).set2 x2 y2
  have h3 := (Br.far2 (k := gl) (by omega) x1 y1).far2 (k := gh) (by omega) x2 y2
  have h4 := below_set2 (g := gh) (below_set2 (g := gl) hB (by omega) x1 y1) (by omega) x2 y2
  generalize ((((wr.setCell ⟨gl, 0, none⟩ x1).setCell ⟨gl, 1, none⟩ y1).setCell ⟨gh, 0, none⟩ x2).setCell ⟨gh, 1, none⟩ y2) = W at *
  have k := below_alloc W o
  exact ⟨h1.later k, h2.later k, h3.later k, h4.trans (k.mono h4.size)⟩

attribute [local go_sem ↓] run_min2 run_max2

set_option maxHeartbeats 4000000 in
/-- polygon.Box -/
theorem box42 (A : Option Addr) (c : Nat) (ps : List Z2) (w : World) (hsp : Sp w A ps) (hcap : ps.length ≤ c) :
    Calls Try.prog 42 #[.slice A ps.length c] w fun e w' => e = .returned (.tuple #[rv (boxZ ps), iv (chkZ ps)]) ∧ Below w.heap.size w w' := by
  have HS := Lib.hid hsp; clear hsp
  by_cases h0 : chkZ ps = 0
  case neg =>
    have H0 := Lib.hid h0
    have hd : (chkZ ps != 0) = true := by simpa using h0
    clear h0
    go_enter Try.func42, Try.ntmps42
    go_wp2_with fail
    refine (check38 A c ps _ (HS.out.later (below_alloc _ _)) hcap).mono ?_
    rintro e w1 ⟨rfl, hb1⟩
    have B2 := (Blk.new w 41 #[iv 0, iv 0, iv 0, iv 0]).later hb1
    have hB1 := below_trans (below_alloc _ _) hb1
    clear hb1
    have f0 := B2.cell 0; have f1 := B2.cell 1; have f2 := B2.cell 2; have f3 := B2.cell 3
    have z0 := B2.frozen 0; have z1 := B2.frozen 1; have z2 := B2.frozen 2; have z3 := B2.frozen 3
    simp at f0 f1 f2 f3
    have HB2 := Lib.hid B2
    clear B2
    go_wp2
    have B3 := HB2.out.set4 (iv 0) (iv 0) (iv 0) (iv 0)
    have hB3 := below_set4 hB1 (Nat.le_refl _) (iv 0) (iv 0) (iv 0) (iv 0)
    revert B3 hB3
    generalize ((((w1.setCell ⟨w.heap.size, 0, none⟩ (iv 0)).setCell ⟨w.heap.size, 1, none⟩ (iv 0)).setCell ⟨w.heap.size, 2, none⟩ (iv 0)).setCell ⟨w.heap.size, 3, none⟩ (iv 0)) = W
    intro B3 hB3
    have r0 := B3.cell 0; have r1 := B3.cell 1; have r2 := B3.cell 2; have r3 := B3.cell 3
    simp at r0 r1 r2 r3
    refine bodyPost_ret (v := .tuple #[rv ⟨0, 0, 0, 0⟩, iv (chkZ ps)]) ?_ rfl ?_
    · simp [results, Try.results42, go_sem, r0, r1, r2, r3]
    · rw [boxZ_neg H0.out]
      exact ⟨rfl, hB3⟩
  case pos =>
    have H0 := Lib.hid h0
    obtain ⟨hl, hl3, hD, _, _⟩ := chkZ_zero h0
    have HD := Lib.hid hD
    clear h0 hD
    go_enter Try.func42, Try.ntmps42
    go_wp2_with fail
    refine (check38 A c ps _ (HS.out.later (below_alloc _ _)) hcap).mono ?_
    rintro e w1 ⟨rfl, hb1⟩
    have B2 := (Blk.new w 41 #[iv 0, iv 0, iv 0, iv 0]).later hb1
    have hB1 := below_trans (below_alloc _ _) hb1
    clear hb1
    have HB2 := Lib.hid B2
    have nw : w.heap.size < w1.heap.size := B2.lt
    clear B2
    rw [H0.out]
    have hne : ps ≠ [] := by intro h; simp [h] at hl3
    obtain ⟨b, off, rfl, hc⟩ := HS.out.later hB1 hne
    obtain ⟨g1, g2⟩ := hc 0 (by omega)
    simp only [Nat.zero_mul, Nat.add_zero] at g1 g2
    clear hc
    have p1 : (0 : Int) < (ps.length : Int) := by omega
    have nb : b < w1.heap.size := World.block_lt_of_cell? _ _ g1
    have nb2 : b ≠ w1.heap.size := by omega
    have nb3 : b ≠ w1.heap.size + 1 := by omega
    go_upto_region 4 with fail
    go_cut [5, 6] (fun u v wx => ∃ gl gh : Nat, u = .pointer (some ⟨gl, 0, none⟩) ∧ v = .pointer (some ⟨gh, 0, none⟩) ∧ w1.heap.size ≤ gl ∧ w1.heap.size ≤ gh ∧ gl ≠ gh ∧ Blk wx gl 30 #[iv (pt ps 0).x, iv (pt ps 0).y] ∧ Blk wx gh 30 #[iv (pt ps 0).x, iv (pt ps 0).y] ∧ Below w1.heap.size w1 wx)
    case first =>
      go_region
      · go_wp2_with fail
        go_meet
        have F := two_new w1 30 #[iv (pt ps 0).x, iv (pt ps 0).y] #[iv (pt ps 0).x, iv (pt ps 0).y]
        exact ⟨w1.heap.size, w1.heap.size + 1, rfl, rfl, by omega, by omega, by omega, F.1, F.2.1, F.2.2.drew⟩
      · go_wp2_with fail
        go_meet
        have F := two_new w1 30 #[iv (pt ps 0).x, iv (pt ps 0).y] #[iv (pt ps 0).x, iv (pt ps 0).y]
        exact ⟨w1.heap.size + 1, w1.heap.size, rfl, rfl, by omega, by omega, by omega, F.2.1, F.1, F.2.2.drew⟩
    case rest =>
      obtain ⟨gl, gh, rfl, rfl, nl, nh, nlh, Bl, Bh, hbx⟩ := hcut
      have HI := Lib.hid (And.intro Bl (And.intro Bh (And.intro (HB2.out.later hbx) (hB1.trans (hbx.mono hB1.size)))))
      clear Bl Bh hbx g1 g2 nb nb2 nb3 HB2
      go_wp2
      go_loopw [23] (fun i wr => ∃ k : Nat, k ≤ ps.length ∧ i = .int .i64 k ∧ Blk wr gl 30 #[iv (loTo ps k).x, iv (loTo ps k).y] ∧ Blk wr gh 30 #[iv (hiTo ps k).x, iv (hiTo ps k).y] ∧ Blk wr w.heap.size 41 #[iv 0, iv 0, iv 0, iv 0] ∧ Below w.heap.size w wr) (fun i _ => ps.length - (intOf i).toNat)
      case atStart => exact ⟨0, Nat.zero_le _, rfl, HI.out.1, HI.out.2.1, HI.out.2.2.1, HI.out.2.2.2⟩
      case round =>
        clear HI
        obtain ⟨k, hk, rfl, Bl, Bh, Br, hB⟩ := hrel
        have HL := Lib.hid Bl; have HH := Lib.hid Bh; have HR := Lib.hid Br
        have ll := Bl.lt
        have lh := Bh.lt
        have hlo := loTo_bd HD.out k
        have hhi := hiTo_bd HD.out k
        unfold Bd at hlo hhi
        have f1 := Bl.cell 0; have f2 := Bl.cell 1; have f3 := Bh.cell 0; have f4 := Bh.cell 1
        have z1 := Bl.frozen 0; have z2 := Bl.frozen 1; have z3 := Bh.frozen 0; have z4 := Bh.frozen 1
        have f5 := Br.cell 0; have f6 := Br.cell 1; have f7 := Br.cell 2; have f8 := Br.cell 3
        have z5 := Br.frozen 0; have z6 := Br.frozen 1; have z7 := Br.frozen 2; have z8 := Br.frozen 3
        simp at f1 f2 f3 f4 f5 f6 f7 f8
        clear Bl Bh Br
        by_cases hlt : k < ps.length
        · obtain ⟨b, off, hA, hc⟩ := HS.out.later hB hne
          injection hA with hA
          injection hA with hA1 hA2
          subst hA1 hA2
          obtain ⟨g1, g2⟩ := hc k hlt
          clear hc
          have nb : b < wr.heap.size := World.block_lt_of_cell? _ _ g1
          have y1 : gl ≠ wr.heap.size := by omega
          have y2 : gh ≠ wr.heap.size := by omega
          have y3 : gh ≠ gl := by omega
          go_wp2
          go_roundw
          case rel =>
            have F := box_step HL.out HH.out HR.out hB (by omega) (by omega) nlh (iv (min (loTo ps k).x (pt ps k).x)) (iv (min (loTo ps k).y (pt ps k).y)) (iv (max (hiTo ps k).x (pt ps k).x)) (iv (max (hiTo ps k).y (pt ps k).y)) (.cells #[iv (pt ps k).x, iv (pt ps k).y] 30)
            exact ⟨k + 1, by omega, by go_num, F.1, F.2.1, F.2.2.1, F.2.2.2⟩
          case measure => simp [intOf]; omega
        · obtain rfl : k = ps.length := by omega
          go_wp2
          have B3 := HR.out.set4 (iv (loTo ps ps.length).x) (iv (loTo ps ps.length).y) (iv ((hiTo ps ps.length).x - (loTo ps ps.length).x)) (iv ((hiTo ps ps.length).y - (loTo ps ps.length).y))
          have hB3 := below_set4 hB (Nat.le_refl _) (iv (loTo ps ps.length).x) (iv (loTo ps ps.length).y) (iv ((hiTo ps ps.length).x - (loTo ps ps.length).x)) (iv ((hiTo ps ps.length).y - (loTo ps ps.length).y))
          revert B3 hB3
          generalize ((((wr.setCell ⟨w.heap.size, 0, none⟩ (iv (loTo ps ps.length).x)).setCell ⟨w.heap.size, 1, none⟩ (iv (loTo ps ps.length).y)).setCell ⟨w.heap.size, 2, none⟩ (iv ((hiTo ps ps.length).x - (loTo ps ps.length).x))).setCell ⟨w.heap.size, 3, none⟩ (iv ((hiTo ps ps.length).y - (loTo ps ps.length).y))) = W
          intro B3 hB3
          have r0 := B3.cell 0; have r1 := B3.cell 1; have r2 := B3.cell 2; have r3 := B3.cell 3
          simp at r0 r1 r2 r3
          refine bodyPost_ret (v := .tuple #[rv (boxR ps), iv 0]) ?_ rfl ?_
          · simp [results, Try.results42, go_sem, r0, r1, r2, r3, boxR]
          · rw [boxZ_pos H0.out, H0.out]
            exact ⟨rfl, hB3⟩
end Go.Proofs.Ytfgeengdmbabhaa
