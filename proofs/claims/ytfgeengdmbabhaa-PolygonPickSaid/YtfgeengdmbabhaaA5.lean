import Derived.Test.YtfgeengdmbabhaaA2
import Derived.Test.YtfgeengdmbabhaaRows
import Derived.ProofKit
import Derived.JoinedOf
import Derived.OpenShut
import Derived.ShutString
import Derived.ChangeOld
import Derived.Deep.Slices
import Derived.Deep.Fields
import Derived.Lib.SmallJoins
import Derived.Test.YtfgeengdmbabhaaA3
import Derived.Test.YtfgeengdmbabhaaB2
import Derived.Test.YtfgeengdmbabhaaA4
namespace Go.Proofs.Ytfgeengdmbabhaa
open Go.ChangeShapes Go.WideShapes Go.ChangeAt Go.RowKit Go.Deep Go.Joins
set_option linter.unusedVariables false

theorem Try.own : ownKnob Try.prog.godebug = none := by kernel_rfl
theorem Try.laidOut : laidOutB Try.prog = true := by kernel_rfl

set_option maxRecDepth 100000 in
theorem initChars : ∃ l, Try.prog.initOrder = String.ofList l ∧ (behindMainWord (wordsSigns l)).head? = some "cut".toList := by
  apply Exists.intro
  apply And.intro
  · exact rfl
  · kernel_rfl
theorem strip_cut (rest : List (List Char)) : stripLifts liftWords ("cut".toList :: rest) = ([], "cut".toList :: rest) := by kernel_rfl
theorem mayEnter_of {P : Program} (h : ∃ l, P.initOrder = String.ofList l ∧ (behindMainWord (wordsSigns l)).head? = some "cut".toList) (h4 : P.laysLater = false) (h5 : P.bearsReflect = false) (h6 : P.doorFits [] = true) : P.mayEnter = true := by
  obtain ⟨l, h1, h2⟩ := h
  unfold Program.mayEnter
  rw [h1, String.toList_ofList]
  generalize behindMainWord (wordsSigns l) = ws at h2
  cases ws with
  | nil => simp at h2
  | cons c rest =>
    simp only [List.head?_cons, Option.some.injEq] at h2
    subst h2
    simp only [strip_cut]
    simp [h4, h5, h6]
theorem liftsFinal_of {P : Program} (h : ∃ l, P.initOrder = String.ofList l ∧ (behindMainWord (wordsSigns l)).head? = some "cut".toList) : P.liftsFinal = false := by
  obtain ⟨l, h1, h2⟩ := h
  unfold Program.liftsFinal Program.headLifts
  rw [h1, String.toList_ofList]
  generalize behindMainWord (wordsSigns l) = ws at h2
  cases ws with
  | nil => simp at h2
  | cons c rest =>
    simp only [List.head?_cons, Option.some.injEq] at h2
    subst h2
    simp only [strip_cut]
    simp
theorem make_of {P : Program} (h : ∃ l, P.initOrder = String.ofList l ∧ (behindMainWord (wordsSigns l)).head? = some "cut".toList) : P.make = some .cut := by
  obtain ⟨l, h1, h2⟩ := h
  unfold Program.make
  rw [h1, String.toList_ofList]
  generalize behindMainWord (wordsSigns l) = ws at h2
  cases ws with
  | nil => simp at h2
  | cons c rest =>
    simp only [List.head?_cons, Option.some.injEq] at h2
    subst h2
    simp
theorem Try.fMay : Try.prog.mayEnter = true := mayEnter_of initChars (by kernel_rfl) (by kernel_rfl) (by kernel_rfl)
theorem Try.fLifts : Try.prog.liftsFinal = false := liftsFinal_of initChars
theorem Try.fMake : Try.prog.make = some .cut := make_of initChars
theorem Try.fMaps : mapsRowed Try.prog = true := by kernel_rfl
theorem Try.fStops : Try.prog.stops = [] := by kernel_rfl
theorem Try.fKnobs : Try.prog.stopKnobs = [] := by kernel_rfl
theorem Try.fHeard : Try.prog.stopsHeard = true := by kernel_rfl
theorem Try.fPlain : Try.prog.plainKeys = true := by kernel_rfl

/-- the numbers of a spot fit their kind -/
def In64 (p : Z2) : Prop := -9223372036854775808 ≤ p.x ∧ p.x ≤ 9223372036854775807 ∧ -9223372036854775808 ≤ p.y ∧ p.y ≤ 9223372036854775807

theorem wf64 {n : Int} (h : (Lit.int .i64 n).wf = true) : -9223372036854775808 ≤ n ∧ n ≤ 9223372036854775807 := by
  have := bounds_i64 h
  omega

section
variable {H : Type} {enc : TypeId × Value → H} {w : World} {base : Nat} {spare : Nat → Bool} {held : Bool}
theorem open_spot {r : Reach} {b0 : Nat} {v : Value} {d : DataW H} {p : List MemPlace} (hv : Value.okWide Try.prog w r b0 30 v) (h : DataW.Trod enc Try.prog w base spare held 30 v d p) :
    ∃ q : Z2, v = sv q ∧ In64 q := by
  obtain ⟨v0, v1, y0, y1, n, rfl, _, _, h0, h1⟩ := open_agg2 Try.underlying30 (by kernel_rfl) (by kernel_rfl) hv h
  obtain ⟨a, e0, _, wa⟩ := DataW.trod_int Try.underlying3 h0
  obtain ⟨b, e1, _, wb⟩ := DataW.trod_int Try.underlying3 h1
  simp at e0 e1
  subst e0 e1
  have := wf64 wa
  have := wf64 wb
  exact ⟨⟨a, b⟩, rfl, by unfold In64; simp only; omega⟩

theorem struct2 {n : Nat} {cs : List Value} {y : DataW H × List MemPlace} (hl : cs.length = 2) (h : DataW.trod enc Try.prog w base spare held n 30 cs = some y) : ∃ q : Z2, cs = [iv q.x, iv q.y] ∧ In64 q := by
  obtain ⟨ys, n', hn', hy, hlen, hyl, hf⟩ := DataW.trod_struct Try.underlying30 h
  match cs, hl with
  | [c0, c1], _ =>
    have hC : Try.prog.cellsOf 3 = 1 := by kernel_rfl
    have f0 : DataW.trod enc Try.prog w base spare held n' 3 (([c0, c1].drop 0).take (Try.prog.cellsOf 3)) = ys[0]? := hf 0 _ rfl
    have f1 : DataW.trod enc Try.prog w base spare held n' 3 (([c0, c1].drop 1).take (Try.prog.cellsOf 3)) = ys[1]? := hf 1 _ rfl
    rw [hC] at f0 f1
    match ys, hyl with
    | [y0, y1], _ =>
      have f0' : DataW.trod enc Try.prog w base spare held n' 3 [c0] = some y0 := f0
      have f1' : DataW.trod enc Try.prog w base spare held n' 3 [c1] = some y1 := f1
      obtain ⟨a, e0, _, wa⟩ := DataW.trod_int Try.underlying3 f0'
      obtain ⟨b, e1, _, wb⟩ := DataW.trod_int Try.underlying3 f1'
      simp at e0 e1
      subst e0 e1
      have := wf64 wa
      have := wf64 wb
      exact ⟨⟨a, b⟩, rfl, by unfold In64; simp only; omega⟩

theorem open_spots {r : Reach} {b0 : Nat} {v : Value} {d : DataW H} {p : List MemPlace} (hv : Value.okWide Try.prog w r b0 22 v) (h : DataW.Trod enc Try.prog w base (fun _ => true) held 22 v d p) :
    ∃ (A : Option Addr) (c : Nat) (ps : List Z2), v = .slice A ps.length c ∧ ps.length ≤ c ∧ c ≤ maxLen ∧ Sp w A ps ∧ ∀ q ∈ ps, In64 q := by
  obtain ⟨A, len, cap, rfl⟩ := okWide_slice Try.underlying22 hv
  obtain ⟨fuel, hf⟩ := h
  rcases open_slice Try.underlying22 hf with ⟨hcs, _⟩ | ⟨a, len', cap', m, n, D, Pl, hcs, hb, hl, hm, hmm, hx, hi⟩
  · simp [Value.cells] at hcs
    obtain ⟨rfl, rfl, rfl⟩ := hcs
    exact ⟨none, 0, [], rfl, by simp, by simp, fun h => absurd rfl h, by simp⟩
  · simp [Value.cells] at hcs
    obtain ⟨rfl, rfl, rfl⟩ := hcs
    simp only [if_true] at hmm
    subst hmm
    have hC : Try.prog.cellsOf 30 = 2 := by kernel_rfl
    have key : ∀ i, i < len → ∃ q : Z2, In64 q ∧ w.cell? (a.add (i * 2)) = some (iv q.x) ∧ w.cell? (a.add (i * 2 + 1)) = some (iv q.y) := by
      intro i hil
      obtain ⟨cs', hc, ht'⟩ := hi i (by omega)
      rw [hC] at hc
      obtain ⟨_, hcl, hat⟩ := World.cells?_some hc
      obtain ⟨q, rfl, hq⟩ := struct2 hcl ht'
      have a0 := hat 0 (by omega)
      have a1 := hat 1 (by omega)
      rw [Go.Deep.add_add] at a0 a1
      exact ⟨q, hq, a0, a1⟩
    have key2 : ∃ ps : List Z2, ps.length = len ∧ ∀ i, i < len → In64 (pt ps i) ∧ w.cell? (a.add (i * 2)) = some (iv (pt ps i).x) ∧ w.cell? (a.add (i * 2 + 1)) = some (iv (pt ps i).y) := by
      clear hx hi hf hv hl
      induction len with
      | zero => exact ⟨[], rfl, fun i hi => absurd hi (by omega)⟩
      | succ len ih =>
        obtain ⟨ps, hl, hp⟩ := ih (fun i hi => key i (by omega))
        obtain ⟨q, hq⟩ := key len (by omega)
        refine ⟨ps ++ [q], by simp [hl], fun i hi => ?_⟩
        by_cases e : i = len
        · have : pt (ps ++ [q]) i = q := by subst e; simp [pt, hl]
          rw [this, e]; exact hq
        · have : pt (ps ++ [q]) i = pt ps i := by
            have hi' : i < ps.length := by omega
            rw [pt_eq hi', pt_eq (by simp; omega), List.getElem_append_left hi']
          rw [this]; exact hp i (by omega)
    obtain ⟨ps, hpl, hps⟩ := key2
    subst hpl
    refine ⟨some a, _, ps, rfl, hl, hm, fun hne => ?_, fun q hq => ?_⟩
    · have h0 : 0 < ps.length := by cases ps with | nil => exact absurd rfl hne | cons => simp
      obtain ⟨b, off, spot⟩ := a
      have hs : spot = none := by
        have := World.cell?_spot (hps 0 h0).2.1
        simpa [Addr.add] using this
      subst hs
      exact ⟨b, off, rfl, fun k hk => by have := (hps k hk).2; rw [add_plain, add_plain] at this; exact this⟩
    · obtain ⟨i, hi', rfl⟩ := List.getElem_of_mem hq
      have := (hps i hi').1
      rwa [pt_eq hi'] at this
end
end Go.Proofs.Ytfgeengdmbabhaa

namespace Go.Proofs.Ytfgeengdmbabhaa
open Go.ChangeShapes Go.WideShapes Go.ChangeAt Go.RowKit Go.Deep Go.Joins
set_option linter.unusedVariables false

section
variable {H : Type} {enc : TypeId × Value → H} {w : World} {base : Nat} {spare : Nat → Bool} {held : Bool}
/-- a struct of two spots -/
theorem open_ends {r : Reach} {b0 : Nat} {v : Value} {d : DataW H} {p : List MemPlace} (hv : Value.okWide Try.prog w r b0 61 v) (h : DataW.Trod enc Try.prog w base spare held 61 v d p) :
    ∃ c q : Z2, v = .agg #[iv c.x, iv c.y, iv q.x, iv q.y] ∧ In64 c ∧ In64 q := by
  obtain ⟨cs, rfl, hsz⟩ := okWide_struct Try.underlying61 hv
  have hC : Try.prog.cellsOf 61 = 4 := by kernel_rfl
  have hC3 : Try.prog.cellsOf 30 = 2 := by kernel_rfl
  rw [hC] at hsz
  obtain ⟨fuel, hf⟩ := h
  obtain ⟨ys, n', hn', hy, hlen, hyl, hfs⟩ := DataW.trod_struct Try.underlying61 hf
  obtain ⟨c0, c1, c2, c3, rfl⟩ : ∃ c0 c1 c2 c3, cs = #[c0, c1, c2, c3] := by
    match cs, hsz with
    | ⟨[c0, c1, c2, c3]⟩, _ => exact ⟨c0, c1, c2, c3, rfl⟩
  have f0 : DataW.trod enc Try.prog w base spare held n' 30 (([c0, c1, c2, c3].drop 0).take (Try.prog.cellsOf 30)) = ys[0]? := hfs 0 _ rfl
  have f1 : DataW.trod enc Try.prog w base spare held n' 30 (([c0, c1, c2, c3].drop 2).take (Try.prog.cellsOf 30)) = ys[1]? := hfs 1 _ rfl
  rw [hC3] at f0 f1
  match ys, hyl with
  | [y0, y1], _ =>
    have f0' : DataW.trod enc Try.prog w base spare held n' 30 [c0, c1] = some y0 := f0
    have f1' : DataW.trod enc Try.prog w base spare held n' 30 [c2, c3] = some y1 := f1
    obtain ⟨c, e0, h0⟩ := struct2 rfl f0'
    obtain ⟨q, e1, h1⟩ := struct2 rfl f1'
    injection e0 with e00 e0; injection e0 with e01 _
    injection e1 with e10 e1; injection e1 with e11 _
    subst e00 e01 e10 e11
    exact ⟨c, q, rfl, h0, h1⟩
/-- the numbers of a rectangle fit their kind -/
def In64R (r : R4) : Prop := (-9223372036854775808 ≤ r.x ∧ r.x ≤ 9223372036854775807) ∧ (-9223372036854775808 ≤ r.y ∧ r.y ≤ 9223372036854775807) ∧ (-9223372036854775808 ≤ r.w ∧ r.w ≤ 9223372036854775807) ∧ (-9223372036854775808 ≤ r.h ∧ r.h ≤ 9223372036854775807)
theorem open_rect {r : Reach} {b0 : Nat} {v : Value} {d : DataW H} {p : List MemPlace} (hv : Value.okWide Try.prog w r b0 41 v) (h : DataW.Trod enc Try.prog w base spare held 41 v d p) :
    ∃ q : R4, v = rv q ∧ In64R q := by
  obtain ⟨v0, v1, v2, v3, y0, y1, y2, y3, n, rfl, _, _, h0, h1, h2, h3⟩ := open_agg4 Try.underlying41 (by kernel_rfl) (by kernel_rfl) hv h
  obtain ⟨a, e0, _, wa⟩ := DataW.trod_int Try.underlying3 h0
  obtain ⟨b, e1, _, wb⟩ := DataW.trod_int Try.underlying3 h1
  obtain ⟨c, e2, _, wc⟩ := DataW.trod_int Try.underlying3 h2
  obtain ⟨d, e3, _, wd⟩ := DataW.trod_int Try.underlying3 h3
  simp at e0 e1 e2 e3
  subst e0 e1 e2 e3
  exact ⟨⟨a, b, c, d⟩, rfl, wf64 wa, wf64 wb, wf64 wc, wf64 wd⟩
end
end Go.Proofs.Ytfgeengdmbabhaa

/- Plain laws of polygons: areas, positions and corners in the geometry's words. -/
namespace Go.Proofs.Ytfgeengdmbabhaa
open Geo (Pt cr On Simple edges mem_edges esum)

theorem ar_poly (ps : List Z2) : Geo.ar (poly ps) = ((areaZ ps : Int) : Rat) := by
  unfold Geo.ar
  rw [areaZ_esum, Geo.edges_map]
  induction edges ps with
  | nil => rfl
  | cons e l ih =>
    simp only [List.map_cons, Geo.rsum]
    rw [ih, Geo.esum_cons]
    simp only [toPt, sideZ, Prod.map_fst, Prod.map_snd, Rat.intCast_add, Rat.intCast_sub, Rat.intCast_mul]
theorem chi_poly (a b q : Z2) : Geo.chi (toPt a) (toPt b) (toPt q) = if a.y ≤ q.y ∧ q.y < b.y ∧ 0 < crZ a b q then 1 else if b.y ≤ q.y ∧ q.y < a.y ∧ crZ a b q < 0 then -1 else 0 := by
  unfold Geo.chi
  rw [cr_toPt]
  simp only [toPt, Rat.intCast_le_intCast, Rat.intCast_lt_intCast, Rat.intCast_pos, Rat.intCast_neg_iff]
theorem cnt_w (ps : List Z2) (q : Z2) : (cntE q (edges ps) - Geo.w (poly ps) (toPt q)) % 2 = 0 := by
  unfold cntE Geo.w
  rw [Geo.edges_map, Geo.esum_map]
  induction edges ps with
  | nil => rfl
  | cons e l ih =>
    rw [Geo.esum_cons, Geo.esum_cons]
    simp only [Prod.map_fst, Prod.map_snd]
    rw [chi_poly]
    have hc := cross_iff e.1 e.2 q
    by_cases h1 : e.1.y ≤ q.y ∧ q.y < e.2.y ∧ 0 < crZ e.1 e.2 q
    · rw [if_pos h1, if_pos (hc.2 (.inl h1))]
      simp only [Prod.map_fst, Prod.map_snd] at ih
      omega
    · by_cases h2 : e.2.y ≤ q.y ∧ q.y < e.1.y ∧ crZ e.1 e.2 q < 0
      · rw [if_neg h1, if_pos h2, if_pos (hc.2 (.inr h2))]
        simp only [Prod.map_fst, Prod.map_snd] at ih
        omega
      · rw [if_neg h1, if_neg h2, if_neg (fun h => by rcases hc.1 h with h | h; exact h1 h; exact h2 h)]
        simp only [Prod.map_fst, Prod.map_snd] at ih
        omega
theorem on_poly (ps : List Z2) (q : Z2) : onAny ps q = true ↔ ∃ e ∈ edges (poly ps), On e.1 e.2 (toPt q) := by
  rw [onAny_iff, Geo.edges_map]
  constructor
  · rintro ⟨e, he, h⟩; exact ⟨_, List.mem_map_of_mem he, (onZ_iff _ _ _).1 h⟩
  · rintro ⟨e, he, h⟩
    obtain ⟨f, hf, rfl⟩ := List.mem_map.1 he
    exact ⟨f, hf, (onZ_iff _ _ _).2 h⟩
/-- the position, by the winding number -/
theorem place_w (ps : List Z2) (q : Z2) (hq : outZ q = false) : placeZ ps q = if onAny ps q then 0 else if Geo.w (poly ps) (toPt q) % 2 = 0 then -1 else 1 := by
  unfold placeZ
  rw [hq, parZ_cnt]
  have := cnt_w ps q
  have e : cntE q (edges ps) % 2 = 0 ↔ Geo.w (poly ps) (toPt q) % 2 = 0 := by omega
  simp only [e]
  rfl

theorem chk_simple {ps : List Z2} (h : chkZ ps = 0) : Simple (poly ps) := (simpleZ_iff (chkZ_zero h).2.1).1 (chkZ_zero h).2.2.2.2
theorem area_ne {ps : List Z2} (h : Simple (poly ps)) : areaZ ps ≠ 0 := fun e => Geo.ar_ne h (by rw [ar_poly, e]; rfl)
theorem LT_area {ps : List Z2} (h : Simple (poly ps)) : Geo.LT (poly ps) ↔ 0 < areaZ ps := by rw [Geo.LT_iff h, ar_poly, Rat.intCast_pos]
theorem good_area {ps : List Z2} (h : Simple (poly ps)) (ha : 0 < areaZ ps) : Geo.Good (poly ps) := ((LT_area h).2 ha).good h

theorem place_good {ps : List Z2} (h : Simple (poly ps)) (ha : 0 < areaZ ps) {q : Z2} (hq : outZ q = false) :
    (placeZ ps q = 0 ∧ onAny ps q = true) ∨ (placeZ ps q = 1 ∧ onAny ps q = false ∧ Geo.w (poly ps) (toPt q) = 1) ∨ (placeZ ps q = -1 ∧ onAny ps q = false ∧ Geo.w (poly ps) (toPt q) = 0) := by
  rw [place_w ps q hq]
  cases ho : onAny ps q with
  | true => exact .inl ⟨rfl, rfl⟩
  | false =>
    right
    have hoff : ∀ e ∈ edges (poly ps), ¬ On e.1 e.2 (toPt q) := fun e he h' => by
      have := (on_poly ps q).2 ⟨e, he, h'⟩
      rw [ho] at this; cases this
    rcases (good_area h ha).win _ hoff with hw | hw
    · right; rw [hw]; exact ⟨rfl, rfl, rfl⟩
    · left; rw [hw]; exact ⟨rfl, rfl, rfl⟩

/-! straight vertices -/
theorem edge_in {ps : List Z2} {i : Nat} (hi : i < ps.length) : (toPt (pt ps ((i + ps.length - 1) % ps.length)), toPt (pt ps i)) ∈ edges (poly ps) := by
  refine mem_edges_poly.2 ⟨(i + ps.length - 1) % ps.length, Nat.mod_lt _ (by omega), ?_⟩
  have e : ((i + ps.length - 1) % ps.length + 1) % ps.length = i := by
    rw [Nat.mod_add_mod]
    have : i + ps.length - 1 + 1 = i + ps.length := by omega
    rw [this, Nat.add_mod_right, Nat.mod_eq_of_lt hi]
  unfold nx
  rw [e]
theorem edge_out {ps : List Z2} {i : Nat} (hi : i < ps.length) : (toPt (pt ps i), toPt (pt ps ((i + 1) % ps.length))) ∈ edges (poly ps) := mem_edges_poly.2 ⟨i, hi, rfl⟩
theorem bend_flat {ps : List Z2} (h : Simple (poly ps)) {i : Nat} (hi : i < ps.length) : bendZ ps i = 0 ↔ Geo.Flat (poly ps) (toPt (pt ps i)) := by
  unfold bendZ
  constructor
  · intro e; exact ⟨_, _, edge_in hi, edge_out hi, by rw [cr_toPt, e]; rfl⟩
  · rintro ⟨p, s, h1, h2, h3⟩
    rw [h.to_eq h1 (edge_in hi), h.from_eq h2 (edge_out hi), cr_toPt] at h3
    simpa using h3
theorem corners_take {ps : List Z2} (h : Simple (poly ps)) (k : Nat) (hk : k ≤ ps.length) : poly (cornersTo ps k) = ((poly ps).take k).filter fun v => !Geo.flatB (poly ps) v := by
  induction k with
  | zero => rfl
  | succ k ih =>
    have hk' : k < (poly ps).length := by simp; omega
    have e1 : (poly ps)[k] = toPt (pt ps k) := by simp [pt_eq (show k < ps.length by omega)]
    rw [List.take_succ_eq_append_getElem hk', List.filter_append, ← ih (by omega), e1]
    simp only [cornersTo]
    have hb := bend_flat h (i := k) (by omega)
    rw [← Geo.flatB_iff] at hb
    by_cases hz : bendZ ps k = 0
    · rw [if_pos hz]
      simp [hb.1 hz]
    · rw [if_neg hz]
      have : Geo.flatB (poly ps) (toPt (pt ps k)) = false := by
        cases hf : Geo.flatB (poly ps) (toPt (pt ps k)) with
        | false => rfl
        | true => exact absurd (hb.2 hf) hz
      simp [this, poly]
theorem corners_keep {ps : List Z2} (h : Simple (poly ps)) : poly (cornersTo ps ps.length) = Geo.keepF (poly ps) := by
  rw [corners_take h _ (Nat.le_refl _)]
  unfold Geo.keepF
  rw [List.take_of_length_le (by simp)]
theorem corners_area {ps : List Z2} (h : Simple (poly ps)) : areaZ (cornersTo ps ps.length) = areaZ ps := by
  have h1 := Geo.keepF_ar h
  rw [← corners_keep h, ar_poly, ar_poly, Rat.intCast_inj] at h1
  exact h1
theorem corners_mem {ps : List Z2} (k : Nat) (hk : k ≤ ps.length) : ∀ p ∈ cornersTo ps k, p ∈ ps := by
  induction k with
  | zero => intro p hp; simp [cornersTo] at hp
  | succ k ih =>
    intro p hp
    simp only [cornersTo] at hp
    split at hp
    · exact ih (by omega) p hp
    · rcases List.mem_append.1 hp with hp | hp
      · exact ih (by omega) p hp
      · simp at hp; subst hp; exact pt_mem (by omega)
end Go.Proofs.Ytfgeengdmbabhaa

namespace Go.Proofs.Ytfgeengdmbabhaa
open Go.RowKit
attribute [local go_sem ↓] Go.wp_at_zero Go.wp_at_succ

theorem firstTo_one (l : List Z2) : firstTo l 1 = 0 := by
  show (if lessZ (pt l 0) (pt l (firstTo l 0)) then 0 else firstTo l 0) = 0
  cases lessZ (pt l 0) (pt l (firstTo l 0)) <;> rfl
theorem firstTo_le (l : List Z2) (k : Nat) : firstTo l k ≤ k := by
  induction k with
  | zero => simp [firstTo]
  | succ k ih => simp only [firstTo]; split <;> omega

theorem append_sp_nil (w : World) (base : Nat) (A : Option Addr) (n c : Nat) (l : List Z2) (hsp : Sp w A l) (hl : l.length = n) (hn : n ≤ 1000000) (hbase : base ≤ w.heap.size) :
    ∃ v' w', (Builtin.append_ #[22, 22] 22 #[.slice none 0 0, .slice A n c]).run Try.prog w = .ok v' w' ∧ Own w' base v' l ∧ Below w.heap.size w w' := by
  obtain ⟨v', w', h1, h2, h3, _⟩ := run_append_sp w base (.slice none 0 0) [] A n c l (Own.nil _ _) hsp hl (by simp; omega) hbase
  exact ⟨v', w', h1, by simpa using h2, below_grown (Below.refl _ _) h3 (fun k hk => by simp [Value.ownBlock] at hk)⟩

set_option maxHeartbeats 1000000 in
/-- garmentref11.Least -/
theorem least78 (A : Option Addr) (n c : Nat) (ps : List Z2) (w : World) (hl : ps.length = n) (hsp : Sp w A ps) (hn : n ≤ 100000) (hcap : n ≤ c) (hne : ps ≠ []) :
    Calls Try.prog 78 #[.slice A n c] w (RetOwn w.heap.size (rotZ ps) w) := by
  subst hl
  have HS := Lib.hid hsp; clear hsp
  go_enter Try.func78, Try.ntmps78
  go_wp2
  go_loopw [3, 4] (fun u i wr => ∃ k : Nat, k ≤ ps.length + 1 ∧ 1 ≤ k ∧ i = .int .i64 k ∧ u = iv (firstTo ps k) ∧ (k ≤ ps.length ∨ ps.length = 0) ∧ Below w.heap.size w wr) (fun _ i _ => ps.length - (intOf i).toNat)
  case atStart => exact ⟨1, by omega, by omega, rfl, by rw [firstTo_one]; rfl, by omega, Below.refl _ _⟩
  case round =>
    obtain ⟨k, hk, hk1, rfl, rfl, hkn, hB⟩ := hrel
    by_cases hlt : k < ps.length
    · obtain ⟨b, off, rfl, hc⟩ := HS.out.later hB hne
      have hf : firstTo ps k < ps.length := by have := firstTo_lt ps k (by omega); omega
      obtain ⟨g1, g2⟩ := hc k hlt
      obtain ⟨g3, g4⟩ := hc _ hf
      have HF := Lib.hid (show firstTo ps (k + 1) = if lessZ (pt ps k) (pt ps (firstTo ps k)) then k else firstTo ps k from rfl)
      generalize firstTo ps k = f at *
      have HC := Lib.hid hc
      clear hc
      have q1 : (0 : Int) ≤ (f : Int) := by omega
      have q2 : (f : Int) < (ps.length : Int) := by omega
      go_wp2_with fail
      go_region_held3 (fun w' => Below w.heap.size w w' ∧ w'.cell? ⟨b, off + k * 2, none⟩ = some (iv (pt ps k).x) ∧ w'.cell? ⟨b, off + k * 2 + 1, none⟩ = some (iv (pt ps k).y) ∧ w'.cell? ⟨b, off + f * 2, none⟩ = some (iv (pt ps f).x) ∧ w'.cell? ⟨b, off + f * 2 + 1, none⟩ = some (iv (pt ps f).y))
        (first | exact ⟨hB.drew, g1, g2, g3, g4⟩ | assumption | (go_split_ands; refine ⟨below_trans (by assumption) hbq, ?_, ?_, ?_, ?_⟩ <;> exact cell_later hbq (by assumption)))
        (first | (go_at_call 40; refine (less40 (pt ps k) (pt ps f) _).mono ?_; rintro e w' ⟨rfl, hbq⟩))
      go_split_ands
      cases hz : lessZ (pt ps k) (pt ps f)
      all_goals
        have HZ := Lib.hid hz
        clear hz
        go_wp2
        go_roundw
        case rel =>
          refine ⟨k + 1, by omega, by omega, by go_num, ?_, by omega, by assumption⟩
          rw [HF.out, HZ.out]; rfl
        case measure => simp [intOf]; omega
    · have hp : 0 < ps.length := by cases ps with | nil => exact absurd rfl hne | cons => simp
      have hf : k = ps.length := by omega
      subst hf
      have hfl := firstTo_lt ps ps.length hp
      have HR := Lib.hid (show rotZ ps = ps.drop (firstTo ps ps.length) ++ ps.take (firstTo ps ps.length) from rfl)
      generalize firstTo ps ps.length = f at *
      obtain ⟨b, off, rfl, hc⟩ := HS.out.later hB hne
      clear hc
      have i1 : (0 : Int) ≤ (f : Int) := by omega
      have i2 : (f : Int) ≤ (ps.length : Int) := by omega
      have i3 : (f : Int) ≤ (c : Int) := by omega
      have i4 : f ≠ c := by omega
      have q1 : (ps.take f).length = f := by simp; omega
      have q2 : (ps.drop f).length = ps.length - f := by simp
      have Q1 := Lib.hid q1; have Q2 := Lib.hid q2
      clear q1 q2
      obtain ⟨v', w1, hr, o', hb1⟩ := append_sp_nil wr w.heap.size (some ⟨b, off + f * 2, none⟩) (ps.length - f) (c - f) (ps.drop f) ((HS.out.later hB).drop f) Q2.out (by omega) hB.size
      have hB1 := hB.trans (hb1.mono hB.size)
      obtain ⟨v2, w2, hr2, o2, hg2, _⟩ := run_append_sp w1 w.heap.size v' (ps.drop f) (some ⟨b, off, none⟩) f c (ps.take f) o' ((HS.out.later hB1).take f) Q1.out (by rw [Q2.out, Q1.out]; omega) hB1.size
      have hB2 := below_grown hB1 hg2 (fun k hk => (o'.lt k hk).1)
      have HH1 := Lib.hid hr; have HH2 := Lib.hid hr2
      have HO := Lib.hid (And.intro o2 hB2)
      clear hr hr2 o' o2 hg2 hb1 hB1 hB2
      go_wp2_with (at_builtin; first | refine Lib.wpList_append_run _ (by rfl) _ _ _ _ (by rfl) _ _ (by rfl) (by rfl) _ _ HH1.out ?_ | refine Lib.wpList_append_run _ (by rfl) _ _ _ _ (by rfl) _ _ (by rfl) (by rfl) _ _ HH2.out ?_)
      go_ret
      exact ⟨_, rfl, by rw [HR.out]; exact HO.out.1, HO.out.2⟩

theorem corn_length (ps : List Z2) : (corn ps).length ≤ ps.length := by
  have h1 := cornersTo_length ps ps.length
  unfold corn
  split
  · rw [List.length_reverse]; exact h1
  · exact h1
theorem corners_three {ps : List Z2} (h : chkZ ps = 0) : 3 ≤ (cornersTo ps ps.length).length := by
  have h1 := (Geo.keepF_simple (chk_simple h)).three
  rw [← corners_keep (chk_simple h)] at h1
  simpa using h1

set_option maxRecDepth 100000 in
set_option maxHeartbeats 4000000 in
/-- garmentref11.Normal -/
theorem normal33 (A : Option Addr) (n c : Nat) (ps : List Z2) (w : World) (hl : ps.length = n) (hsp : Sp w A ps) :
    Calls Try.prog 33 #[.slice A n c] w (RetSl2 (normZ ps) (chkZ ps) w) := by
  subst hl
  have HS := Lib.hid hsp; clear hsp
  by_cases h0 : chkZ ps = 0
  case neg =>
    have H0 := Lib.hid h0
    have hd : (chkZ ps != 0) = true := by simpa using h0
    clear h0
    go_enter Try.func33, Try.ntmps33
    go_wp2_with fail
    refine (check46 A _ c ps _ rfl HS.out).mono ?_
    rintro e w1 ⟨rfl, hb1⟩
    go_wp2
    go_ret2
    refine ⟨none, 0, ?_, ?_, ?_, hb1⟩
    · rw [normZ_neg H0.out]; rfl
    · rw [normZ_neg H0.out]; simp
    · rw [normZ_neg H0.out]; intro h; exact absurd rfl h
  case pos =>
    have H0 := Lib.hid h0
    have H3 := Lib.hid (corners_three h0)
    have HAR := Lib.hid (corners_area (chk_simple h0))
    obtain ⟨hl40, hl3, hD, _, _⟩ := chkZ_zero h0
    have HD := Lib.hid hD
    clear h0 hD
    go_enter Try.func33, Try.ntmps33
    go_wp2_with fail
    refine (check46 A _ c ps _ rfl HS.out).mono ?_
    rintro e w1 ⟨rfl, hb1⟩
    rw [H0.out]
    go_wp2
    go_loopw [5, 7] (fun v i wr => ∃ k : Nat, k ≤ ps.length ∧ i = .int .i64 k ∧ Own wr w.heap.size v (cornersTo ps k) ∧ Below w.heap.size w wr) (fun _ i _ => ps.length - (intOf i).toNat)
    case atStart => exact ⟨0, Nat.zero_le _, rfl, Own.nil _ _, hb1⟩
    case round =>
      clear hb1
      obtain ⟨k, hk, rfl, ho, hB⟩ := hrel
      have HO := Lib.hid ho
      clear ho
      by_cases hlt : k < ps.length
      · have hne : ps ≠ [] := by intro h; simp [h] at hlt
        have hp : 0 < ps.length := by omega
        obtain ⟨b, off, rfl, hc⟩ := HS.out.later hB hne
        have l1 : (k + 1) % ps.length < ps.length := Nat.mod_lt _ hp
        have l2 : (k + ps.length - 1) % ps.length < ps.length := Nat.mod_lt _ hp
        obtain ⟨g1, g2⟩ := hc k hlt
        obtain ⟨g3, g4⟩ := hc _ l1
        obtain ⟨g5, g6⟩ := hc _ l2
        have m1 := mod_one k ps.length
        have m2 := modN (k := k) (n := ps.length) hp
        have HE := Lib.hid (show bendZ ps k = crZ (pt ps ((k + ps.length - 1) % ps.length)) (pt ps k) (pt ps ((k + 1) % ps.length)) from rfl)
        generalize e1 : (k + 1) % ps.length = k1 at *
        generalize e2 : (k + ps.length - 1) % ps.length = k2 at *
        clear e1 e2 hc
        have q1 : (0 : Int) ≤ (k2 : Int) := by omega
        have q2 : (k2 : Int) < (ps.length : Int) := by omega
        have q5 : (0 : Int) ≤ (k1 : Int) := by omega
        have q6 : (k1 : Int) < (ps.length : Int) := by omega
        have q7 : (0 : Int) ≤ (k : Int) := by omega
        have q8 : (k : Int) < (ps.length : Int) := by omega
        have q3 : ((ps.length : Int) == 0) = false := beq_eq_false_iff_ne.2 (by omega)
        have q4 : ¬ ((ps.length : Int) = 0) := by omega
        have t1 : ((k : Int) + 1).tmod (ps.length : Int) = (k1 : Int) := by rw [Int.tmod_eq_emod_of_nonneg (by omega)]; exact m1
        have t2 : ((k : Int) + (ps.length : Int) - 1).tmod (ps.length : Int) = (k2 : Int) := by rw [Int.tmod_eq_emod_of_nonneg (by omega)]; exact m2
        clear m1 m2
        have s1 : IntKind.i64.wrap ((k : Int) + 1) = (k : Int) + 1 := IntWalk.i64_in _ (by omega)
        have s2 : IntKind.i64.wrap ((k : Int) + (ps.length : Int)) = (k : Int) + (ps.length : Int) := IntWalk.i64_in _ (by omega)
        have s3 : IntKind.i64.wrap ((k : Int) + (ps.length : Int) - 1) = (k : Int) + (ps.length : Int) - 1 := IntWalk.i64_in _ (by omega)
        go_wp2_with fail
        go_region_held3 (fun w' => Below wr.heap.size wr w' ∧ w'.cell? ⟨b, off + k * 2, none⟩ = some (iv (pt ps k).x) ∧ w'.cell? ⟨b, off + k * 2 + 1, none⟩ = some (iv (pt ps k).y) ∧ w'.cell? ⟨b, off + k1 * 2, none⟩ = some (iv (pt ps k1).x) ∧ w'.cell? ⟨b, off + k1 * 2 + 1, none⟩ = some (iv (pt ps k1).y)
            ∧ w'.cell? ⟨b, off + k2 * 2, none⟩ = some (iv (pt ps k2).x) ∧ w'.cell? ⟨b, off + k2 * 2 + 1, none⟩ = some (iv (pt ps k2).y))
          (first | exact ⟨below_drew wr, g1, g2, g3, g4, g5, g6⟩ | assumption | (go_split_ands; refine ⟨below_trans (by assumption) hbq, ?_, ?_, ?_, ?_, ?_, ?_⟩ <;> exact cell_later hbq (by assumption)))
          (first | (go_at_call 41; refine (cross41 (pt ps k2) (pt ps k) (pt ps k1) _ (bd_pt HD.out _) (bd_pt HD.out _) (bd_pt HD.out _)).mono ?_; rintro e w' ⟨rfl, hbq⟩))
        go_split_ands
        rename_i hbr _ _ _ _ _ _
        have hB3 := hB.trans (hbr.mono hB.size)
        have HO3 := Lib.hid (HO.out.later hbr)
        have f1 := cell_later hbr g1
        have f2 := cell_later hbr g2
        rw [← HE.out]
        clear t1 t2 s1 s2 s3 g1 g2 g3 g4 g5 g6 q1 q2 q5 q6
        by_cases hz : bendZ ps k = 0
        · have hd : (bendZ ps k != 0) = false := by simpa using hz
          have HZ := Lib.hid hz
          clear hz
          go_wp2
          go_roundw
          case rel => exact ⟨k + 1, by omega, by go_num, by simp only [cornersTo]; rw [if_pos HZ.out]; exact HO3.out, hB3⟩
          case measure => simp [intOf]; omega
        · have hd : (bendZ ps k != 0) = true := by simpa using hz
          have HZ := Lib.hid hz
          clear hz
          have hsq : Sp (w'.alloc (.cells #[iv (pt ps k).x, iv (pt ps k).y] 30)) (some ⟨w'.heap.size, 0, none⟩) [pt ps k] := Blk.sp (Blk.new w' 30 #[iv (pt ps k).x, iv (pt ps k).y])
          have hcl := cornersTo_length ps k
          obtain ⟨v', w4, hr, o', hg, hat⟩ := run_append_sp (w'.alloc (.cells #[iv (pt ps k).x, iv (pt ps k).y] 30)) w.heap.size _ (cornersTo ps k) _ 1 1 [pt ps k] (HO3.out.later (below_alloc _ _)) hsq rfl (by simp; omega) (Nat.le_trans hB3.size (by simp))
          have HH := Lib.hid hr
          have hB4 := hB3.trans ((below_alloc w' (.cells #[iv (pt ps k).x, iv (pt ps k).y] 30)).mono hB3.size)
          have HO4 := Lib.hid (And.intro o' (below_grown hB4 hg (fun k hk => (HO3.out.lt k hk).1)))
          clear hr o' hg hat hsq
          go_wp2_with (at_builtin; refine Lib.wpList_append_run _ (by rfl) _ _ _ _ (by rfl) _ _ (by rfl) (by rfl) _ _ HH.out ?_)
          go_roundw
          case rel => exact ⟨k + 1, by omega, by go_num, by simp only [cornersTo]; rw [if_neg HZ.out]; exact HO4.out.1, HO4.out.2⟩
          case measure => simp [intOf]; omega
      · obtain rfl : k = ps.length := by omega
        have hcl := cornersTo_length ps ps.length
        have HDC := Lib.hid (fun p hp => HD.out p (corners_mem (ps := ps) ps.length (Nat.le_refl _) p hp))
        obtain ⟨A', c', rfl, hc', hs'⟩ := HO.out.sp
        have HS' := Lib.hid (And.intro hs' hc')
        clear hs' hc'
        by_cases ha : areaZ ps < 0
        · have dA := decide_eq_true ha
          have HA := Lib.hid ha
          clear ha
          go_wp2_with fail
          refine (twice77 A' _ c' (cornersTo ps ps.length) _ rfl HS'.out.1 (by omega) HDC.out).mono ?_
          rintro e w2 ⟨rfl, hb2⟩
          rw [HAR.out]
          have hB2 := hB.trans (hb2.mono hB.size)
          go_wp2_with fail
          refine (reversed37 A' c' (cornersTo ps ps.length) _ (HS'.out.1.later hb2) (by omega)).mono ?_
          rintro e w3 ⟨v3, rfl, ho3, hb3⟩
          have hB3 := hB2.trans (hb3.mono hB2.size)
          obtain ⟨A3, c3, rfl, hc3, hs3⟩ := ho3.sp
          have hcn : corn ps = (cornersTo ps ps.length).reverse := by unfold corn; rw [if_pos HA.out]
          have hne3 : corn ps ≠ [] := by
            intro h; rw [hcn] at h
            have := H3.out
            have := congrArg List.length h
            rw [List.length_reverse, List.length_nil] at this; omega
          rw [← hcn] at hs3 hc3
          have hlc : (corn ps).length ≤ 40 := by rw [hcn, List.length_reverse]; omega
          have e3 : (cornersTo ps ps.length).reverse.length = (corn ps).length := by rw [hcn]
          rw [e3]
          clear hcn e3
          go_wp2_with fail
          refine (least78 A3 _ c3 (corn ps) _ rfl hs3 (by omega) hc3 hne3).mono ?_
          rintro e w5 ⟨v5, rfl, ho5, hb5⟩
          have hB5 := hB3.trans (hb5.mono hB3.size)
          obtain ⟨A5, c5, rfl, h51, h52⟩ := ho5.sp
          go_wp2
          go_ret2
          refine ⟨A5, c5, ?_, ?_, ?_, hB5⟩
          · rw [normZ_pos H0.out, H0.out]; rfl
          · rw [normZ_pos H0.out]; exact h51
          · rw [normZ_pos H0.out]; exact h52
        · have dA := decide_eq_false ha
          have HA := Lib.hid ha
          clear ha
          go_wp2_with fail
          refine (twice77 A' _ c' (cornersTo ps ps.length) _ rfl HS'.out.1 (by omega) HDC.out).mono ?_
          rintro e w3 ⟨rfl, hb2⟩
          rw [HAR.out]
          have hB3 := hB.trans (hb2.mono hB.size)
          have hcn : corn ps = cornersTo ps ps.length := by unfold corn; rw [if_neg (by have := HA.out; omega)]
          have hne3 : cornersTo ps ps.length ≠ [] := by
            intro h
            have := H3.out
            rw [h] at this; simp at this
          have HCN := Lib.hid hcn
          clear hcn
          go_wp2_with fail
          refine (least78 A' _ c' (cornersTo ps ps.length) _ rfl (HS'.out.1.later hb2) (by omega) HS'.out.2 hne3).mono ?_
          rintro e w5 ⟨v5, rfl, ho5, hb5⟩
          have hB5 := hB3.trans (hb5.mono hB3.size)
          obtain ⟨A5, c5, rfl, h51, h52⟩ := ho5.sp
          go_wp2
          go_ret2
          refine ⟨A5, c5, ?_, ?_, ?_, hB5⟩
          · rw [normZ_pos H0.out, H0.out]; unfold normR; rw [HCN.out]; rfl
          · rw [normZ_pos H0.out]; unfold normR; rw [HCN.out]; exact h51
          · rw [normZ_pos H0.out]; unfold normR; rw [HCN.out]; exact h52

set_option maxRecDepth 100000 in
set_option maxHeartbeats 1000000 in
/-- garmentlaw11.PolygonNormals -/
theorem lawNormals (A : Option Addr) (c : Nat) (ps : List Z2) (w : World) (hsp : Sp w A ps) (hcap : ps.length ≤ c) :
    Calls Try.prog 3 #[.slice A ps.length c] w fun e w' => e = .returned (.bool true) ∧ Below w.heap.size w w' := by
  have HS := Lib.hid hsp; clear hsp
  by_cases hf : ps.length ≤ 50
  · have dF := decide_eq_true hf
    go_enter Try.func3, Try.ntmps3
    go_wp2_with fail
    refine (few30 _ _ _ _).mono ?_
    rintro e w1 ⟨rfl, rfl⟩
    rw [dF]
    clear dF
    go_wp2_with fail
    refine (normal32 A c ps _ HS.out hcap).mono ?_
    rintro e w2 ⟨A1, c1, rfl, hc1, hs1, hb⟩
    have H2 := Lib.hid (And.intro hb hs1)
    clear hb hs1
    go_wp2_with fail
    refine (normal33 A _ c ps _ rfl (HS.out.later H2.out.1)).mono ?_
    rintro e w3 ⟨A2, c2, rfl, hc2, hs2, hb⟩
    have H3 := Lib.hid (And.intro (below_trans H2.out.1 hb) (And.intro (H2.out.2.later hb) hs2))
    clear hb hs2 H2
    have hln : (normZ ps).length ≤ 1000000000 := by
      have h1 : (cornersTo ps ps.length).length ≤ ps.length := cornersTo_length _ _
      unfold normZ
      split
      · unfold normR rotZ
        rw [List.length_append, List.length_drop, List.length_take]
        have : (corn ps).length ≤ ps.length := corn_length ps
        omega
      · simp
    go_wp2_with fail
    refine (same34 A1 A2 _ _ c1 c2 (normZ ps) (normZ ps) _ rfl rfl H3.out.2.1 H3.out.2.2 hln).mono ?_
    rintro e w4 ⟨rfl, hb⟩
    rw [decide_eq_true (show normZ ps = normZ ps from rfl)]
    have H4 := Lib.hid (below_trans H3.out.1 hb)
    clear hb H3
    go_wp2_with fail
    refine (awake31 _).mono ?_
    rintro e w8 ⟨rfl, hb⟩
    have H8 := Lib.hid (below_trans H4.out hb)
    clear hb H4
    go_wp2
    go_ret
    exact ⟨rfl, H8.out⟩
  · have dF := decide_eq_false hf
    go_enter Try.func3, Try.ntmps3
    go_wp2_with fail
    refine (few30 _ _ _ _).mono ?_
    rintro e w1 ⟨rfl, rfl⟩
    rw [dF]
    go_wp2_with fail
    refine (awake31 _).mono ?_
    rintro e w8 ⟨rfl, hb⟩
    go_wp2
    go_ret
    exact ⟨rfl, hb⟩
end Go.Proofs.Ytfgeengdmbabhaa

/- Plain laws of triangles: three spots that are not on a line are a polygon, and positions in it. -/
namespace Go.Proofs.Ytfgeengdmbabhaa
open Geo (Pt cr On Simple edges mem_edges esum)

theorem tri_simple {a b c : Pt} (h : cr a b c ≠ 0) : Simple [a, b, c] := by
  have h1 : cr b c a ≠ 0 := by rw [Geo.cr_rot]; exact h
  have h2 : cr c a b ≠ 0 := by rw [Geo.cr_rot2]; exact h
  have ab : a ≠ b := fun e => h (by rw [e]; exact Geo.cr_self'' _ _)
  have bc : b ≠ c := fun e => h (by rw [e]; exact Geo.cr_self' _ _)
  have ca : c ≠ a := fun e => h (by rw [e]; exact Geo.cr_self _ _)
  have he : edges [a, b, c] = [(a, b), (b, c), (c, a)] := rfl
  have adj : ∀ x y z : Pt, cr x y z ≠ 0 → ∀ p, On x y p → On y z p → p = y := fun x y z hh p h1 h2 =>
    Geo.adj_only (fun o => hh (Geo.cr_on o)) (fun o => hh (by rw [← Geo.cr_rot]; exact Geo.cr_on o)) h1 h2
  refine ⟨by simp, by simp [ab, bc, ca.symm], fun e hE f hF hne p h3 h4 => ?_⟩
  rw [he] at hE hF
  simp only [List.mem_cons, List.not_mem_nil, or_false] at hE hF
  rcases hE with rfl | rfl | rfl <;> rcases hF with rfl | rfl | rfl
  · exact absurd rfl hne
  · have := adj a b c h p h3 h4; exact .inr ⟨this, this⟩
  · have := adj c a b h2 p h4 h3; exact .inl ⟨this, this⟩
  · have := adj a b c h p h4 h3; exact .inl ⟨this, this⟩
  · exact absurd rfl hne
  · have := adj b c a h1 p h3 h4; exact .inr ⟨this, this⟩
  · have := adj c a b h2 p h3 h4; exact .inr ⟨this, this⟩
  · have := adj b c a h1 p h4 h3; exact .inl ⟨this, this⟩
  · exact absurd rfl hne
theorem simple_tri {a b c : Pt} (h : Simple [a, b, c]) : cr a b c ≠ 0 := fun h0 => by
  have := Geo.no_flat3 h rfl (v := b)
  exact this ⟨a, c, by simp [edges, Geo.chain], by simp [edges, Geo.chain], h0⟩

theorem crZ_rot (a b c : Z2) : crZ b c a = crZ a b c := by unfold crZ; grind
theorem crZ_rot2 (a b c : Z2) : crZ c a b = crZ a b c := by unfold crZ; grind
theorem crZ_flip (a b c : Z2) : crZ a c b = - crZ a b c := by unfold crZ; grind

theorem poly3 (a b c : Z2) : poly [a, b, c] = [toPt a, toPt b, toPt c] := rfl
theorem simple3 (a b c : Z2) : Simple (poly [a, b, c]) ↔ crZ a b c ≠ 0 := by
  rw [poly3]
  constructor
  · intro h e; exact simple_tri h (by rw [cr_toPt, e]; rfl)
  · intro h; exact tri_simple (by rw [cr_toPt]; simpa using h)
theorem area3 (a b c : Z2) : areaZ [a, b, c] = crZ a b c := by
  have := ar_poly [a, b, c]
  rw [poly3, Geo.ar_tri, cr_toPt, Rat.intCast_inj] at this
  exact this.symm
/-- when three spots are a polygon -/
theorem chk3 (a b c : Z2) : chkZ [a, b, c] = if outZ a || outZ b || outZ c then 3 else if crZ a b c = 0 then 11 else 0 := by
  unfold chkZ
  have e1 : [a, b, c].any outZ = (outZ a || outZ b || outZ c) := by simp [Bool.or_assoc]
  rw [if_neg (by simp), if_neg (by simp), e1]
  cases outZ a || outZ b || outZ c with
  | true => rfl
  | false =>
    simp only [Bool.false_eq_true, if_false]
    by_cases hz : crZ a b c = 0
    · rw [if_pos hz]
      cases hs : simpleZ [a, b, c] with
      | false => rfl
      | true => exact absurd hz ((simple3 a b c).1 ((simpleZ_iff (by simp)).1 hs))
    · rw [if_neg hz, (simpleZ_iff (by simp)).2 ((simple3 a b c).2 hz)]
      rfl

theorem tri3Z_pos {a b c q : Z2} (h : 0 < crZ a b c) : tri3Z a b c q = sgn (min (crZ a b q) (min (crZ b c q) (crZ c a q))) := by
  unfold tri3Z; rw [if_neg (by omega), if_neg (by omega)]
theorem tri3Z_neg {a b c q : Z2} (h : crZ a b c < 0) : tri3Z a b c q = sgn (min (crZ a c q) (min (crZ c b q) (crZ b a q))) := by
  unfold tri3Z; rw [if_neg (by omega), if_pos (by omega)]
theorem tri3Z_rot (a b c q : Z2) : tri3Z b c a q = tri3Z a b c q := by
  have h1 := crZ_rot a b c
  by_cases hz : crZ a b c = 0
  · unfold tri3Z; rw [if_pos hz, if_pos (by omega)]
  by_cases hp : 0 < crZ a b c
  · rw [tri3Z_pos hp, tri3Z_pos (by omega)]; congr 1; omega
  · rw [tri3Z_neg (a := a) (by omega), tri3Z_neg (by omega)]; congr 1; omega
theorem tri3Z_swap (a b c q : Z2) : tri3Z b a c q = tri3Z a b c q := by
  have h1 : crZ b a c = - crZ a b c := crZ_swap a b c
  by_cases hz : crZ a b c = 0
  · unfold tri3Z; rw [if_pos hz, if_pos (by omega)]
  by_cases hp : 0 < crZ a b c
  · rw [tri3Z_pos hp, tri3Z_neg (by omega)]; congr 1; omega
  · rw [tri3Z_neg (a := a) (by omega), tri3Z_pos (by omega)]; congr 1; omega
theorem holds3 (a b c q : Z2) : holdsZ [a, b, c] q = if outZ q || outZ a || outZ b || outZ c then -1 else tri3Z a b c q := by
  unfold holdsZ; rw [if_neg (by simp)]; rfl
theorem holds_rot (a b c q : Z2) : holdsZ [b, c, a] q = holdsZ [a, b, c] q := by
  rw [holds3, holds3, tri3Z_rot]
  cases outZ q <;> cases outZ a <;> cases outZ b <;> cases outZ c <;> rfl
theorem holds_swap (a b c q : Z2) : holdsZ [b, a, c] q = holdsZ [a, b, c] q := by
  rw [holds3, holds3, tri3Z_swap]
  cases outZ q <;> cases outZ a <;> cases outZ b <;> cases outZ c <;> rfl

theorem sgn_cases (n : Int) : (0 < n ∧ sgn n = 1) ∨ (n = 0 ∧ sgn n = 0) ∨ (n < 0 ∧ sgn n = -1) := by
  rcases Int.lt_trichotomy n 0 with h | h | h
  · exact .inr (.inr ⟨h, sgn_neg h⟩)
  · exact .inr (.inl ⟨h, sgn_zero h⟩)
  · exact .inl ⟨h, sgn_pos h⟩

/-- in a triangle that turns to the left -/
theorem place_tri {a b c q : Z2} (h : 0 < crZ a b c) (hq : outZ q = false) : placeZ [a, b, c] q = tri3Z a b c q := by
  have hs : Simple (poly [a, b, c]) := (simple3 a b c).2 (by omega)
  have ha : 0 < areaZ [a, b, c] := by rw [area3]; exact h
  have hcr : 0 < cr (toPt a) (toPt b) (toPt c) := by rw [cr_toPt]; exact Rat.intCast_pos.2 h
  have hcr1 : 0 < cr (toPt b) (toPt c) (toPt a) := by rw [Geo.cr_rot]; exact hcr
  have hcr2 : 0 < cr (toPt c) (toPt a) (toPt b) := by rw [Geo.cr_rot2]; exact hcr
  have he : edges (poly [a, b, c]) = [(toPt a, toPt b), (toPt b, toPt c), (toPt c, toPt a)] := rfl
  have c1 := cr_toPt a b q; have c2 := cr_toPt b c q; have c3 := cr_toPt c a q
  have hon : onAny [a, b, c] q = true ↔ On (toPt a) (toPt b) (toPt q) ∨ On (toPt b) (toPt c) (toPt q) ∨ On (toPt c) (toPt a) (toPt q) := by
    rw [on_poly, he]; simp
  have hInT : Geo.InT (toPt a) (toPt b) (toPt c) (toPt q) ↔ (0 ≤ crZ a b q ∧ 0 ≤ crZ b c q ∧ 0 ≤ crZ c a q) := by
    unfold Geo.InT; rw [c1, c2, c3]
    simp only [Rat.intCast_nonneg]
  rw [tri3Z_pos h]
  rcases sgn_cases (min (crZ a b q) (min (crZ b c q) (crZ c a q))) with ⟨hm, e⟩ | ⟨hm, e⟩ | ⟨hm, e⟩
  · rw [e]
    have hw : Geo.w (poly [a, b, c]) (toPt q) = 1 := Geo.tri_in (by rw [c1]; exact Rat.intCast_pos.2 (by omega)) (by rw [c2]; exact Rat.intCast_pos.2 (by omega)) (by rw [c3]; exact Rat.intCast_pos.2 (by omega))
    rcases place_good hs ha hq with ⟨p1, p2⟩ | ⟨p1, _⟩ | ⟨_, _, p3⟩
    · exfalso
      rcases hon.1 p2 with o | o | o
      · have := Geo.cr_on o; rw [c1] at this; have : crZ a b q = 0 := by simpa using this
        omega
      · have := Geo.cr_on o; rw [c2] at this; have : crZ b c q = 0 := by simpa using this
        omega
      · have := Geo.cr_on o; rw [c3] at this; have : crZ c a q = 0 := by simpa using this
        omega
    · exact p1
    · omega
  · rw [e]
    have hT : Geo.InT (toPt a) (toPt b) (toPt c) (toPt q) := hInT.2 (by omega)
    have ho : onAny [a, b, c] q = true := hon.2 (by
      have : crZ a b q = 0 ∨ crZ b c q = 0 ∨ crZ c a q = 0 := by omega
      rcases this with z | z | z
      · exact .inl (Geo.tri_side hcr (by rw [c1, z]; rfl) hT.2.1 hT.2.2)
      · exact .inr (.inl (Geo.tri_side hcr1 (by rw [c2, z]; rfl) hT.2.2 hT.1))
      · exact .inr (.inr (Geo.tri_side hcr2 (by rw [c3, z]; rfl) hT.1 hT.2.1)))
    rcases place_good hs ha hq with ⟨p1, p2⟩ | ⟨_, p2, _⟩ | ⟨_, p2, _⟩
    · exact p1
    · rw [ho] at p2; cases p2
    · rw [ho] at p2; cases p2
  · rw [e]
    have hT : ¬ Geo.InT (toPt a) (toPt b) (toPt c) (toPt q) := fun h => by have := hInT.1 h; omega
    have hw : Geo.w (poly [a, b, c]) (toPt q) = 0 := Geo.tri_out hcr hT
    rcases place_good hs ha hq with ⟨p1, p2⟩ | ⟨_, _, p3⟩ | ⟨p1, _⟩
    · exfalso
      rcases hon.1 p2 with o | o | o
      · exact hT (Geo.inT_conv (x := toPt a) (y := toPt b) ⟨by rw [Geo.cr_self]; grind, by grind, by rw [Geo.cr_self']; grind⟩ ⟨by rw [Geo.cr_self']; grind, by rw [Geo.cr_self]; grind, by grind⟩ o)
      · exact hT (Geo.inT_conv (x := toPt b) (y := toPt c) ⟨by rw [Geo.cr_self']; grind, by rw [Geo.cr_self]; grind, by grind⟩ ⟨by grind, by rw [Geo.cr_self']; grind, by rw [Geo.cr_self]; grind⟩ o)
      · exact hT (Geo.inT_conv (x := toPt c) (y := toPt a) ⟨by grind, by rw [Geo.cr_self']; grind, by rw [Geo.cr_self]; grind⟩ ⟨by rw [Geo.cr_self]; grind, by grind, by rw [Geo.cr_self']; grind⟩ o)
    · omega
    · exact p1
theorem where_tri (a b c q : Z2) : (chkZ [a, b, c] = 0 → holdsZ [a, b, c] q = whereZ [a, b, c] q) ∧ (chkZ [a, b, c] ≠ 0 → holdsZ [a, b, c] q = -1) := by
  constructor
  · intro h0
    have hc := chk3 a b c
    rw [h0] at hc
    rw [whereZ_pos h0, holds3]
    cases ho : outZ a || outZ b || outZ c with
    | true => rw [ho] at hc; simp at hc
    | false =>
      rw [ho] at hc
      simp only [Bool.false_eq_true, if_false] at hc
      by_cases hz : crZ a b c = 0
      · rw [if_pos hz] at hc; omega
      simp only [Bool.or_eq_false_iff] at ho
      cases hq : outZ q with
      | true => unfold placeZ; rw [hq]; rfl
      | false =>
        rw [ho.1.1, ho.1.2, ho.2]
        simp only [Bool.or_false, Bool.false_eq_true, if_false]
        by_cases hp : 0 < crZ a b c
        · exact (place_tri hp hq).symm
        · have e1 := placeZ_reverse [a, b, c] q
          have e2 : [a, b, c].reverse = [c, b, a] := rfl
          rw [e2] at e1
          have e3 : crZ c b a = - crZ a b c := by unfold crZ; grind
          rw [← e1, place_tri (by omega) hq, tri3Z_swap b c a q]
          exact (tri3Z_rot a b c q).symm
  · intro h0
    have hc := chk3 a b c
    rw [holds3]
    cases ho : outZ a || outZ b || outZ c with
    | true =>
      have : (outZ q || outZ a || outZ b || outZ c) = true := by
        rw [Bool.or_assoc, Bool.or_assoc, ← Bool.or_assoc (outZ a), ho]; simp
      rw [this]; rfl
    | false =>
      rw [ho] at hc
      simp only [Bool.false_eq_true, if_false] at hc
      by_cases hz : crZ a b c = 0
      · unfold tri3Z; rw [if_pos hz]; split <;> rfl
      · rw [if_neg hz] at hc; exact absurd hc h0
/-- a vertex lies on the boundary -/
theorem holds_vertex {a b c : Z2} (h : chkZ [a, b, c] = 0) : holdsZ [a, b, c] a = 0 ∧ holdsZ [a, b, c] c = 0 := by
  have h1 := place_vertex h (k := 0) (by simp)
  have h2 := place_vertex h (k := 2) (by simp)
  rw [(where_tri a b c a).1 h, (where_tri a b c c).1 h]
  exact ⟨h1, h2⟩
end Go.Proofs.Ytfgeengdmbabhaa

/- Plain law of Split: it never fails on a valid polygon, and its triangles cover the polygon. -/
namespace Go.Proofs.Ytfgeengdmbabhaa
open Geo (Pt cr On Simple edges mem_edges esum)

theorem inT_Z (a b c q : Z2) : Geo.InT (toPt a) (toPt b) (toPt c) (toPt q) ↔ (0 ≤ crZ a b q ∧ 0 ≤ crZ b c q ∧ 0 ≤ crZ c a q) := by
  unfold Geo.InT; rw [cr_toPt, cr_toPt, cr_toPt]
  simp only [Rat.intCast_nonneg]
theorem intT_Z (a b c q : Z2) : Geo.IntT (toPt a) (toPt b) (toPt c) (toPt q) ↔ (0 < crZ a b q ∧ 0 < crZ b c q ∧ 0 < crZ c a q) := by
  unfold Geo.IntT; rw [cr_toPt, cr_toPt, cr_toPt]
  simp only [Rat.intCast_pos]
/-- Holds in the geometry's words -/
theorem holds_geo {a b c q : Z2} (h : 0 < crZ a b c) (ha : outZ a = false) (hb : outZ b = false) (hc : outZ c = false) (hq : outZ q = false) :
    (holdsZ [a, b, c] q = 1 ∧ Geo.IntT (toPt a) (toPt b) (toPt c) (toPt q)) ∨ (holdsZ [a, b, c] q = 0 ∧ Geo.InT (toPt a) (toPt b) (toPt c) (toPt q) ∧ ¬ Geo.IntT (toPt a) (toPt b) (toPt c) (toPt q)) ∨ (holdsZ [a, b, c] q = -1 ∧ ¬ Geo.InT (toPt a) (toPt b) (toPt c) (toPt q)) := by
  rw [holds3, ha, hb, hc, hq, inT_Z, intT_Z]
  simp only [Bool.or_false, Bool.false_eq_true, if_false]
  rw [tri3Z_pos h]
  rcases sgn_cases (min (crZ a b q) (min (crZ b c q) (crZ c a q))) with ⟨hm, e⟩ | ⟨hm, e⟩ | ⟨hm, e⟩ <;> rw [e]
  · left; refine ⟨rfl, ?_, ?_, ?_⟩ <;> omega
  · right; left; refine ⟨rfl, ⟨?_, ?_, ?_⟩, ?_⟩ <;> omega
  · right; right; refine ⟨rfl, ?_⟩; omega

abbrev TZ := Z2 × Z2 × Z2
def toT (t : TZ) : Geo.T3 := (toPt t.1, toPt t.2.1, toPt t.2.2)
def toL (t : TZ) : List Z2 := [t.1, t.2.1, t.2.2]

theorem poly_erase (l : List Z2) (i : Nat) : poly (l.eraseIdx i) = (poly l).take i ++ (poly l).drop (i + 1) := by
  rw [List.eraseIdx_eq_take_drop_succ, poly, List.map_append, List.map_take, List.map_drop]
theorem poly_at (l : List Z2) {i : Nat} (hi : i < l.length) : poly l = (poly l).take i ++ toPt (pt l i) :: (poly l).drop (i + 1) := by
  have hi' : i < (poly l).length := by simpa using hi
  have e : toPt (pt l i) = (poly l)[i] := by simp [pt_eq hi]
  rw [e, ← List.drop_eq_getElem_cons hi', List.take_append_drop]

theorem splitG_law (n : Nat) : ∀ (l : List Z2) (r : List (List Z2)), l.length = n → Simple (poly l) → Geo.LT (poly l) → (∀ p ∈ l, outZ p = false) →
    ∃ ts : List TZ, splitG n l r = some (r ++ ts.map toL) ∧ Geo.Cov (poly l) (ts.map toT) := by
  induction n with
  | zero => intro l r hl hs; have := hs.three; simp at this; omega
  | succ m ih =>
    intro l r hl hs hL ho
    by_cases h3 : l.length ≤ 3
    · have hs3 := hs.three
      simp only [List.length_map] at hs3
      match l, h3, hs3 with
      | [a, b, c], _, _ =>
        have hp := Geo.LT_tri hL
        refine ⟨[(a, b, c)], ?_, ?_⟩
        · simp only [splitG]; rw [if_pos (by simp)]; rfl
        · exact Geo.cov_tri hp
    · simp only [splitG]
      rw [if_neg h3]
      rcases firstZ_cases l.length (flatZ l) with ⟨i, hi, he, ht, hno⟩ | ⟨he, hno⟩
      · rw [he, if_pos (by omega)]
        simp only [Int.toNat_natCast]
        have hfl : Geo.Flat (poly l) (toPt (pt l i)) := (bend_flat hs hi).1 (by simpa [flatZ] using ht)
        have hpa := poly_at l hi
        rw [hpa] at hs hL hfl
        obtain ⟨s1, s2, s3⟩ := Geo.flat_at hs hL hfl
        rw [← poly_erase] at s1 s2 s3
        obtain ⟨ts, t1, t2⟩ := ih (l.eraseIdx i) r (by rw [List.length_eraseIdx_of_lt hi]; omega) s1 s2 (fun p hp => ho p (List.mem_of_mem_eraseIdx hp))
        exact ⟨ts, t1, by rw [hpa]; exact s3 _ t2⟩
      · rw [he, if_neg (by omega)]
        rcases firstZ_cases l.length (freeZ l) with ⟨i, hi, he2, ht, hno2⟩ | ⟨he2, hno2⟩
        · rw [he2, if_pos (by omega)]
          simp only [Int.toNat_natCast]
          unfold freeZ at ht
          rw [Bool.and_eq_true, decide_eq_true_eq, bendZ_corner] at ht
          obtain ⟨hb, hfree⟩ := ht
          have mA : cA l i ∈ l := pt_mem (Nat.mod_lt _ (by omega))
          have mC : cC l i ∈ l := pt_mem (Nat.mod_lt _ (by omega))
          have mB : pt l i ∈ l := pt_mem hi
          have hpa := poly_at l hi
          have e1 := edge_in hi
          have e2 := edge_out hi
          have hnoT : ∀ x ∈ poly l, x ≠ toPt (cA l i) → x ≠ toPt (pt l i) → x ≠ toPt (cC l i) → ¬ Geo.InT (toPt (cA l i)) (toPt (pt l i)) (toPt (cC l i)) x := by
            intro x hx xa xb xc hT
            obtain ⟨q, hq, rfl⟩ := List.mem_map.1 hx
            have hbl : blockZ l i q = false := by
              have := hfree
              simp only [Bool.not_eq_true'] at this
              have := List.any_eq_false.1 this q hq
              simpa using this
            have n1 : eqZ q (cA l i) = false := by unfold eqZ; rw [decide_eq_false_iff_not]; exact fun e => xa (by rw [e])
            have n2 : eqZ q (pt l i) = false := by unfold eqZ; rw [decide_eq_false_iff_not]; exact fun e => xb (by rw [e])
            have n3 : eqZ q (cC l i) = false := by unfold eqZ; rw [decide_eq_false_iff_not]; exact fun e => xc (by rw [e])
            unfold blockZ at hbl
            rw [n1, n2, n3] at hbl
            simp only [Bool.not_false, Bool.true_and, decide_eq_false_iff_not] at hbl
            rcases holds_geo hb (ho _ mA) (ho _ mB) (ho _ mC) (ho _ hq) with ⟨e, _⟩ | ⟨e, _⟩ | ⟨_, hn⟩
            · omega
            · omega
            · exact hn hT
          have hcr : 0 < cr (toPt (cA l i)) (toPt (pt l i)) (toPt (cC l i)) := by rw [cr_toPt]; exact Rat.intCast_pos.2 hb
          have h4 : 4 ≤ (poly l).length := by simp; omega
          have e1' : (toPt (cA l i), toPt (pt l i)) ∈ edges (poly l) := e1
          have e2' : (toPt (pt l i), toPt (cC l i)) ∈ edges (poly l) := e2
          rw [hpa] at hs hL hnoT h4 e1' e2'
          obtain ⟨s1, s2, s3⟩ := Geo.cut_at h4 hs hL e1' e2' hcr hnoT
          rw [← poly_erase] at s1 s2 s3
          obtain ⟨ts, t1, t2⟩ := ih (l.eraseIdx i) (r ++ [[cA l i, pt l i, cC l i]]) (by rw [List.length_eraseIdx_of_lt hi]; omega) s1 s2 (fun p hp => ho p (List.mem_of_mem_eraseIdx hp))
          refine ⟨(cA l i, pt l i, cC l i) :: ts, by rw [t1]; simp [toL], ?_⟩
          rw [hpa]
          exact s3 _ t2
        · exfalso
          have hne : poly l ≠ [] := by intro h; have := hs.three; rw [h] at this; simp at this
          obtain ⟨e0, he0⟩ : ∃ e, e ∈ edges (poly l) := by
            cases hpl : poly l with
            | nil => exact absurd hpl hne
            | cons x xs =>
              obtain ⟨y, hy⟩ := Geo.edge_from (l := x :: xs) (x := x) (by simp)
              exact ⟨_, hy⟩
          obtain ⟨u, _, _, p, s, h1, h2, h5⟩ := hL.ears hs e0 he0
          obtain ⟨i, hi, hui⟩ : ∃ i, i < l.length ∧ u = toPt (pt l i) := by
            obtain ⟨q, hq, rfl⟩ := List.mem_map.1 (Geo.edges_fst_mem h2)
            obtain ⟨i, hi, rfl⟩ := List.getElem_of_mem hq
            exact ⟨i, hi, by rw [pt_eq hi]⟩
          subst hui
          have ep := hs.to_eq h1 (edge_in hi)
          have es := hs.from_eq h2 (edge_out hi)
          subst ep es
          rw [cr_toPt] at h5
          have hcorner : crZ (pt l ((i + l.length - 1) % l.length)) (pt l i) (pt l ((i + 1) % l.length)) = bendZ l i := rfl
          rw [hcorner] at h5
          rcases h5 with h5 | ⟨h5, hn⟩
          · have hz : bendZ l i = 0 := by simpa using h5
            have := hno i hi
            simp [flatZ, hz] at this
          · have hb : 0 < bendZ l i := Rat.intCast_pos.1 h5
            have hfr := hno2 i hi
            have : freeZ l i = true := freeZ_yes hb fun j hj => by
              have mA : cA l i ∈ l := pt_mem (Nat.mod_lt _ (by omega))
              have mC : cC l i ∈ l := pt_mem (Nat.mod_lt _ (by omega))
              have mB : pt l i ∈ l := pt_mem hi
              have mJ : pt l j ∈ l := pt_mem hj
              have hb' : 0 < crZ (cA l i) (pt l i) (cC l i) := hb
              unfold blockZ
              cases n1 : eqZ (pt l j) (cA l i) with
              | true => rfl
              | false =>
                cases n2 : eqZ (pt l j) (pt l i) with
                | true => rfl
                | false =>
                  cases n3 : eqZ (pt l j) (cC l i) with
                  | true => rfl
                  | false =>
                    unfold eqZ at n1 n2 n3
                    rw [decide_eq_false_iff_not] at n1 n2 n3
                    have hT : ¬ Geo.InT (toPt (cA l i)) (toPt (pt l i)) (toPt (cC l i)) (toPt (pt l j)) := hn _ (List.mem_map_of_mem mJ) (fun e => n1 (toPt_inj e)) (fun e => n2 (toPt_inj e)) (fun e => n3 (toPt_inj e))
                    rcases holds_geo hb' (ho _ mA) (ho _ mB) (ho _ mC) (ho _ mJ) with ⟨_, hi'⟩ | ⟨_, hi', _⟩ | ⟨e, _⟩
                    · exact absurd hi'.inT hT
                    · exact absurd hi' hT
                    · rw [e]; rfl
            rw [this] at hfr; cases hfr
end Go.Proofs.Ytfgeengdmbabhaa

/- Plain laws of the normal form: simple, counterclockwise, without straight vertices, with the same positions. -/
namespace Go.Proofs.Ytfgeengdmbabhaa
open Geo (Pt cr On Simple edges mem_edges esum)

theorem poly_reverse (l : List Z2) : poly l.reverse = (poly l).reverse := by simp [poly]
theorem flat_reverse {l : List Pt} {v : Pt} : Geo.Flat l.reverse v ↔ Geo.Flat l v := by
  constructor
  · rintro ⟨p, s, h1, h2, h3⟩
    rw [Geo.mem_edges_rev] at h1 h2
    exact ⟨s, p, h2, h1, by unfold cr at *; grind⟩
  · rintro ⟨p, s, h1, h2, h3⟩
    exact ⟨s, p, Geo.mem_edges_rev.2 h2, Geo.mem_edges_rev.2 h1, by unfold cr at *; grind⟩
theorem rotZ_edges (l : List Z2) : (edges (rotZ l)).Perm (edges l) := by
  have := Geo.edges_rot (l.drop (firstTo l l.length)) (l.take (firstTo l l.length))
  rw [List.take_append_drop] at this
  exact this
theorem rotZ_perm (l : List Z2) : (rotZ l).Perm l := by
  have : (l.drop (firstTo l l.length) ++ l.take (firstTo l l.length)).Perm (l.take (firstTo l l.length) ++ l.drop (firstTo l l.length)) := List.perm_append_comm
  rw [List.take_append_drop] at this
  exact this
theorem rot_poly {l m : List Z2} (h1 : l.Perm m) (h2 : (edges l).Perm (edges m)) : Geo.Rot (poly l) (poly m) :=
  ⟨h1.map _, by rw [Geo.edges_map, Geo.edges_map]; exact h2.map _⟩
theorem rotZ_rot (l : List Z2) : Geo.Rot (poly (rotZ l)) (poly l) := rot_poly (rotZ_perm l) (rotZ_edges l)

theorem corners_place {ps : List Z2} (h : Simple (poly ps)) (q : Z2) : placeZ (cornersTo ps ps.length) q = placeZ ps q := by
  cases ho : outZ q with
  | true => unfold placeZ; rw [ho]; rfl
  | false =>
    have e1 : onAny (cornersTo ps ps.length) q = onAny ps q := by
      rw [Bool.eq_iff_iff, on_poly, on_poly, corners_keep h]
      exact Geo.keepF_on h _
    rw [place_w _ _ ho, place_w _ _ ho, e1, corners_keep h, Geo.keepF_w h]

structure Norm (ps l : List Z2) : Prop where
  simple : Simple (poly l)
  pos : 0 < areaZ l
  area : areaZ l = areaZ ps ∨ areaZ l = - areaZ ps
  place : ∀ q, placeZ l q = placeZ ps q
  strict : ∀ x ∈ poly l, ¬ Geo.Flat (poly l) x
  mem : ∀ p ∈ l, p ∈ ps
theorem corn_norm {ps : List Z2} (h : Simple (poly ps)) : Norm ps (corn ps) := by
  have hs : Simple (poly (cornersTo ps ps.length)) := by rw [corners_keep h]; exact Geo.keepF_simple h
  have hst : ∀ x ∈ poly (cornersTo ps ps.length), ¬ Geo.Flat (poly (cornersTo ps ps.length)) x := by rw [corners_keep h]; exact Geo.keepF_strict h
  have har := corners_area h
  have hne := area_ne h
  have hm := corners_mem (ps := ps) ps.length (Nat.le_refl _)
  unfold corn
  by_cases ha : areaZ ps < 0
  · rw [if_pos ha]
    refine ⟨by rw [poly_reverse]; exact hs.reverse, by rw [areaZ_reverse, har]; omega, .inr (by rw [areaZ_reverse, har]), fun q => by rw [placeZ_reverse]; exact corners_place h q, fun x hx => ?_, fun p hp => hm p (by simpa using hp)⟩
    rw [poly_reverse] at hx ⊢
    rw [flat_reverse]
    exact hst x (by simpa using hx)
  · rw [if_neg ha]
    exact ⟨hs, by rw [har]; omega, .inl har, fun q => corners_place h q, hst, hm⟩
theorem norm_norm {ps : List Z2} (h : chkZ ps = 0) : Norm ps (normZ ps) := by
  have n := corn_norm (chk_simple h)
  have r := rotZ_rot (corn ps)
  rw [normZ_pos h]
  unfold normR
  refine ⟨r.symm.simple n.simple, by rw [areaZ_same (rotZ_edges _)]; exact n.pos, by rw [areaZ_same (rotZ_edges _)]; exact n.area, fun q => by rw [placeZ_same q (rotZ_edges _)]; exact n.place q, fun x hx => ?_, fun p hp => n.mem p ((rotZ_perm _).mem_iff.1 hp)⟩
  rw [Geo.Flat.rot r]
  exact n.strict x (r.1.mem_iff.1 hx)
theorem Norm.in_range {ps l : List Z2} (n : Norm ps l) (h : chkZ ps = 0) : ∀ p ∈ l, outZ p = false := fun p hp => (out_iff p).2 (in_of_chk h p (n.mem p hp))
theorem Norm.LT {ps l : List Z2} (n : Norm ps l) : Geo.LT (poly l) := (LT_area n.simple).2 n.pos
end Go.Proofs.Ytfgeengdmbabhaa

/- What Split returns, and where spots lie in its triangles. -/
namespace Go.Proofs.Ytfgeengdmbabhaa
open Geo (Pt cr On Simple edges mem_edges esum)

theorem split_ok {ps : List Z2} (h : chkZ ps = 0) : ∃ ts : List TZ, splitZ ps = ts.map toL ∧ splitE ps = 0 ∧ Geo.Cov (poly (normZ ps)) (ts.map toT) := by
  have n := norm_norm h
  obtain ⟨ts, h1, h2⟩ := splitG_law _ (normZ ps) [] rfl n.simple n.LT (n.in_range h)
  refine ⟨ts, ?_, ?_, h2⟩
  · unfold splitZ; rw [if_pos h, h1]; simp
  · unfold splitE; rw [if_pos h, h1]; rfl
theorem split_no {ps : List Z2} (h : ¬ chkZ ps = 0) : splitZ ps = [] ∧ splitE ps = chkZ ps := by
  unfold splitZ splitE; rw [if_neg h, if_neg h]; exact ⟨rfl, rfl⟩
theorem splitE_eq (ps : List Z2) : splitE ps = chkZ ps := by
  by_cases h : chkZ ps = 0
  · obtain ⟨ts, _, h2, _⟩ := split_ok h; rw [h2, h]
  · exact (split_no h).2

/-- the triangles' spots -/
theorem tri_facts {ps : List Z2} (h : chkZ ps = 0) {ts : List TZ} (hc : Geo.Cov (poly (normZ ps)) (ts.map toT)) {t : TZ} (ht : t ∈ ts) :
    0 < crZ t.1 t.2.1 t.2.2 ∧ t.1 ∈ normZ ps ∧ t.2.1 ∈ normZ ps ∧ t.2.2 ∈ normZ ps ∧ outZ t.1 = false ∧ outZ t.2.1 = false ∧ outZ t.2.2 = false := by
  have n := norm_norm h
  have hp := hc.pos _ (List.mem_map_of_mem ht)
  obtain ⟨m1, m2, m3⟩ := hc.mem _ (List.mem_map_of_mem ht)
  have un : ∀ x : Z2, toPt x ∈ poly (normZ ps) → x ∈ normZ ps := fun x hx => by
    obtain ⟨y, hy, e⟩ := List.mem_map.1 hx
    rw [← toPt_inj e]; exact hy
  simp only [toT] at hp m1 m2 m3
  rw [cr_toPt] at hp
  have a := un _ m1; have b := un _ m2; have c := un _ m3
  exact ⟨Rat.intCast_pos.1 hp, a, b, c, n.in_range h _ a, n.in_range h _ b, n.in_range h _ c⟩

/-- no vertex lies inside a triangle -/
theorem apart_law {ps : List Z2} {t : List Z2} (ht : t ∈ splitZ ps) {k : Nat} (hk : k < ps.length) : holdsZ t (pt ps k) ≠ 1 := by
  by_cases h : chkZ ps = 0
  · obtain ⟨ts, h1, _, hc⟩ := split_ok h
    rw [h1] at ht
    obtain ⟨t', ht', rfl⟩ := List.mem_map.1 ht
    obtain ⟨f1, _, _, _, f5, f6, f7⟩ := tri_facts h hc ht'
    have n := norm_norm h
    have ho : outZ (pt ps k) = false := (out_iff _).2 (in_of_chk h _ (pt_mem hk))
    intro e
    rcases holds_geo f1 f5 f6 f7 ho with ⟨_, hi⟩ | ⟨e', _⟩ | ⟨e', _⟩
    · have hr := hc.int _ (List.mem_map_of_mem ht') _ hi
      have hp := place_vertex h hk
      rw [whereZ_pos h, ← n.place] at hp
      rcases place_good n.simple n.pos ho with ⟨_, p2⟩ | ⟨p1, _⟩ | ⟨p1, _⟩
      · obtain ⟨e0, he0, ho0⟩ := (on_poly _ _).1 p2
        exact hr.1 e0 he0 ho0
      · omega
      · omega
    · change holdsZ [t'.1, t'.2.1, t'.2.2] (pt ps k) = 1 at e; omega
    · change holdsZ [t'.1, t'.2.1, t'.2.2] (pt ps k) = 1 at e; omega
  · rw [(split_no h).1] at ht; simp at ht
theorem split_some {ps : List Z2} (h : chkZ ps = 0) : splitZ ps ≠ [] := by
  obtain ⟨ts, h1, _, hc⟩ := split_ok h
  rw [h1]
  intro e
  have := hc.one
  simp at e
  rw [e] at this
  exact this rfl
theorem split_len (ps : List Z2) : (splitZ ps).length ≤ ps.length := by
  by_cases h : chkZ ps = 0
  · obtain ⟨ts, h1, _, hc⟩ := split_ok h
    have := hc.len
    have h2 : (normZ ps).length ≤ ps.length := by
      have h1 := cornersTo_length ps ps.length
      have h2 : (corn ps).length ≤ ps.length := by
        unfold corn; split
        · rw [List.length_reverse]; exact h1
        · exact h1
      have h3 := (rotZ_perm (corn ps)).length_eq
      rw [normZ_pos h]; unfold normR; omega
    rw [h1]; simp at this ⊢; omega
  · rw [(split_no h).1]; simp

/-- how many triangles pass a test -/
def cntL (f : List Z2 → Bool) : List (List Z2) → Nat
  | [] => 0
  | t :: ts => (if f t then 1 else 0) + cntL f ts
def isIn (q : Z2) (t : List Z2) : Bool := decide (holdsZ t q = 1)
def isOn (q : Z2) (t : List Z2) : Bool := decide (holdsZ t q = 0)
theorem cntL_zero {f : List Z2 → Bool} {l : List (List Z2)} (h : ∀ t ∈ l, f t = false) : cntL f l = 0 := by
  induction l with
  | nil => rfl
  | cons t l ih => simp only [cntL]; rw [h t (by simp), ih (fun t ht => h t (by simp [ht]))]; rfl
theorem cntL_pos {f : List Z2 → Bool} {l : List (List Z2)} {t : List Z2} (ht : t ∈ l) (h : f t = true) : 0 < cntL f l := by
  induction l with
  | nil => simp at ht
  | cons x l ih =>
    simp only [cntL]
    rcases List.mem_cons.1 ht with rfl | ht
    · rw [h]; simp; omega
    · have := ih ht; omega
theorem covers_law {ps : List Z2} (h : chkZ ps = 0) (q : Z2) :
    ((cntL (isIn q) (splitZ ps) = 0 ∨ (cntL (isIn q) (splitZ ps) = 1 ∧ cntL (isOn q) (splitZ ps) = 0 ∧ whereZ ps q = 1)) ∧ (whereZ ps q = -1 ↔ cntL (isIn q) (splitZ ps) + cntL (isOn q) (splitZ ps) = 0)) := by
  obtain ⟨ts, h1, _, hc⟩ := split_ok h
  have n := norm_norm h
  rw [whereZ_pos h, ← n.place, h1]
  cases ho : outZ q with
  | true =>
    have e1 : ∀ t ∈ ts.map toL, holdsZ t q = -1 := fun t ht => by
      obtain ⟨t', ht', rfl⟩ := List.mem_map.1 ht
      unfold toL; rw [holds3, ho]; rfl
    have i0 : cntL (isIn q) (ts.map toL) = 0 := cntL_zero fun t ht => by unfold isIn; rw [e1 t ht]; rfl
    have o0 : cntL (isOn q) (ts.map toL) = 0 := cntL_zero fun t ht => by unfold isOn; rw [e1 t ht]; rfl
    rw [i0, o0]
    refine ⟨.inl rfl, fun _ => rfl, fun _ => ?_⟩
    unfold placeZ; rw [ho]; rfl
  | false =>
    have key : ∀ t ∈ ts, (holdsZ (toL t) q = 1 ∧ Geo.IntT (toT t).1 (toT t).2.1 (toT t).2.2 (toPt q)) ∨ (holdsZ (toL t) q = 0 ∧ Geo.InT (toT t).1 (toT t).2.1 (toT t).2.2 (toPt q) ∧ ¬ Geo.IntT (toT t).1 (toT t).2.1 (toT t).2.2 (toPt q)) ∨ (holdsZ (toL t) q = -1 ∧ ¬ Geo.InT (toT t).1 (toT t).2.1 (toT t).2.2 (toPt q)) := fun t ht => by
      obtain ⟨f1, _, _, _, f5, f6, f7⟩ := tri_facts h hc ht
      exact holds_geo f1 f5 f6 f7 ho
    constructor
    · by_cases hin : ∃ t ∈ ts, Geo.IntT (toT t).1 (toT t).2.1 (toT t).2.2 (toPt q)
      · right
        obtain ⟨t, ht, hi⟩ := hin
        have hr := hc.int _ (List.mem_map_of_mem ht) _ hi
        have cnt : ∀ ts : List TZ, t ∈ ts → (∀ t ∈ ts, (holdsZ (toL t) q = 1 ∧ Geo.IntT (toT t).1 (toT t).2.1 (toT t).2.2 (toPt q)) ∨ (holdsZ (toL t) q = 0 ∧ Geo.InT (toT t).1 (toT t).2.1 (toT t).2.2 (toPt q) ∧ ¬ Geo.IntT (toT t).1 (toT t).2.1 (toT t).2.2 (toPt q)) ∨ (holdsZ (toL t) q = -1 ∧ ¬ Geo.InT (toT t).1 (toT t).2.1 (toT t).2.2 (toPt q))) →
            ((ts.map toT).Pairwise fun t t' => ∀ q, (Geo.IntT t.1 t.2.1 t.2.2 q → ¬ Geo.InT t'.1 t'.2.1 t'.2.2 q) ∧ (Geo.IntT t'.1 t'.2.1 t'.2.2 q → ¬ Geo.InT t.1 t.2.1 t.2.2 q)) → cntL (isIn q) (ts.map toL) = 1 ∧ cntL (isOn q) (ts.map toL) = 0 := by
          intro ts
          induction ts with
          | nil => intro ht; simp at ht
          | cons x ts ih =>
            intro ht hk hp
            simp only [List.map_cons, List.pairwise_cons] at hp
            rcases List.mem_cons.1 ht with rfl | ht
            · have hx : holdsZ (toL t) q = 1 := by
                rcases hk t (by simp) with ⟨e, _⟩ | ⟨_, _, e⟩ | ⟨_, e⟩
                · exact e
                · exact absurd hi e
                · exact absurd hi.inT e
              have hrest : ∀ t' ∈ ts, holdsZ (toL t') q = -1 := fun t' ht' => by
                have := (hp.1 _ (List.mem_map_of_mem ht') (toPt q)).1 hi
                rcases hk t' (by simp [ht']) with ⟨_, e⟩ | ⟨_, e, _⟩ | ⟨e, _⟩
                · exact absurd e.inT this
                · exact absurd e this
                · exact e
              have z1 : cntL (isIn q) (ts.map toL) = 0 := cntL_zero fun l hl => by obtain ⟨t', ht', rfl⟩ := List.mem_map.1 hl; unfold isIn; rw [hrest t' ht']; rfl
              have z2 : cntL (isOn q) (ts.map toL) = 0 := cntL_zero fun l hl => by obtain ⟨t', ht', rfl⟩ := List.mem_map.1 hl; unfold isOn; rw [hrest t' ht']; rfl
              simp only [List.map_cons, cntL, z1, z2]
              unfold isIn isOn; rw [hx]; exact ⟨rfl, rfl⟩
            · have hx : holdsZ (toL x) q = -1 := by
                have := (hp.1 _ (List.mem_map_of_mem ht) (toPt q)).2 hi
                rcases hk x (by simp) with ⟨_, e⟩ | ⟨_, e, _⟩ | ⟨e, _⟩
                · exact absurd e.inT this
                · exact absurd e this
                · exact e
              obtain ⟨c1, c2⟩ := ih ht (fun t ht => hk t (by simp [ht])) hp.2
              simp only [List.map_cons, cntL, c1, c2]
              unfold isIn isOn; rw [hx]; exact ⟨rfl, rfl⟩
        obtain ⟨c1, c2⟩ := cnt ts ht key hc.uniq
        refine ⟨c1, c2, ?_⟩
        rcases place_good n.simple n.pos ho with ⟨_, p2⟩ | ⟨p1, _⟩ | ⟨_, _, p3⟩
        · obtain ⟨e0, he0, ho0⟩ := (on_poly _ _).1 p2
          exact absurd ho0 (hr.1 e0 he0)
        · exact p1
        · have := hr.2; omega
      · left
        refine cntL_zero fun l hl => ?_
        obtain ⟨t, ht, rfl⟩ := List.mem_map.1 hl
        unfold isIn
        rw [decide_eq_false_iff_not]
        intro e
        rcases key t ht with ⟨_, hi⟩ | ⟨e', _⟩ | ⟨e', _⟩
        · exact hin ⟨t, ht, hi⟩
        · omega
        · omega
    · have hR : Geo.Rg (poly (normZ ps)) (toPt q) ↔ ∃ t ∈ ts, Geo.InT (toT t).1 (toT t).2.1 (toT t).2.2 (toPt q) := by
        rw [hc.cov]
        constructor
        · rintro ⟨t, ht, hT⟩
          obtain ⟨t', ht', rfl⟩ := List.mem_map.1 ht
          exact ⟨t', ht', hT⟩
        · rintro ⟨t, ht, hT⟩
          exact ⟨_, List.mem_map_of_mem ht, hT⟩
      have hP : placeZ (normZ ps) q = -1 ↔ ¬ Geo.Rg (poly (normZ ps)) (toPt q) := by
        unfold Geo.Rg
        rcases place_good n.simple n.pos ho with ⟨p1, p2⟩ | ⟨p1, p2, p3⟩ | ⟨p1, p2, p3⟩
        · rw [p1]
          have := (on_poly _ _).1 p2
          constructor
          · intro e; omega
          · intro e; exact absurd (.inl this) e
        · rw [p1, p3]; simp
        · rw [p1, p3]
          constructor
          · rintro _ (⟨e0, he0, ho0⟩ | e)
            · have := (on_poly _ _).2 ⟨e0, he0, ho0⟩
              rw [p2] at this; cases this
            · omega
          · intro _; rfl
      rw [hP, hR]
      constructor
      · intro hno
        have e1 : ∀ t ∈ ts.map toL, holdsZ t q = -1 := fun l hl => by
          obtain ⟨t, ht, rfl⟩ := List.mem_map.1 hl
          rcases key t ht with ⟨_, e⟩ | ⟨_, e, _⟩ | ⟨e, _⟩
          · exact absurd ⟨t, ht, e.inT⟩ hno
          · exact absurd ⟨t, ht, e⟩ hno
          · exact e
        have i0 : cntL (isIn q) (ts.map toL) = 0 := cntL_zero fun t ht => by unfold isIn; rw [e1 t ht]; rfl
        have o0 : cntL (isOn q) (ts.map toL) = 0 := cntL_zero fun t ht => by unfold isOn; rw [e1 t ht]; rfl
        rw [i0, o0]
      · rintro hz ⟨t, ht, hT⟩
        rcases key t ht with ⟨e, _⟩ | ⟨e, _⟩ | ⟨_, e⟩
        · have := cntL_pos (f := isIn q) (List.mem_map_of_mem (f := toL) ht) (by unfold isIn; rw [e]; rfl)
          omega
        · have := cntL_pos (f := isOn q) (List.mem_map_of_mem (f := toL) ht) (by unfold isOn; rw [e]; rfl)
          omega
        · exact e hT
end Go.Proofs.Ytfgeengdmbabhaa

/- Normal forms and triangles of moved polygons. -/
namespace Go.Proofs.Ytfgeengdmbabhaa
open Geo (Pt cr On Simple edges mem_edges esum)

theorem pt_sh (d : Z2) {l : List Z2} {k : Nat} (h : k < l.length) : pt (l.map (shZ d)) k = shZ d (pt l k) := pt_map _ h
theorem bend_sh (d : Z2) {l : List Z2} {i : Nat} (hi : i < l.length) : bendZ (l.map (shZ d)) i = bendZ l i := by
  have hm : ∀ j, j % l.length < l.length := fun j => Nat.mod_lt _ (by omega)
  unfold bendZ
  rw [List.length_map, pt_sh d (hm _), pt_sh d hi, pt_sh d (hm _), crZ_sh]
theorem corners_sh (d : Z2) (l : List Z2) (k : Nat) (hk : k ≤ l.length) : cornersTo (l.map (shZ d)) k = (cornersTo l k).map (shZ d) := by
  induction k with
  | zero => rfl
  | succ k ih =>
    simp only [cornersTo]
    rw [bend_sh d (by omega), ih (by omega), pt_sh d (by omega)]
    split
    · rfl
    · rw [List.map_append]; rfl
theorem less_sh (d a b : Z2) : lessZ (shZ d a) (shZ d b) = lessZ a b := by
  rw [Bool.eq_iff_iff, lessZ_iff, lessZ_iff]
  simp only [shZ]; omega
theorem first_sh (d : Z2) (l : List Z2) (k : Nat) (hk : k ≤ l.length) : firstTo (l.map (shZ d)) k = firstTo l k := by
  induction k with
  | zero => rfl
  | succ k ih =>
    simp only [firstTo]
    have hf : firstTo l k < l.length := by
      cases k with
      | zero => simp [firstTo]; omega
      | succ k => have := firstTo_lt l (k + 1) (by omega); omega
    rw [ih (by omega), pt_sh d (by omega), pt_sh d hf, less_sh]
theorem rot_sh (d : Z2) (l : List Z2) : rotZ (l.map (shZ d)) = (rotZ l).map (shZ d) := by
  unfold rotZ
  rw [List.length_map, first_sh d l _ (Nat.le_refl _), List.map_append, List.map_drop, List.map_take]
theorem corn_sh (d : Z2) (ps : List Z2) : corn (ps.map (shZ d)) = (corn ps).map (shZ d) := by
  unfold corn
  rw [areaZ_sh, List.length_map, corners_sh d ps _ (Nat.le_refl _)]
  split
  · rw [List.map_reverse]
  · rfl
theorem norm_sh {d : Z2} {ps : List Z2} (h1 : chkZ ps = 0) (h2 : chkZ (ps.map (shZ d)) = 0) : normZ (ps.map (shZ d)) = (normZ ps).map (shZ d) := by
  rw [normZ_pos h1, normZ_pos h2]
  unfold normR
  rw [corn_sh, rot_sh]

theorem tri3Z_sh (d a b c q : Z2) : tri3Z (shZ d a) (shZ d b) (shZ d c) (shZ d q) = tri3Z a b c q := by
  unfold tri3Z; simp only [crZ_sh]
theorem firstZ_congr {n : Nat} {f g : Nat → Bool} (h : ∀ i, i < n → f i = g i) : firstZ n f = firstZ n g := by
  rcases firstZ_cases n f with ⟨i, hi, e, ht, hno⟩ | ⟨e, hno⟩
  · rw [e, firstZ_at hi (by rw [← h i hi]; exact ht) (fun j hj => by rw [← h j (by omega)]; exact hno j hj)]
  · rw [e, firstZ_none (fun j hj => by rw [← h j hj]; exact hno j hj)]
theorem eqZ_sh (d a b : Z2) : eqZ (shZ d a) (shZ d b) = eqZ a b := by
  unfold eqZ
  rw [Bool.eq_iff_iff, decide_eq_true_eq, decide_eq_true_eq]
  exact ⟨shZ_inj, fun h => by rw [h]⟩
section
variable {d : Z2} {l : List Z2}
theorem cA_sh {i : Nat} (hi : i < l.length) : cA (l.map (shZ d)) i = shZ d (cA l i) := by
  unfold cA; rw [List.length_map]; exact pt_sh d (Nat.mod_lt _ (by omega))
theorem cC_sh {i : Nat} (hi : i < l.length) : cC (l.map (shZ d)) i = shZ d (cC l i) := by
  unfold cC; rw [List.length_map]; exact pt_sh d (Nat.mod_lt _ (by omega))
theorem flat_sh {i : Nat} (hi : i < l.length) : flatZ (l.map (shZ d)) i = flatZ l i := by
  unfold flatZ; rw [bend_sh d hi]
theorem free_sh (h1 : ∀ p ∈ l, outZ p = false) (h2 : ∀ p ∈ l, outZ (shZ d p) = false) {i : Nat} (hi : i < l.length) : freeZ (l.map (shZ d)) i = freeZ l i := by
  unfold freeZ
  rw [bend_sh d hi]
  congr 2
  rw [Bool.eq_iff_iff, List.any_eq_true, List.any_eq_true]
  have mA : cA l i ∈ l := pt_mem (Nat.mod_lt _ (by omega))
  have mC : cC l i ∈ l := pt_mem (Nat.mod_lt _ (by omega))
  have mB : pt l i ∈ l := pt_mem hi
  have key : ∀ q ∈ l, blockZ (l.map (shZ d)) i (shZ d q) = blockZ l i q := fun q hq => by
    unfold blockZ
    rw [cA_sh hi, cC_sh hi, pt_sh d hi, eqZ_sh, eqZ_sh, eqZ_sh, holds3, holds3, tri3Z_sh, h1 _ mA, h1 _ mB, h1 _ mC, h1 _ hq, h2 _ mA, h2 _ mB, h2 _ mC, h2 _ hq]
  constructor
  · rintro ⟨x, hx, hb⟩
    obtain ⟨q, hq, rfl⟩ := List.mem_map.1 hx
    exact ⟨q, hq, by rw [← key q hq]; exact hb⟩
  · rintro ⟨q, hq, hb⟩
    exact ⟨_, List.mem_map_of_mem hq, by rw [key q hq]; exact hb⟩
end
theorem splitG_sh (d : Z2) (n : Nat) : ∀ (l : List Z2) (r : List (List Z2)), (∀ p ∈ l, outZ p = false) → (∀ p ∈ l, outZ (shZ d p) = false) →
    splitG n (l.map (shZ d)) (r.map (List.map (shZ d))) = (splitG n l r).map (List.map (List.map (shZ d))) := by
  induction n with
  | zero => intro l r _ _; simp [splitG]
  | succ n ih =>
    intro l r h1 h2
    have ef : firstZ l.length (flatZ (l.map (shZ d))) = firstZ l.length (flatZ l) := firstZ_congr fun i hi => flat_sh hi
    have eg : firstZ l.length (freeZ (l.map (shZ d))) = firstZ l.length (freeZ l) := firstZ_congr fun i hi => free_sh h1 h2 hi
    simp only [splitG, List.length_map, ef, eg]
    by_cases h3 : l.length ≤ 3
    · rw [if_pos h3, if_pos h3]; simp
    rw [if_neg h3, if_neg h3]
    have em : ∀ i, (l.map (shZ d)).eraseIdx i = (l.eraseIdx i).map (shZ d) := fun i => by
      rw [List.eraseIdx_eq_take_drop_succ, List.eraseIdx_eq_take_drop_succ, List.map_append, List.map_take, List.map_drop]
    by_cases hf : 0 ≤ firstZ l.length (flatZ l)
    · rw [if_pos hf, if_pos hf, em]
      exact ih _ _ (fun p hp => h1 p (List.mem_of_mem_eraseIdx hp)) (fun p hp => h2 p (List.mem_of_mem_eraseIdx hp))
    rw [if_neg hf, if_neg hf]
    by_cases hg : 0 ≤ firstZ l.length (freeZ l)
    · rw [if_pos hg, if_pos hg, em]
      have hi : (firstZ l.length (freeZ l)).toNat < l.length := by
        rcases firstZ_cases l.length (freeZ l) with ⟨i, hi, e, _⟩ | ⟨e, _⟩
        · rw [e]; simpa using hi
        · omega
      rw [cA_sh hi, cC_sh hi, pt_sh d hi]
      have := ih (l.eraseIdx (firstZ l.length (freeZ l)).toNat) (r ++ [[cA l (firstZ l.length (freeZ l)).toNat, pt l (firstZ l.length (freeZ l)).toNat, cC l (firstZ l.length (freeZ l)).toNat]]) (fun p hp => h1 p (List.mem_of_mem_eraseIdx hp)) (fun p hp => h2 p (List.mem_of_mem_eraseIdx hp))
      rw [List.map_append] at this
      exact this
    · rw [if_neg hg, if_neg hg]; rfl
theorem split_sh {d : Z2} {ps : List Z2} (h1 : chkZ ps = 0) (h2 : chkZ (ps.map (shZ d)) = 0) : splitZ (ps.map (shZ d)) = (splitZ ps).map (List.map (shZ d)) := by
  have n := norm_norm h1
  have hin := in_of_chk h2
  unfold splitZ
  rw [if_pos h1, if_pos h2, norm_sh h1 h2, List.length_map]
  have := splitG_sh d (normZ ps).length (normZ ps) [] (n.in_range h1) (fun p hp => (out_iff _).2 (hin _ (List.mem_map_of_mem (n.mem p hp))))
  rw [List.map_nil] at this
  rw [this]
  cases splitG (normZ ps).length (normZ ps) [] <;> rfl
end Go.Proofs.Ytfgeengdmbabhaa
