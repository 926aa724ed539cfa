import Derived.Test.YtfgeengdmbabhaaWn
import Derived.Test.YtfgeengdmbabhaaRows
import Derived.ProofKit
import Derived.JoinedOf
import Derived.OpenShut
import Derived.ShutString
import Derived.ChangeOld
import Derived.Deep.Slices
import Derived.Deep.Fields
import Derived.Lib.SmallJoins
namespace Go.Proofs.Ytfgeengdmbabhaa
open Go.ChangeShapes Go.WideShapes Go.ChangeAt Go.RowKit Go.Deep Go.Joins
set_option linter.unusedVariables false

theorem Try.own : ownKnob Try.prog.godebug = none := by kernel_rfl
theorem Try.laidOut : laidOutB Try.prog = true := by kernel_rfl

set_option maxRecDepth 100000 in
theorem initChars : ∃ l, Try.prog.initOrder = String.ofList l ∧ (behindMainWord (wordsSigns l)).head? = some "cut".toList := by
  apply Exists.intro
  apply And.intro
  · exact rfl
  · kernel_rfl
theorem strip_cut (rest : List (List Char)) : stripLifts liftWords ("cut".toList :: rest) = ([], "cut".toList :: rest) := by kernel_rfl
theorem mayEnter_of {P : Program} (h : ∃ l, P.initOrder = String.ofList l ∧ (behindMainWord (wordsSigns l)).head? = some "cut".toList) (h4 : P.laysLater = false) (h5 : P.bearsReflect = false) (h6 : P.doorFits [] = true) : P.mayEnter = true := by
  obtain ⟨l, h1, h2⟩ := h
  unfold Program.mayEnter
  rw [h1, String.toList_ofList]
  generalize behindMainWord (wordsSigns l) = ws at h2
  cases ws with
  | nil => simp at h2
  | cons c rest =>
    simp only [List.head?_cons, Option.some.injEq] at h2
    subst h2
    simp only [strip_cut]
    simp [h4, h5, h6]
theorem liftsFinal_of {P : Program} (h : ∃ l, P.initOrder = String.ofList l ∧ (behindMainWord (wordsSigns l)).head? = some "cut".toList) : P.liftsFinal = false := by
  obtain ⟨l, h1, h2⟩ := h
  unfold Program.liftsFinal Program.headLifts
  rw [h1, String.toList_ofList]
  generalize behindMainWord (wordsSigns l) = ws at h2
  cases ws with
  | nil => simp at h2
  | cons c rest =>
    simp only [List.head?_cons, Option.some.injEq] at h2
    subst h2
    simp only [strip_cut]
    simp
theorem make_of {P : Program} (h : ∃ l, P.initOrder = String.ofList l ∧ (behindMainWord (wordsSigns l)).head? = some "cut".toList) : P.make = some .cut := by
  obtain ⟨l, h1, h2⟩ := h
  unfold Program.make
  rw [h1, String.toList_ofList]
  generalize behindMainWord (wordsSigns l) = ws at h2
  cases ws with
  | nil => simp at h2
  | cons c rest =>
    simp only [List.head?_cons, Option.some.injEq] at h2
    subst h2
    simp
theorem Try.fMay : Try.prog.mayEnter = true := mayEnter_of initChars (by kernel_rfl) (by kernel_rfl) (by kernel_rfl)
theorem Try.fLifts : Try.prog.liftsFinal = false := liftsFinal_of initChars
theorem Try.fMake : Try.prog.make = some .cut := make_of initChars
theorem Try.fMaps : mapsRowed Try.prog = true := by kernel_rfl
theorem Try.fStops : Try.prog.stops = [] := by kernel_rfl
theorem Try.fKnobs : Try.prog.stopKnobs = [] := by kernel_rfl
theorem Try.fHeard : Try.prog.stopsHeard = true := by kernel_rfl
theorem Try.fPlain : Try.prog.plainKeys = true := by kernel_rfl

/-- the numbers of a spot fit their kind -/
def In64 (p : Z2) : Prop := -9223372036854775808 ≤ p.x ∧ p.x ≤ 9223372036854775807 ∧ -9223372036854775808 ≤ p.y ∧ p.y ≤ 9223372036854775807

theorem wf64 {n : Int} (h : (Lit.int .i64 n).wf = true) : -9223372036854775808 ≤ n ∧ n ≤ 9223372036854775807 := by
  have := bounds_i64 h
  omega

section
variable {H : Type} {enc : TypeId × Value → H} {w : World} {base : Nat} {spare : Nat → Bool} {held : Bool}
theorem open_spot {r : Reach} {b0 : Nat} {v : Value} {d : DataW H} {p : List MemPlace} (hv : Value.okWide Try.prog w r b0 30 v) (h : DataW.Trod enc Try.prog w base spare held 30 v d p) :
    ∃ q : Z2, v = sv q ∧ In64 q := by
  obtain ⟨v0, v1, y0, y1, n, rfl, _, _, h0, h1⟩ := open_agg2 Try.underlying30 (by kernel_rfl) (by kernel_rfl) hv h
  obtain ⟨a, e0, _, wa⟩ := DataW.trod_int Try.underlying3 h0
  obtain ⟨b, e1, _, wb⟩ := DataW.trod_int Try.underlying3 h1
  simp at e0 e1
  subst e0 e1
  have := wf64 wa
  have := wf64 wb
  exact ⟨⟨a, b⟩, rfl, by unfold In64; simp only; omega⟩

theorem struct2 {n : Nat} {cs : List Value} {y : DataW H × List MemPlace} (hl : cs.length = 2) (h : DataW.trod enc Try.prog w base spare held n 30 cs = some y) : ∃ q : Z2, cs = [iv q.x, iv q.y] ∧ In64 q := by
  obtain ⟨ys, n', hn', hy, hlen, hyl, hf⟩ := DataW.trod_struct Try.underlying30 h
  match cs, hl with
  | [c0, c1], _ =>
    have hC : Try.prog.cellsOf 3 = 1 := by kernel_rfl
    have f0 : DataW.trod enc Try.prog w base spare held n' 3 (([c0, c1].drop 0).take (Try.prog.cellsOf 3)) = ys[0]? := hf 0 _ rfl
    have f1 : DataW.trod enc Try.prog w base spare held n' 3 (([c0, c1].drop 1).take (Try.prog.cellsOf 3)) = ys[1]? := hf 1 _ rfl
    rw [hC] at f0 f1
    match ys, hyl with
    | [y0, y1], _ =>
      have f0' : DataW.trod enc Try.prog w base spare held n' 3 [c0] = some y0 := f0
      have f1' : DataW.trod enc Try.prog w base spare held n' 3 [c1] = some y1 := f1
      obtain ⟨a, e0, _, wa⟩ := DataW.trod_int Try.underlying3 f0'
      obtain ⟨b, e1, _, wb⟩ := DataW.trod_int Try.underlying3 f1'
      simp at e0 e1
      subst e0 e1
      have := wf64 wa
      have := wf64 wb
      exact ⟨⟨a, b⟩, rfl, by unfold In64; simp only; omega⟩

theorem open_spots {r : Reach} {b0 : Nat} {v : Value} {d : DataW H} {p : List MemPlace} (hv : Value.okWide Try.prog w r b0 22 v) (h : DataW.Trod enc Try.prog w base (fun _ => true) held 22 v d p) :
    ∃ (A : Option Addr) (c : Nat) (ps : List Z2), v = .slice A ps.length c ∧ ps.length ≤ c ∧ c ≤ maxLen ∧ Sp w A ps ∧ ∀ q ∈ ps, In64 q := by
  obtain ⟨A, len, cap, rfl⟩ := okWide_slice Try.underlying22 hv
  obtain ⟨fuel, hf⟩ := h
  rcases open_slice Try.underlying22 hf with ⟨hcs, _⟩ | ⟨a, len', cap', m, n, D, Pl, hcs, hb, hl, hm, hmm, hx, hi⟩
  · simp [Value.cells] at hcs
    obtain ⟨rfl, rfl, rfl⟩ := hcs
    exact ⟨none, 0, [], rfl, by simp, by simp, fun h => absurd rfl h, by simp⟩
  · simp [Value.cells] at hcs
    obtain ⟨rfl, rfl, rfl⟩ := hcs
    simp only [if_true] at hmm
    subst hmm
    have hC : Try.prog.cellsOf 30 = 2 := by kernel_rfl
    have key : ∀ i, i < len → ∃ q : Z2, In64 q ∧ w.cell? (a.add (i * 2)) = some (iv q.x) ∧ w.cell? (a.add (i * 2 + 1)) = some (iv q.y) := by
      intro i hil
      obtain ⟨cs', hc, ht'⟩ := hi i (by omega)
      rw [hC] at hc
      obtain ⟨_, hcl, hat⟩ := World.cells?_some hc
      obtain ⟨q, rfl, hq⟩ := struct2 hcl ht'
      have a0 := hat 0 (by omega)
      have a1 := hat 1 (by omega)
      rw [Go.Deep.add_add] at a0 a1
      exact ⟨q, hq, a0, a1⟩
    have key2 : ∃ ps : List Z2, ps.length = len ∧ ∀ i, i < len → In64 (pt ps i) ∧ w.cell? (a.add (i * 2)) = some (iv (pt ps i).x) ∧ w.cell? (a.add (i * 2 + 1)) = some (iv (pt ps i).y) := by
      clear hx hi hf hv hl
      induction len with
      | zero => exact ⟨[], rfl, fun i hi => absurd hi (by omega)⟩
      | succ len ih =>
        obtain ⟨ps, hl, hp⟩ := ih (fun i hi => key i (by omega))
        obtain ⟨q, hq⟩ := key len (by omega)
        refine ⟨ps ++ [q], by simp [hl], fun i hi => ?_⟩
        by_cases e : i = len
        · have : pt (ps ++ [q]) i = q := by subst e; simp [pt, hl]
          rw [this, e]; exact hq
        · have : pt (ps ++ [q]) i = pt ps i := by
            have hi' : i < ps.length := by omega
            rw [pt_eq hi', pt_eq (by simp; omega), List.getElem_append_left hi']
          rw [this]; exact hp i (by omega)
    obtain ⟨ps, hpl, hps⟩ := key2
    subst hpl
    refine ⟨some a, _, ps, rfl, hl, hm, fun hne => ?_, fun q hq => ?_⟩
    · have h0 : 0 < ps.length := by cases ps with | nil => exact absurd rfl hne | cons => simp
      obtain ⟨b, off, spot⟩ := a
      have hs : spot = none := by
        have := World.cell?_spot (hps 0 h0).2.1
        simpa [Addr.add] using this
      subst hs
      exact ⟨b, off, rfl, fun k hk => by have := (hps k hk).2; rw [add_plain, add_plain] at this; exact this⟩
    · obtain ⟨i, hi', rfl⟩ := List.getElem_of_mem hq
      have := (hps i hi').1
      rwa [pt_eq hi'] at this
end
end Go.Proofs.Ytfgeengdmbabhaa
