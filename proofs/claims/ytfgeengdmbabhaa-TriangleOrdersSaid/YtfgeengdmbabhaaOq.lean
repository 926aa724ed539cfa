import Derived.Test.YtfgeengdmbabhaaOp
namespace Go.Proofs.Ytfgeengdmbabhaa
open Go.ChangeShapes Go.WideShapes Go.ChangeAt Go.RowKit Go.Deep Go.Joins
set_option linter.unusedVariables false

section
variable {H : Type} {enc : TypeId × Value → H} {w : World} {base : Nat} {spare : Nat → Bool} {held : Bool}
/-- a struct of two spots -/
theorem open_ends {r : Reach} {b0 : Nat} {v : Value} {d : DataW H} {p : List MemPlace} (hv : Value.okWide Try.prog w r b0 61 v) (h : DataW.Trod enc Try.prog w base spare held 61 v d p) :
    ∃ c q : Z2, v = .agg #[iv c.x, iv c.y, iv q.x, iv q.y] ∧ In64 c ∧ In64 q := by
  obtain ⟨cs, rfl, hsz⟩ := okWide_struct Try.underlying61 hv
  have hC : Try.prog.cellsOf 61 = 4 := by kernel_rfl
  have hC3 : Try.prog.cellsOf 30 = 2 := by kernel_rfl
  rw [hC] at hsz
  obtain ⟨fuel, hf⟩ := h
  obtain ⟨ys, n', hn', hy, hlen, hyl, hfs⟩ := DataW.trod_struct Try.underlying61 hf
  obtain ⟨c0, c1, c2, c3, rfl⟩ : ∃ c0 c1 c2 c3, cs = #[c0, c1, c2, c3] := by
    match cs, hsz with
    | ⟨[c0, c1, c2, c3]⟩, _ => exact ⟨c0, c1, c2, c3, rfl⟩
  have f0 : DataW.trod enc Try.prog w base spare held n' 30 (([c0, c1, c2, c3].drop 0).take (Try.prog.cellsOf 30)) = ys[0]? := hfs 0 _ rfl
  have f1 : DataW.trod enc Try.prog w base spare held n' 30 (([c0, c1, c2, c3].drop 2).take (Try.prog.cellsOf 30)) = ys[1]? := hfs 1 _ rfl
  rw [hC3] at f0 f1
  match ys, hyl with
  | [y0, y1], _ =>
    have f0' : DataW.trod enc Try.prog w base spare held n' 30 [c0, c1] = some y0 := f0
    have f1' : DataW.trod enc Try.prog w base spare held n' 30 [c2, c3] = some y1 := f1
    obtain ⟨c, e0, h0⟩ := struct2 rfl f0'
    obtain ⟨q, e1, h1⟩ := struct2 rfl f1'
    injection e0 with e00 e0; injection e0 with e01 _
    injection e1 with e10 e1; injection e1 with e11 _
    subst e00 e01 e10 e11
    exact ⟨c, q, rfl, h0, h1⟩
/-- the numbers of a rectangle fit their kind -/
def In64R (r : R4) : Prop := (-9223372036854775808 ≤ r.x ∧ r.x ≤ 9223372036854775807) ∧ (-9223372036854775808 ≤ r.y ∧ r.y ≤ 9223372036854775807) ∧ (-9223372036854775808 ≤ r.w ∧ r.w ≤ 9223372036854775807) ∧ (-9223372036854775808 ≤ r.h ∧ r.h ≤ 9223372036854775807)
theorem open_rect {r : Reach} {b0 : Nat} {v : Value} {d : DataW H} {p : List MemPlace} (hv : Value.okWide Try.prog w r b0 41 v) (h : DataW.Trod enc Try.prog w base spare held 41 v d p) :
    ∃ q : R4, v = rv q ∧ In64R q := by
  obtain ⟨v0, v1, v2, v3, y0, y1, y2, y3, n, rfl, _, _, h0, h1, h2, h3⟩ := open_agg4 Try.underlying41 (by kernel_rfl) (by kernel_rfl) hv h
  obtain ⟨a, e0, _, wa⟩ := DataW.trod_int Try.underlying3 h0
  obtain ⟨b, e1, _, wb⟩ := DataW.trod_int Try.underlying3 h1
  obtain ⟨c, e2, _, wc⟩ := DataW.trod_int Try.underlying3 h2
  obtain ⟨d, e3, _, wd⟩ := DataW.trod_int Try.underlying3 h3
  simp at e0 e1 e2 e3
  subst e0 e1 e2 e3
  exact ⟨⟨a, b, c, d⟩, rfl, wf64 wa, wf64 wb, wf64 wc, wf64 wd⟩
end
end Go.Proofs.Ytfgeengdmbabhaa
