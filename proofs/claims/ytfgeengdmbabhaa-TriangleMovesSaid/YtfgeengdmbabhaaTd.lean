import Derived.Test.YtfgeengdmbabhaaTc
namespace Go.Proofs.Ytfgeengdmbabhaa
open Go.RowKit
attribute [local go_sem ↓] Go.wp_at_zero Go.wp_at_succ

theorem wp_copy_run {P : Program} (w : World) {o : Oper} {a : Act} {K : Act → World → Prop} {Q : Exit → Act → World → Prop} (d s : Operand) (t t' : TypeId)
    (ho : o.op = .call { callee := .builtin .copy, args := #[d, s], argTypes := #[t, t'] }) (v u : Value) (hd : a.eval d = v) (hs : a.eval s = u) {v' : Value} {w' : World}
    (hr : (Builtin.copy_ #[t, t'] o.type #[v, u]).run P w = .ok v' w') (h : K (a.put o.dst v') w') : o.wp P a w K Q := by
  unfold Oper.wp execOp
  simp only [ho, resolve, invoke, builtin, Sem.run_bind, Sem.run_pure, Result.andThen_ok, List.map_toArray, List.map_cons, List.map_nil, hd, hs, hr]
  exact h
theorem wpList_copy {P : Program} (w : World) {ops : Array Oper} {rest : List Oper} {o : Oper} {a : Act} {Q : Exit → Act → World → Prop} (hgd : o.guard = none) (d s : Operand) (t t' : TypeId)
    (ho : o.op = .call { callee := .builtin .copy, args := #[d, s], argTypes := #[t, t'] }) (v u : Value) (hd : a.eval d = v) (hs : a.eval s = u) {v' : Value} {w' : World}
    (hr : (Builtin.copy_ #[t, t'] o.type #[v, u]).run P w = .ok v' w') (h : wpList P ops Q rest (a.put o.dst v') w') : wpList P ops Q (o :: rest) a w :=
  wpList_plain hgd fun _ hK => wp_copy_run w d s t t' ho v u hd hs hr (hK _ _ h)
theorem step_copy {P : Program} {ops : Array Oper} {o : Oper} {a : Act} {w : World} {K : Act → World → Prop} {Q : Exit → Act → World → Prop} {E : Prop}
    (hg : o.guard = none) (d x : Operand) (dT sT : TypeId) (hop : o.op = Op.call { callee := Callee.builtin Builtin.copy, args := #[d, x], argTypes := #[dT, sT] })
    (v u : Value) (hd : a.eval d = v) (hx : a.eval x = u) {v' : Value} {w' : World} (hr : (Builtin.copy_ #[dT, sT] o.type #[v, u]).run P w = .ok v' w') (hK : K (a.put o.dst v') w') :
    if Region.wanted o (yielded ops a.tmps) = true then Oper.wp P o a w K Q else E := by
  have hw : Region.wanted o (yielded ops a.tmps) = true := by simp [Region.wanted, hg]
  rw [if_pos hw]
  exact wp_copy_run w d x dT sT hop v u hd hx hr hK

/-- the whole of a list copied into a new block -/
theorem copy_whole {w : World} {gD : Nat} {l : List Z2} {A : Option Addr} {c : Nat} (hne : l ≠ []) (hB : Blk w gD 30 (flat (List.replicate l.length ⟨0, 0⟩)).toArray) (hs : Sp w A l) :
    (Builtin.copy_ #[22, 22] 3 #[.slice (some ⟨gD, 0, none⟩) l.length l.length, .slice A l.length c]).run Try.prog w = .ok (goInt (Nat.min l.length l.length)) (w.setRow gD (flat l).toArray) := by
  obtain ⟨b, off, rfl, hc⟩ := hs hne
  have hfl := flat_length l
  have hfr := flat_length (List.replicate l.length (⟨0, 0⟩ : Z2))
  rw [List.length_replicate] at hfr
  have hr := run_copy_sp w gD 0 l.length l.length ⟨b, off, none⟩ l.length c _ (flat l) hB (by rw [hfl]; congr 1; exact (Nat.min_self _).symm) (Sp.cells hc) (by simp [hfl, hfr]) (flat_one l)
  rw [hr]
  congr 3
  simp [hfl, hfr]

theorem setCell_new (W : World) (t : TypeId) (x v : Value) : (W.alloc (.cells #[x] t)).setCell ⟨W.heap.size, 0, none⟩ v = W.alloc (.cells #[v] t) := by
  unfold World.setCell World.alloc
  simp only
  congr 1
  apply Array.ext
  · simp
  · intro i h1 h2
    simp only [Array.getElem_modify, Array.getElem_push]
    by_cases e : i < W.heap.size
    · simp [e, Nat.ne_of_gt e]
    · have : i = W.heap.size := by simp at h2; omega
      subst this
      simp
theorem store_fn (f : Fn) (a b : Array Value) (W : World) : (store ⟨W.heap.size, 0, none⟩ (Value.func f a b)).run Try.prog (W.alloc (.cells #[Value.nilFunc] 81)) = .ok () (W.alloc (.cells #[Value.func f a b] 81)) := by
  have hB := Blk.new W 81 #[Value.nilFunc]
  have h2 := hB.frozen 0
  rw [run_store Try.prog _ _ _ _ (by rfl), hB.cell 0]
  simp [h2, setCell_new]
theorem below_setRow {w w1 : World} {g : Nat} (h : Below w.heap.size w w1) (hg : w.heap.size ≤ g) (cs : Array Value) : Below w.heap.size w (w1.setRow g cs) :=
  ⟨h.os, h.tape, h.output, by simpa using h.size, fun i hi => (setRow_other w1 g i cs (by omega)).trans (h.block i hi)⟩
theorem lp_next {W w : World} {gl gc gD cap : Nat} {l' : List Z2} {rest' : List Value} {x v : Value} {rs : List (List Z2)} (h1 : Blk W gD 30 (flat l' ++ rest').toArray) (hlen : (flat l' ++ rest').length = cap * 2) (h2 : Blk W gl 22 #[x])
    (h3 : Blk W gc 81 #[.func (.func 91) #[] #[.pointer (some ⟨gl, 0, none⟩)]]) (h4 : RS W w.heap.size [gl, gc, gD] v rs) (h5 : Below w.heap.size w W) (g1 : w.heap.size ≤ gD) (g2 : gD < gl) (g3 : gl < gc) :
    Lp (W.setCell ⟨gl, 0, none⟩ (.slice (some ⟨gD, 0, none⟩) l'.length cap)) gl gc gD cap l' ∧ RS (W.setCell ⟨gl, 0, none⟩ (.slice (some ⟨gD, 0, none⟩) l'.length cap)) w.heap.size [gl, gc, gD] v rs ∧ Below w.heap.size w (W.setCell ⟨gl, 0, none⟩ (.slice (some ⟨gD, 0, none⟩) l'.length cap)) := by
  refine ⟨⟨⟨rest', h1.far (p := ⟨gl, 0, none⟩) (by simp only; omega) _, hlen⟩, h2.set_ 0 _, h3.far (p := ⟨gl, 0, none⟩) (by simp only; omega) _⟩, h4.keep (by simp [World.setCell]) (fun b _ hb => Below.heap_setCell W ⟨gl, 0, none⟩ _ b (fun e => hb (by rw [e]; simp))), h5.setCell (p := ⟨gl, 0, none⟩) (by simp only; omega) _⟩
theorem mem_erase {l : List Z2} {i : Nat} {P : Z2 → Prop} (h : ∀ p ∈ l, P p) : ∀ p ∈ l.eraseIdx i, P p := fun p hp => h p (List.mem_of_mem_eraseIdx hp)
theorem Lp.grown {w w' : World} {gl gc gD cap : Nat} {l : List Z2} {row : Option Nat} (h : Lp w gl gc gD cap l) (hg : w.grownBy w' row) (hr : ∀ b ∈ [gl, gc, gD], some b ≠ row) : Lp w' gl gc gD cap l := by
  obtain ⟨⟨rest, h1, h2⟩, h3, h4⟩ := h
  exact ⟨⟨rest, (hg.block gD h1.lt (hr gD (by simp))).trans h1, h2⟩, (hg.block gl h3.lt (hr gl (by simp))).trans h3, (hg.block gc h4.lt (hr gc (by simp))).trans h4⟩
theorem RS.own {w : World} {base : Nat} {bad : List Nat} {v : Value} {rs : List (List Z2)} (h : RS w base bad v rs) : (∀ b, v.ownBlock = some b → base ≤ b ∧ b < w.heap.size) ∧ (∀ b ∈ bad, some b ≠ v.ownBlock) := by
  obtain ⟨vs, h1, h2, _⟩ := h
  exact ⟨World.ownsRow.lt h1, fun b hb e => h2 b e.symm hb⟩
/-- a new triangle, appended to the row -/
theorem push_new {w W : World} {gl gc gD cap : Nat} {l : List Z2} {v : Value} {rs : List (List Z2)} (a b d : Z2) (hL : Lp W gl gc gD cap l) (hR : RS W w.heap.size [gl, gc, gD] v rs) (hW : Below w.heap.size w W) (hn : rs.length ≤ 100000) :
    ∃ v' w', (Builtin.append_ #[55, 55] 55 #[v, .slice (some ⟨W.heap.size + 1, 0, none⟩) 1 1]).run Try.prog ((W.alloc (.cells #[iv a.x, iv a.y, iv b.x, iv b.y, iv d.x, iv d.y] 30)).alloc (.cells #[.slice (some ⟨W.heap.size, 0, none⟩) 3 3] 22)) = .ok v' w'
      ∧ Lp w' gl gc gD cap l ∧ RS w' w.heap.size [gl, gc, gD] v' (rs ++ [[a, b, d]]) ∧ Below w.heap.size w w' := by
  have hb1 := below_alloc W (.cells #[iv a.x, iv a.y, iv b.x, iv b.y, iv d.x, iv d.y] 30)
  have hs1 : Sp (W.alloc (.cells #[iv a.x, iv a.y, iv b.x, iv b.y, iv d.x, iv d.y] 30)) (some ⟨W.heap.size, 0, none⟩) [a, b, d] := Blk.sp (Blk.new W 30 (flat [a, b, d]).toArray)
  have e1 : (W.alloc (.cells #[iv a.x, iv a.y, iv b.x, iv b.y, iv d.x, iv d.y] 30)).heap.size = W.heap.size + 1 := by simp
  generalize W.alloc (.cells #[iv a.x, iv a.y, iv b.x, iv b.y, iv d.x, iv d.y] 30) = W1 at *
  have hb2 := below_alloc W1 (.cells #[.slice (some ⟨W.heap.size, 0, none⟩) 3 3] 22)
  have hk2 := Blk.new W1 22 #[.slice (some ⟨W.heap.size, 0, none⟩) 3 3]
  have e2 : (W1.alloc (.cells #[.slice (some ⟨W.heap.size, 0, none⟩) 3 3] 22)).heap.size = W.heap.size + 2 := by simp [e1]
  rw [e1] at hk2
  generalize W1.alloc (.cells #[.slice (some ⟨W.heap.size, 0, none⟩) 3 3] 22) = W2 at *
  have hb := below_trans hb1 hb2
  have ho := hR.own
  have hb0 : ∀ x ∈ [gl, gc, gD], x < W.heap.size := fun x hx => by
    obtain ⟨⟨rest, h1, h2⟩, h3, h4⟩ := hL
    simp only [List.mem_cons, List.not_mem_nil, or_false] at hx
    rcases hx with rfl | rfl | rfl
    · exact h3.lt
    · exact h4.lt
    · exact h1.lt
  obtain ⟨v', w', g1, g2, g3⟩ := (hR.later hb).push [a, b, d] W.heap.size 3 (W.heap.size + 1) (by simp) (fun h => by have := hb0 _ h; omega) (fun e => by have := (ho.1 _ e.symm).2; omega) (hs1.later hb2) (by omega)
    (by rw [hk2.cell]; rfl) hn (Nat.le_trans hW.size (by omega)) (fun x hx => by have := hb0 x hx; omega)
  exact ⟨v', w', g1, (hL.later hb).grown g3 ho.2, g2, below_grown (below_trans hW hb) g3 (fun k hk => (ho.1 k hk).1)⟩
/-- what is left, appended to the row -/
theorem push_last {w W : World} {gl gc gD cap : Nat} {l : List Z2} {v : Value} {rs : List (List Z2)} (hL : Lp W gl gc gD cap l) (hR : RS W w.heap.size [gl, gc, gD] v rs) (hW : Below w.heap.size w W) (hn : rs.length ≤ 100000) :
    ∃ A c w', (Builtin.append_ #[55, 55] 55 #[v, .slice (some ⟨W.heap.size, 0, none⟩) 1 1]).run Try.prog (W.alloc (.cells #[.slice (some ⟨gD, 0, none⟩) l.length cap] 22)) = .ok (.slice A (rs ++ [l]).length c) w'
      ∧ SSp w' A (rs ++ [l]) ∧ (rs ++ [l]).length ≤ c ∧ Below w.heap.size w w' := by
  have hb := below_alloc W (.cells #[.slice (some ⟨gD, 0, none⟩) l.length cap] 22)
  have hk := Blk.new W 22 #[.slice (some ⟨gD, 0, none⟩) l.length cap]
  generalize W.alloc (.cells #[.slice (some ⟨gD, 0, none⟩) l.length cap] 22) = W2 at *
  have ho := hR.own
  have hlt : gD < W.heap.size := by obtain ⟨⟨rest, h1, h2⟩, h3, h4⟩ := hL; exact h1.lt
  obtain ⟨A, c, w', g1, g2, g3, g4⟩ := (hR.later hb).last l gD cap W.heap.size hL.le (ho.2 gD (by simp)) (hL.later hb).sp (Nat.lt_of_lt_of_le hlt hb.size) (by rw [hk.cell]; rfl) hn (Nat.le_trans hW.size hb.size)
  exact ⟨A, c, w', g1, g2, g4, below_grown (below_trans hW hb) g3 (fun k hk => (ho.1 k hk).1)⟩
theorem splitG_end {l : List Z2} {rs : List (List Z2)} (h : l.length ≤ 3) : splitG l.length l rs = some (rs ++ [l]) := by
  cases hn : l.length with
  | zero => simp [splitG]
  | succ n => simp only [splitG]; rw [if_pos h]
theorem normZ_len {ps : List Z2} : (normZ ps).length ≤ ps.length := by
  unfold normZ
  split
  · have h1 := cornersTo_length ps ps.length
    have h2 : (corn ps).length ≤ ps.length := by
      unfold corn; split
      · rw [List.length_reverse]; exact h1
      · exact h1
    unfold normR rotZ
    rw [List.length_append, List.length_drop, List.length_take]; omega
  · simp
theorem normZ_mem {ps : List Z2} (h : ∀ p ∈ cornersTo ps ps.length, p ∈ ps) : ∀ p ∈ normZ ps, p ∈ ps := by
  intro p hp
  unfold normZ at hp
  split at hp
  · unfold normR rotZ at hp
    have : p ∈ corn ps := by
      rcases List.mem_append.1 hp with h | h
      · exact List.mem_of_mem_drop h
      · exact List.mem_of_mem_take h
    unfold corn at this
    split at this
    · exact h p (by simpa using this)
    · exact h p this
  · simp at hp

set_option maxRecDepth 100000 in
set_option maxHeartbeats 8000000 in
/-- triangle.Split -/
theorem split58 (A : Option Addr) (n c : Nat) (ps : List Z2) (w : World) (hl : ps.length = n) (hsp : Sp w A ps) (hcap : n ≤ c) (hn3 : chkZ ps = 0 → 3 ≤ (normZ ps).length) (hmem : ∀ p ∈ normZ ps, p ∈ ps) :
    Calls Try.prog 58 #[.slice A n c] w (RetSS (splitZ ps) (splitE ps) w) := by
  have HS := Lib.hid hsp; clear hsp
  by_cases h0 : chkZ ps = 0
  case neg =>
    have HE := Lib.hid (And.intro (show splitZ ps = [] by unfold splitZ; rw [if_neg h0]) (show splitE ps = chkZ ps by unfold splitE; rw [if_neg h0]))
    have hd : (chkZ ps != 0) = true := by simpa using h0
    clear h0 hn3 hmem
    go_enter Try.func58, Try.ntmps58
    go_wp2_with fail
    refine (normal32' A n c ps _ hl HS.out hcap).mono ?_
    rintro e w1 ⟨A1, c1, rfl, hc1, hs1, hb1⟩
    go_wp2
    go_ret2
    refine ⟨none, 0, ?_, ?_, ?_, hb1⟩
    · rw [HE.out.1, HE.out.2]; rfl
    · rw [HE.out.1]; simp
    · rw [HE.out.1]; intro h; exact absurd rfl h
  case pos =>
    have h40 := (chkZ_zero h0).1
    have hD := (chkZ_zero h0).2.2.1
    have HE := Lib.hid (And.intro (show splitZ ps = (splitG (normZ ps).length (normZ ps) []).getD [] by unfold splitZ; rw [if_pos h0]) (show splitE ps = if (splitG (normZ ps).length (normZ ps) []).isSome then 0 else 11 by unfold splitE; rw [if_pos h0]))
    have hL3 := hn3 h0
    have hL40 : (normZ ps).length ≤ 40 := Nat.le_trans normZ_len h40
    have HD := Lib.hid (fun p hp => hD p (hmem p hp))
    have H0 := Lib.hid h0
    clear h0 hn3 hmem hD
    go_enter Try.func58, Try.ntmps58
    go_wp2_with fail
    refine (normal32' A n c ps _ hl HS.out hcap).mono ?_
    rintro e w1 ⟨A1, c1, rfl, hc1, hs1, hb1⟩
    rw [H0.out]
    generalize hL : normZ ps = L at *
    have HS1 := Lib.hid hs1
    have HW := Lib.hid hb1
    clear hL hs1 hb1 hc1 H0
    have hne : L ≠ [] := by intro h; simp [h] at hL3
    have hmk := run_make22 L.length (by omega)
    go_upto_region 5 with fail
    have F1 := (Blk.new w1 30 (flat (List.replicate L.length ⟨0, 0⟩)).toArray).later (below_alloc _ (.cells #[.slice (some ⟨w1.heap.size, 0, none⟩) L.length L.length] 22))
    have F2 := Blk.new (w1.alloc (.cells (flat (List.replicate L.length ⟨0, 0⟩)).toArray 30)) 22 #[.slice (some ⟨w1.heap.size, 0, none⟩) L.length L.length]
    have F3 := below_trans (below_alloc w1 (.cells (flat (List.replicate L.length ⟨0, 0⟩)).toArray 30)) (below_alloc _ (.cells #[.slice (some ⟨w1.heap.size, 0, none⟩) L.length L.length] 22))
    have es : (w1.alloc (.cells (flat (List.replicate L.length ⟨0, 0⟩)).toArray 30)).heap.size = w1.heap.size + 1 := by simp
    have es2 : ((w1.alloc (.cells (flat (List.replicate L.length ⟨0, 0⟩)).toArray 30)).alloc (.cells #[.slice (some ⟨w1.heap.size, 0, none⟩) L.length L.length] 22)).heap.size = w1.heap.size + 2 := by simp
    rw [es] at F2
    revert F1 F2 F3 es2
    generalize ((w1.alloc (.cells (flat (List.replicate L.length ⟨0, 0⟩)).toArray 30)).alloc (.cells #[.slice (some ⟨w1.heap.size, 0, none⟩) L.length L.length] 22)) = W2
    intro F1 F2 F3 es2
    clear es hmk
    have hcp := copy_whole (c := c1) hne F1 (HS1.out.later F3)
    have hgD : w.heap.size ≤ w1.heap.size := HW.out.size
    replace HW := Lib.hid (below_trans HW.out F3)
    clear F3 HS1
    generalize hD0 : w1.heap.size = gD at *
    generalize hl0 : gD + 1 = gl at *
    have hv : W2.cell? ⟨gl, 0, none⟩ = some (.slice (some ⟨gD, 0, none⟩) L.length L.length) := by rw [F2.cell]; rfl
    go_upto_region 6 with fail
    clear hcp hv
    have G1 := blk_setRow (flat L).toArray F1
    have G2 := far_setRow (flat L).toArray F2 (show gl ≠ gD by omega)
    have G3 := below_setRow HW.out hgD (flat L).toArray
    have es3 : (W2.setRow gD (flat L).toArray).heap.size = W2.heap.size := by simp
    rw [es2] at es3
    revert G1 G2 G3 es3
    generalize W2.setRow gD (flat L).toArray = W3
    intro G1 G2 G3 es3
    have ES3 := Lib.hid es3
    clear F1 F2 es2 es3 HW
    have hst := store_fn (.func 91) #[] #[.pointer (some ⟨gl, 0, none⟩)]
    go_wp2_with fail
    clear hst
    have B3 := Blk.new W3 81 #[.func (.func 91) #[] #[.pointer (some ⟨gl, 0, none⟩)]]
    have B4 := below_alloc W3 (.cells #[.func (.func 91) #[] #[.pointer (some ⟨gl, 0, none⟩)]] 81)
    replace G1 := G1.later B4; replace G2 := G2.later B4; replace G3 := below_trans G3 B4
    have hgc : gl < W3.heap.size := by have := ES3.out; omega
    revert B3 B4 G1 G2 G3
    generalize W3.alloc (.cells #[.func (.func 91) #[] #[.pointer (some ⟨gl, 0, none⟩)]] 81) = W4
    generalize W3.heap.size = gc at *
    intro B3 B4 G1 G2 G3
    clear B4
    have hgl : gD < gl := by omega
    have HLP := Lib.hid (Lp.mk (wr := W4) (gl := gl) (gc := gc) (gD := gD) (cap := L.length) (l := L) ⟨[], by rw [List.append_nil]; exact G1, by rw [List.append_nil, flat_length]⟩ G2 B3)
    have HW := Lib.hid G3
    have HGG := Lib.hid (And.intro hgD (And.intro hgl hgc))
    clear G1 G2 G3 B3 ES3 hl0 hD0
    generalize hcap0 : L.length = cap at *
    go_loopg [10] cap (fun k v wr => ∃ (l : List Z2) (rs : List (List Z2)), k = l.length ∧ Lp wr gl gc gD cap l ∧ RS wr w.heap.size [gl, gc, gD] v rs ∧ splitG l.length l rs = splitG cap L [] ∧ 3 ≤ l.length ∧ rs.length + l.length ≤ 43 ∧ (∀ p ∈ l, Bd p) ∧ Below w.heap.size w wr)
    case atStart => exact ⟨L, [], hcap0.symm, HLP.out, RS.nil _ _ _, by rw [hcap0], by omega, by simp; omega, HD.out, HW.out⟩
    case round =>
      clear HLP HW
      obtain ⟨l, rs, hk, hLp, hRS, hspl, hl3, hlr, hbd, hB⟩ := hrel
      have HL := Lib.hid hLp; have HR := Lib.hid hRS; have HSP := Lib.hid hspl; have HBD := Lib.hid hbd; have HW := Lib.hid hB
      have hvc : wr.cell? ⟨gl, 0, none⟩ = some (.slice (some ⟨gD, 0, none⟩) l.length cap) := by rw [hLp.var.cell]; rfl
      clear hLp hRS hspl hbd hB
      by_cases hgt : 3 < l.length
      · go_wp2_with fail
        refine (first95s gl gc l _ HL.out.env (by omega) HBD.out).mono ?_
        rintro e w2 ⟨rfl, hb⟩
        replace HL := Lib.hid (HL.out.later hb); replace HR := Lib.hid (HR.out.later hb); replace HW := Lib.hid (below_trans HW.out hb)
        replace hvc := cell_later hb hvc
        clear hb
        rcases firstZ_cases l.length (flatZ l) with ⟨i, hi, he, ht, hno⟩ | ⟨he, hno⟩
        · have HST := Lib.hid (show splitG l.length l rs = splitG (l.eraseIdx i).length (l.eraseIdx i) rs by
            rw [List.length_eraseIdx_of_lt hi]
            obtain ⟨m, hm⟩ : ∃ m, l.length = m + 1 := ⟨l.length - 1, by omega⟩
            have : l.length - 1 = m := by omega
            rw [this, hm]
            simp only [splitG]
            rw [if_neg (by omega), he, if_pos (by omega)]
            simp)
          rw [he]
          clear he ht hno
          go_upto_region 18 with fail
          have HLE := HL.out.le
          have i1 : (0 : Int) ≤ (i : Int) := by omega
          have i2 : (i : Int) ≤ (l.length : Int) := by omega
          have i3 : (i : Int) ≤ (cap : Int) := by omega
          have i4 : i ≠ cap := by omega
          have i5 : (0 : Int) ≤ (i : Int) + 1 := by omega
          have i6 : (i : Int) + 1 ≤ (l.length : Int) := by omega
          have i7 : (i : Int) + 1 ≤ (cap : Int) := by omega
          have s1 : IntKind.i64.wrap ((i : Int) + 1) = (i : Int) + 1 := IntWalk.i64_in _ (by omega)
          have hel : (l.eraseIdx i).length = l.length - 1 := List.length_eraseIdx_of_lt hi
          have HEL := Lib.hid hel
          clear hel
          obtain ⟨hG1, hG2, hG3⟩ := HGG.out
          obtain ⟨rest, hB0, hlen0⟩ := HL.out.data
          obtain ⟨ad, had, rest', hr, hlen'⟩ : ∃ ad : Addr, ((i + 1 = cap → ad = ⟨gD, 0, none⟩) ∧ (i + 1 ≠ cap → ad = ⟨gD, (i + 1) * 2, none⟩)) ∧ ∃ rest', (Builtin.copy_ #[22, 22] 3 #[.slice (some ⟨gD, i * 2, none⟩) (l.length - i) (cap - i), .slice (some ad) (l.length - (i + 1)) (cap - (i + 1))]).run Try.prog w2.drew = .ok (goInt (Nat.min (l.length - (i + 1)) (l.length - i))) (w2.drew.setRow gD (flat (l.eraseIdx i) ++ rest').toArray) ∧ (flat (l.eraseIdx i) ++ rest').length = cap * 2 := by
            by_cases hic : i + 1 = cap
            · obtain ⟨rest', hr⟩ := copy_left (w := w2.drew) hB0 hlen0 hi ⟨gD, 0, none⟩ (fun h => by omega) (cap - i) (cap - (i + 1))
              exact ⟨_, ⟨fun _ => rfl, fun h => absurd hic h⟩, rest', hr⟩
            · obtain ⟨rest', hr⟩ := copy_left (w := w2.drew) hB0 hlen0 hi ⟨gD, (i + 1) * 2, none⟩ (fun h => rfl) (cap - i) (cap - (i + 1))
              exact ⟨_, ⟨fun h => absurd h hic, fun _ => rfl⟩, rest', hr⟩
          have D1 := Lib.hid (And.intro (blk_setRow (w := w2.drew) (flat (l.eraseIdx i) ++ rest').toArray hB0) hlen')
          have D2 := Lib.hid (And.intro (far_setRow (w := w2.drew) (flat (l.eraseIdx i) ++ rest').toArray HL.out.var (show gl ≠ gD by omega)) (far_setRow (w := w2.drew) (flat (l.eraseIdx i) ++ rest').toArray HL.out.cor (show gc ≠ gD by omega)))
          have D3 := Lib.hid (HR.out.keep (w' := w2.drew.setRow gD (flat (l.eraseIdx i) ++ rest').toArray) (by rw [setRow_size]; exact Nat.le_refl _) (fun b _ hb => (setRow_other w2.drew gD b _ (fun e => hb (by rw [e]; simp)))))
          have D4 := Lib.hid (below_setRow (w1 := w2.drew) HW.out.drew hG1 (flat (l.eraseIdx i) ++ rest').toArray)
          clear hlen' hB0 hlen0
          by_cases hic : i + 1 = cap
          · obtain rfl := had.1 hic
            have z1 : l.length - (i + 1) = 0 := by omega
            have z2 : cap - (i + 1) = 0 := by omega
            rw [z1, z2] at hr
            clear z1 z2
            clear had
            go_region
            clear hr
            have hvc2 : (w2.drew.setRow gD (flat (l.eraseIdx i) ++ rest').toArray).cell? ⟨gl, 0, none⟩ = some (.slice (some ⟨gD, 0, none⟩) l.length cap) := by rw [D2.out.1.cell]; rfl
            have hfz := D2.out.1.frozen 0
            have j1 : (0 : Int) ≤ (l.length : Int) - 1 := by omega
            have j2 : (l.length : Int) - 1 ≤ (cap : Int) := by omega
            have j3 : (l.length : Int) - 1 ≤ (l.length : Int) := by omega
            have hnl : ((l.length : Int) - 1).toNat = l.length - 1 := by omega
            clear hic s1 i1 i2 i3 i4 i5 i6 i7
            go_wp2_with fail
            have NX := Lib.hid (lp_next D1.out.1 D1.out.2 D2.out.1 D2.out.2 D3.out D4.out hG1 hG2 hG3)
            rw [HEL.out] at NX
            go_roundg (l.length - 1)
            case measure => omega
            case rel => exact ⟨l.eraseIdx i, rs, HEL.out.symm, NX.out.1, NX.out.2.1, HST.out.symm.trans HSP.out, by rw [HEL.out]; omega, by rw [HEL.out]; (try simp only [List.length_append, List.length_singleton]); omega, mem_erase HBD.out, NX.out.2.2⟩
          · obtain rfl := had.2 hic
            have hic3 : i + 1 ≠ cap := hic
            clear had
            go_region
            clear hr
            have hvc2 : (w2.drew.setRow gD (flat (l.eraseIdx i) ++ rest').toArray).cell? ⟨gl, 0, none⟩ = some (.slice (some ⟨gD, 0, none⟩) l.length cap) := by rw [D2.out.1.cell]; rfl
            have hfz := D2.out.1.frozen 0
            have j1 : (0 : Int) ≤ (l.length : Int) - 1 := by omega
            have j2 : (l.length : Int) - 1 ≤ (cap : Int) := by omega
            have j3 : (l.length : Int) - 1 ≤ (l.length : Int) := by omega
            have hnl : ((l.length : Int) - 1).toNat = l.length - 1 := by omega
            clear hic s1 i1 i2 i3 i4 i5 i6 i7
            go_wp2_with fail
            have NX := Lib.hid (lp_next D1.out.1 D1.out.2 D2.out.1 D2.out.2 D3.out D4.out hG1 hG2 hG3)
            rw [HEL.out] at NX
            go_roundg (l.length - 1)
            case measure => omega
            case rel => exact ⟨l.eraseIdx i, rs, HEL.out.symm, NX.out.1, NX.out.2.1, HST.out.symm.trans HSP.out, by rw [HEL.out]; omega, by rw [HEL.out]; (try simp only [List.length_append, List.length_singleton]); omega, mem_erase HBD.out, NX.out.2.2⟩
        · rw [he]
          have HE1 := Lib.hid he
          clear he hno
          go_wp2_with fail
          refine (first95f gl gc l _ HL.out.env (by omega) HBD.out).mono ?_
          rintro e w3 ⟨rfl, hb⟩
          replace HL := Lib.hid (HL.out.later hb); replace HR := Lib.hid (HR.out.later hb); replace HW := Lib.hid (below_trans HW.out hb)
          replace hvc := cell_later hb hvc
          clear hb
          rcases firstZ_cases l.length (freeZ l) with ⟨i, hi, he, ht, hno⟩ | ⟨he, hno⟩
          · have HST := Lib.hid (show splitG l.length l rs = splitG (l.eraseIdx i).length (l.eraseIdx i) (rs ++ [[cA l i, pt l i, cC l i]]) by
              rw [List.length_eraseIdx_of_lt hi]
              obtain ⟨m, hm⟩ : ∃ m, l.length = m + 1 := ⟨l.length - 1, by omega⟩
              have : l.length - 1 = m := by omega
              have h1 := HE1.out
              rw [this, hm]
              rw [hm] at h1 he
              simp only [splitG]
              rw [if_neg (by omega), hm, h1, if_neg (by omega), he, if_pos (by omega)]
              simp)
            rw [he]
            clear he ht hno HE1
            have hcr : w3.cell? ⟨gc, 0, none⟩ = some (.func (.func 91) #[] #[.pointer (some ⟨gl, 0, none⟩)]) := HL.out.env.corner
            go_wp2_with fail
            refine (corner91 gl l i _ HL.out.env.left hi (by omega)).mono ?_
            rintro e w4 ⟨rfl, hb⟩
            replace HL := Lib.hid (HL.out.later hb); replace HR := Lib.hid (HR.out.later hb); replace HW := Lib.hid (below_trans HW.out hb)
            clear hb hvc hcr
            generalize hta : cA l i = a at *
            generalize htb : pt l i = b at *
            generalize htc : cC l i = d at *
            clear hta htb htc
            go_upto_region 17 with fail
            have F := boxes3 w4 a b d
            revert F
            generalize (((w4.alloc (.cells #[iv a.x, iv a.y] 30)).alloc (.cells #[iv b.x, iv b.y] 30)).alloc (.cells #[iv d.x, iv d.y] 30)) = W5
            rintro ⟨hb, f1, f2, f3, f4, f5, f6⟩
            replace HL := Lib.hid (HL.out.later hb); replace HR := Lib.hid (HR.out.later hb); replace HW := Lib.hid (below_trans HW.out hb)
            clear hb
            obtain ⟨v', w6, hr, hL6, hR6, hW6⟩ := push_new a b d HL.out HR.out HW.out (by omega)
            have HH := Lib.hid hr
            replace HL := Lib.hid hL6; replace HR := Lib.hid hR6; replace HW := Lib.hid hW6
            clear hr hL6 hR6 hW6
            go_upto_region 18 with (at_builtin; refine Lib.wpList_append_run _ (by rfl) _ _ _ _ (by rfl) _ _ (by rfl) (by rfl) _ _ HH.out ?_)
            clear f1 f2 f3 f4 f5 f6
            have hvc : w6.cell? ⟨gl, 0, none⟩ = some (.slice (some ⟨gD, 0, none⟩) l.length cap) := by rw [HL.out.var.cell]; rfl
            have HLE := HL.out.le
            have i1 : (0 : Int) ≤ (i : Int) := by omega
            have i2 : (i : Int) ≤ (l.length : Int) := by omega
            have i3 : (i : Int) ≤ (cap : Int) := by omega
            have i4 : i ≠ cap := by omega
            have i5 : (0 : Int) ≤ (i : Int) + 1 := by omega
            have i6 : (i : Int) + 1 ≤ (l.length : Int) := by omega
            have i7 : (i : Int) + 1 ≤ (cap : Int) := by omega
            have s1 : IntKind.i64.wrap ((i : Int) + 1) = (i : Int) + 1 := IntWalk.i64_in _ (by omega)
            have hel : (l.eraseIdx i).length = l.length - 1 := List.length_eraseIdx_of_lt hi
            have HEL := Lib.hid hel
            clear hel
            obtain ⟨hG1, hG2, hG3⟩ := HGG.out
            obtain ⟨rest, hB0, hlen0⟩ := HL.out.data
            obtain ⟨ad, had, rest', hr, hlen'⟩ : ∃ ad : Addr, ((i + 1 = cap → ad = ⟨gD, 0, none⟩) ∧ (i + 1 ≠ cap → ad = ⟨gD, (i + 1) * 2, none⟩)) ∧ ∃ rest', (Builtin.copy_ #[22, 22] 3 #[.slice (some ⟨gD, i * 2, none⟩) (l.length - i) (cap - i), .slice (some ad) (l.length - (i + 1)) (cap - (i + 1))]).run Try.prog w6.drew = .ok (goInt (Nat.min (l.length - (i + 1)) (l.length - i))) (w6.drew.setRow gD (flat (l.eraseIdx i) ++ rest').toArray) ∧ (flat (l.eraseIdx i) ++ rest').length = cap * 2 := by
              by_cases hic : i + 1 = cap
              · obtain ⟨rest', hr⟩ := copy_left (w := w6.drew) hB0 hlen0 hi ⟨gD, 0, none⟩ (fun h => by omega) (cap - i) (cap - (i + 1))
                exact ⟨_, ⟨fun _ => rfl, fun h => absurd hic h⟩, rest', hr⟩
              · obtain ⟨rest', hr⟩ := copy_left (w := w6.drew) hB0 hlen0 hi ⟨gD, (i + 1) * 2, none⟩ (fun h => rfl) (cap - i) (cap - (i + 1))
                exact ⟨_, ⟨fun h => absurd h hic, fun _ => rfl⟩, rest', hr⟩
            have D1 := Lib.hid (And.intro (blk_setRow (w := w6.drew) (flat (l.eraseIdx i) ++ rest').toArray hB0) hlen')
            have D2 := Lib.hid (And.intro (far_setRow (w := w6.drew) (flat (l.eraseIdx i) ++ rest').toArray HL.out.var (show gl ≠ gD by omega)) (far_setRow (w := w6.drew) (flat (l.eraseIdx i) ++ rest').toArray HL.out.cor (show gc ≠ gD by omega)))
            have D3 := Lib.hid (HR.out.keep (w' := w6.drew.setRow gD (flat (l.eraseIdx i) ++ rest').toArray) (by rw [setRow_size]; exact Nat.le_refl _) (fun b _ hb => (setRow_other w6.drew gD b _ (fun e => hb (by rw [e]; simp)))))
            have D4 := Lib.hid (below_setRow (w1 := w6.drew) HW.out.drew hG1 (flat (l.eraseIdx i) ++ rest').toArray)
            clear hlen' hB0 hlen0
            by_cases hic : i + 1 = cap
            · obtain rfl := had.1 hic
              have z1 : l.length - (i + 1) = 0 := by omega
              have z2 : cap - (i + 1) = 0 := by omega
              rw [z1, z2] at hr
              clear z1 z2
              clear had
              go_region
              clear hr
              have hvc2 : (w6.drew.setRow gD (flat (l.eraseIdx i) ++ rest').toArray).cell? ⟨gl, 0, none⟩ = some (.slice (some ⟨gD, 0, none⟩) l.length cap) := by rw [D2.out.1.cell]; rfl
              have hfz := D2.out.1.frozen 0
              have j1 : (0 : Int) ≤ (l.length : Int) - 1 := by omega
              have j2 : (l.length : Int) - 1 ≤ (cap : Int) := by omega
              have j3 : (l.length : Int) - 1 ≤ (l.length : Int) := by omega
              have hnl : ((l.length : Int) - 1).toNat = l.length - 1 := by omega
              clear hic s1 i1 i2 i3 i4 i5 i6 i7
              go_wp2_with fail
              have NX := Lib.hid (lp_next D1.out.1 D1.out.2 D2.out.1 D2.out.2 D3.out D4.out hG1 hG2 hG3)
              rw [HEL.out] at NX
              go_roundg (l.length - 1)
              case measure => omega
              case rel => exact ⟨l.eraseIdx i, rs ++ [[a, b, d]], HEL.out.symm, NX.out.1, NX.out.2.1, HST.out.symm.trans HSP.out, by rw [HEL.out]; omega, by rw [HEL.out]; (try simp only [List.length_append, List.length_singleton]); omega, mem_erase HBD.out, NX.out.2.2⟩
            · obtain rfl := had.2 hic
              have hic3 : i + 1 ≠ cap := hic
              clear had
              go_region
              clear hr
              have hvc2 : (w6.drew.setRow gD (flat (l.eraseIdx i) ++ rest').toArray).cell? ⟨gl, 0, none⟩ = some (.slice (some ⟨gD, 0, none⟩) l.length cap) := by rw [D2.out.1.cell]; rfl
              have hfz := D2.out.1.frozen 0
              have j1 : (0 : Int) ≤ (l.length : Int) - 1 := by omega
              have j2 : (l.length : Int) - 1 ≤ (cap : Int) := by omega
              have j3 : (l.length : Int) - 1 ≤ (l.length : Int) := by omega
              have hnl : ((l.length : Int) - 1).toNat = l.length - 1 := by omega
              clear hic s1 i1 i2 i3 i4 i5 i6 i7
              go_wp2_with fail
              have NX := Lib.hid (lp_next D1.out.1 D1.out.2 D2.out.1 D2.out.2 D3.out D4.out hG1 hG2 hG3)
              rw [HEL.out] at NX
              go_roundg (l.length - 1)
              case measure => omega
              case rel => exact ⟨l.eraseIdx i, rs ++ [[a, b, d]], HEL.out.symm, NX.out.1, NX.out.2.1, HST.out.symm.trans HSP.out, by rw [HEL.out]; omega, by rw [HEL.out]; (try simp only [List.length_append, List.length_singleton]); omega, mem_erase HBD.out, NX.out.2.2⟩
          · rw [he]
            have HNO := Lib.hid (show splitG cap L [] = none by
              rw [← HSP.out]
              obtain ⟨m, hm⟩ : ∃ m, l.length = m + 1 := ⟨l.length - 1, by omega⟩
              have h1 := HE1.out
              rw [hm] at h1 he
              rw [hm]
              simp only [splitG]
              rw [if_neg (by omega), hm, h1, if_neg (by omega), he, if_neg (by omega)])
            clear he hno HE1
            go_wp2
            go_ret2
            refine ⟨none, 0, ?_, ?_, ?_, HW.out⟩
            · rw [HE.out.1, HE.out.2, HNO.out]; rfl
            · rw [HE.out.1, HNO.out]; simp
            · rw [HE.out.1, HNO.out]; intro h; exact absurd rfl h
      · have HNO := Lib.hid (show splitG cap L [] = some (rs ++ [l]) by rw [← HSP.out]; exact splitG_end (by omega))
        obtain ⟨A', c', w6, hr, hs6, hc6, hW6⟩ := push_last HL.out HR.out HW.out (by omega)
        have HH := Lib.hid hr
        have H6 := Lib.hid (And.intro hs6 (And.intro hc6 hW6))
        clear hr hs6 hc6 hW6
        go_wp2_with (at_builtin; refine Lib.wpList_append_run _ (by rfl) _ _ _ _ (by rfl) _ _ (by rfl) (by rfl) _ _ HH.out ?_)
        go_ret2
        refine ⟨A', c', ?_, ?_, ?_, H6.out.2.2⟩
        · have e : ((some (rs ++ [l])).getD []).length = rs.length + 1 := by simp
          rw [HE.out.1, HE.out.2, HNO.out, e]; rfl
        · rw [HE.out.1, HNO.out]; exact H6.out.2.1
        · rw [HE.out.1, HNO.out]; exact H6.out.1
end Go.Proofs.Ytfgeengdmbabhaa
