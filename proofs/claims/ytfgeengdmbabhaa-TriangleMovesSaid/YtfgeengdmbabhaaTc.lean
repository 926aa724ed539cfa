import Derived.Test.YtfgeengdmbabhaaTb
import Derived.Laws.CopyRow
import Derived.Deep.LoopGhost
namespace Go.Proofs.Ytfgeengdmbabhaa
open Go.RowKit
attribute [local go_sem ↓] Go.wp_at_zero Go.wp_at_succ

theorem Try.info22 : (Try.prog.info? 22).map (fun i => (i.zero, i.size, i.bytes)) = some (some (.slice none 0 0), 1, 24) := by kernel_rfl

/-- copy of spots into a block of the call's own -/
theorem run_copy_sp (w : World) (g o dLen dCap : Nat) (a : Addr) (sLen sCap : Nat) (cur : Array Value) (cs : List Value) (hg : Blk w g 30 cur) (hn : cs.length = Nat.min sLen dLen * 2)
    (hsrc : ∀ j v, cs[j]? = some v → w.cell? (a.add j) = some v) (hfit : o + cs.length ≤ cur.size) (h1 : ∀ v ∈ cs, v.oneCell' = true) :
    (Builtin.copy_ #[22, 22] 3 #[.slice (some ⟨g, o, none⟩) dLen dCap, .slice (some a) sLen sCap]).run Try.prog w =
      .ok (goInt (Nat.min sLen dLen)) (w.setRow g (cur.toList.take o ++ cs ++ cur.toList.drop (o + cs.length)).toArray) := by
  obtain ⟨i0, hi, hz0, hz1, hz2⟩ := info_parts Try.info30
  have hl := run_loadCells_list (P := Try.prog) w a cs hsrc
  have hst := run_storeCells_at Try.prog g o 30 cs 0 cur w hg (by simpa using hfit) h1
  simp [Builtin.copy_, run_underlying Try.underlying22, Builtin.lenOf, Builtin.firstCells, sizeOf, typeInfo, hi, hz1, ← hn, hl, hst]

theorem blk_setRow {w : World} {g : Nat} {t : TypeId} {cur : Array Value} (cur' : Array Value) (h : Blk w g t cur) : Blk (w.setRow g cur') g t cur' := setRow_heap w g cur cur' t _ h
theorem far_setRow {w : World} {g k : Nat} {t : TypeId} {cur : Array Value} (cur' : Array Value) (h : Blk w k t cur) (hk : k ≠ g) : Blk (w.setRow g cur') k t cur := (setRow_other w g k cur' hk).trans h

/-- append of one slice onto a row of slices of the call's own -/
theorem append55 (w : World) (base : Nat) (v : Value) (n : Nat) (vs : List Value) (x : Value) (b1 : Nat) (hown : w.ownsRow base 22 1 v n vs) (hb : w.cell? ⟨b1, 0, none⟩ = some x) (hx : x.oneCell' = true) (hn : n ≤ 100000) (hbase : base ≤ w.heap.size) :
    ∃ v' w', (Builtin.append_ #[55, 55] 55 #[v, .slice (some ⟨b1, 0, none⟩) 1 1]).run Try.prog w = .ok v' w' ∧ w'.ownsRow base 22 1 v' (n + 1) (vs ++ [x]) ∧ w.grownBy w' v.ownBlock ∧ (v'.ownBlock = v.ownBlock ∨ v'.ownBlock = some w.heap.size) := by
  obtain ⟨i0, hi, hz0, hz1, hz2⟩ := info_parts Try.info22
  obtain ⟨v', w', h1, h2, h3, _, h5⟩ := run_append_own_at (P := Try.prog) w base 55 55 22 i0 _ 1 24 Try.underlying55 hi hz0 hz1 hz2 rfl (by omega) v n vs hown ⟨b1, 0, none⟩ 1 1 [x] rfl
    (fun j u hu => by
      cases j with
      | zero => simp at hu; subst hu; rw [add_plain]; exact hb
      | succ j => simp at hu) (fun u hu => by simp at hu; subst hu; exact hx) (by unfold maxLen; omega) (by omega) hbase
  exact ⟨v', w', h1, h2, h3, h5⟩

/-- a slice of slices that reads as a list of lists -/
def SSp (w : World) (A : Option Addr) (rs : List (List Z2)) : Prop :=
  rs ≠ [] → ∃ b off, A = some ⟨b, off, none⟩ ∧ ∀ k, k < rs.length → ∃ A' c', w.cell? ⟨b, off + k, none⟩ = some (.slice A' (rs.getD k []).length c') ∧ (rs.getD k []).length ≤ c' ∧ Sp w A' (rs.getD k [])
theorem SSp.later {w w' : World} {A : Option Addr} {rs : List (List Z2)} (h : SSp w A rs) (hb : Below w.heap.size w w') : SSp w' A rs := fun hne => by
  obtain ⟨b, off, hA, hc⟩ := h hne
  refine ⟨b, off, hA, fun k hk => ?_⟩
  obtain ⟨A', c', h1, h2, h3⟩ := hc k hk
  exact ⟨A', c', cell_later hb h1, h2, h3.later hb⟩

/-- the row of triangles that has been made so far -/
def RS (w : World) (base : Nat) (bad : List Nat) (v : Value) (rs : List (List Z2)) : Prop :=
  ∃ vs : List Value, w.ownsRow base 22 1 v rs.length vs ∧ (∀ b, v.ownBlock = some b → b ∉ bad) ∧
    ∀ k, k < rs.length → ∃ b c, vs[k]? = some (.slice (some ⟨b, 0, none⟩) (rs.getD k []).length c) ∧ (rs.getD k []).length ≤ c ∧ b ∉ bad ∧ some b ≠ v.ownBlock ∧ Sp w (some ⟨b, 0, none⟩) (rs.getD k []) ∧ b < w.heap.size
theorem RS.nil (w : World) (base : Nat) (bad : List Nat) : RS w base bad (.slice none 0 0) [] :=
  ⟨[], World.ownsRow_nil w base 22 1, fun b hb => by simp [Value.ownBlock] at hb, fun k hk => by simp at hk⟩
/-- blocks that stay -/
theorem sp_of_block {w w' : World} {b off : Nat} {l : List Z2} (h : Sp w (some ⟨b, off, none⟩) l) (hb : w'.heap[b]? = w.heap[b]?) : Sp w' (some ⟨b, off, none⟩) l := fun hne => by
  obtain ⟨b', off', hA, hc⟩ := h hne
  injection hA with hA; injection hA with h1 h2
  subst h1 h2
  exact ⟨b, off, rfl, fun k hk => ⟨(World.cell?_of_block (a := ⟨b, off + k * 2, none⟩) hb).trans (hc k hk).1, (World.cell?_of_block (a := ⟨b, off + k * 2 + 1, none⟩) hb).trans (hc k hk).2⟩⟩
theorem RS.keep {w w' : World} {base : Nat} {bad : List Nat} {v : Value} {rs : List (List Z2)} (h : RS w base bad v rs) (hs : w.heap.size ≤ w'.heap.size) (hk : ∀ b, b < w.heap.size → b ∉ bad → w'.heap[b]? = w.heap[b]?) : RS w' base bad v rs := by
  obtain ⟨vs, h1, h2, h3⟩ := h
  refine ⟨vs, ⟨h1.1, ?_⟩, h2, fun k hk' => ?_⟩
  · rcases h1.2 with h | ⟨g, cap, cur, rfl, hb, hg, hr⟩
    · exact .inl h
    · have hB : Blk w g 22 cur := hg
      exact .inr ⟨g, cap, cur, rfl, hb, (hk g hB.lt (h2 g rfl)).trans hg, hr⟩
  · obtain ⟨b, c, a1, a2, a3, a4, a5, a6⟩ := h3 k hk'
    exact ⟨b, c, a1, a2, a3, a4, sp_of_block a5 (hk b a6 a3), by omega⟩
theorem RS.later {w w' : World} {base : Nat} {bad : List Nat} {v : Value} {rs : List (List Z2)} (h : RS w base bad v rs) (hb : Below w.heap.size w w') : RS w' base bad v rs :=
  h.keep hb.size fun b hlt _ => hb.block b hlt
theorem getD_append_one {α : Type} (l : List α) (x d : α) (k : Nat) (hk : k < (l ++ [x]).length) : (l ++ [x]).getD k d = if k < l.length then l.getD k d else x := by
  by_cases h : k < l.length
  · rw [if_pos h]; simp [List.getD_eq_getElem?_getD, List.getElem?_append_left h]
  · have e : k = l.length := by simp at hk; omega
    subst e
    rw [if_neg h]; simp [List.getD_eq_getElem?_getD]
/-- one triangle more -/
theorem RS.push {w : World} {base : Nat} {bad : List Nat} {v : Value} {rs : List (List Z2)} (h : RS w base bad v rs) (t : List Z2) (b0 c0 b1 : Nat) (hc0 : t.length ≤ c0) (hb0 : b0 ∉ bad) (hb0v : some b0 ≠ v.ownBlock) (ht : Sp w (some ⟨b0, 0, none⟩) t) (hlt : b0 < w.heap.size)
    (hb1 : w.cell? ⟨b1, 0, none⟩ = some (.slice (some ⟨b0, 0, none⟩) t.length c0)) (hn : rs.length ≤ 100000) (hbase : base ≤ w.heap.size) (hbad : ∀ b ∈ bad, b < w.heap.size) :
    ∃ v' w', (Builtin.append_ #[55, 55] 55 #[v, .slice (some ⟨b1, 0, none⟩) 1 1]).run Try.prog w = .ok v' w' ∧ RS w' base bad v' (rs ++ [t]) ∧ w.grownBy w' v.ownBlock := by
  obtain ⟨vs, h1, h2, h3⟩ := h
  obtain ⟨v', w', g1, g2, g3, g4⟩ := append55 w base v rs.length vs _ b1 h1 hb1 rfl hn hbase
  have hvl : vs.length = rs.length := by have := h1.1; omega
  refine ⟨v', w', g1, ⟨_, by rw [List.length_append, List.length_singleton]; exact g2, fun b hb hbb => ?_, fun k hk => ?_⟩, g3⟩
  · rcases g4 with e | e
    · rw [e] at hb; exact h2 b hb hbb
    · rw [e] at hb; injection hb with hb; have := hbad b hbb; omega
  · have ne : ∀ b, b < w.heap.size → some b ≠ v.ownBlock → some b ≠ v'.ownBlock := fun b hlt hne => by
      rcases g4 with e | e
      · rw [e]; exact hne
      · rw [e]; intro h; injection h with h; omega
    rw [getD_append_one _ _ _ _ hk]
    by_cases hk' : k < rs.length
    · rw [if_pos hk']
      obtain ⟨b, c, a1, a2, a3, a4, a5, a6⟩ := h3 k hk'
      exact ⟨b, c, by rw [List.getElem?_append_left (by omega)]; exact a1, a2, a3, ne b a6 a4, sp_of_block a5 (g3.block b a6 a4), Nat.lt_of_lt_of_le a6 g3.size⟩
    · rw [if_neg hk']
      have e : k = rs.length := by simp at hk; omega
      subst e
      exact ⟨b0, c0, by rw [List.getElem?_append_right (by omega), hvl]; simp, hc0, hb0, ne b0 hlt hb0v, sp_of_block ht (g3.block b0 hlt hb0v), Nat.lt_of_lt_of_le hlt g3.size⟩
/-- the last triangle -/
theorem RS.last {w : World} {base : Nat} {bad : List Nat} {v : Value} {rs : List (List Z2)} (h : RS w base bad v rs) (t : List Z2) (b0 c0 b1 : Nat) (hc0 : t.length ≤ c0) (hb0v : some b0 ≠ v.ownBlock) (ht : Sp w (some ⟨b0, 0, none⟩) t) (hlt : b0 < w.heap.size)
    (hb1 : w.cell? ⟨b1, 0, none⟩ = some (.slice (some ⟨b0, 0, none⟩) t.length c0)) (hn : rs.length ≤ 100000) (hbase : base ≤ w.heap.size) :
    ∃ A c w', (Builtin.append_ #[55, 55] 55 #[v, .slice (some ⟨b1, 0, none⟩) 1 1]).run Try.prog w = .ok (.slice A (rs ++ [t]).length c) w' ∧ SSp w' A (rs ++ [t]) ∧ w.grownBy w' v.ownBlock ∧ (rs ++ [t]).length ≤ c := by
  obtain ⟨vs, h1, h2, h3⟩ := h
  obtain ⟨v', w', g1, g2, g3, g4⟩ := append55 w base v rs.length vs _ b1 h1 hb1 rfl hn hbase
  have hvl : vs.length = rs.length := by have := h1.1; omega
  rcases g2.2 with ⟨_, hz⟩ | ⟨g, cap, cur, rfl, hb, hg, hnc, _, _, htake⟩
  · omega
  · refine ⟨_, cap, w', by rw [List.length_append, List.length_singleton]; exact g1, fun _ => ⟨g, 0, rfl, fun k hk => ?_⟩, g3, by rw [List.length_append, List.length_singleton]; exact hnc⟩
    have hB : Blk w' g 22 cur := hg
    have hcell : w'.cell? ⟨g, 0 + k, none⟩ = (vs ++ [.slice (some ⟨b0, 0, none⟩) t.length c0])[k]? := by
      rw [Nat.zero_add, hB.cell, ← htake, List.getElem?_take, if_pos (by simp at hk; omega)]
      simp
    rw [hcell, getD_append_one _ _ _ _ hk]
    by_cases hk' : k < rs.length
    · rw [if_pos hk']
      obtain ⟨b, c, a1, a2, a3, a4, a5, a6⟩ := h3 k hk'
      exact ⟨_, c, by rw [List.getElem?_append_left (by omega)]; exact a1, a2, sp_of_block a5 (g3.block b a6 a4)⟩
    · rw [if_neg hk']
      have e : k = rs.length := by simp at hk; omega
      subst e
      exact ⟨_, c0, by rw [List.getElem?_append_right (by omega), hvl]; simp, hc0, sp_of_block ht (g3.block b0 hlt hb0v)⟩

/-- the loop of Split -/
def splitG : Nat → List Z2 → List (List Z2) → Option (List (List Z2))
  | 0, l, r => some (r ++ [l])
  | fuel + 1, l, r =>
    if l.length ≤ 3 then some (r ++ [l])
    else if 0 ≤ firstZ l.length (flatZ l) then splitG fuel (l.eraseIdx (firstZ l.length (flatZ l)).toNat) r
    else if 0 ≤ firstZ l.length (freeZ l) then splitG fuel (l.eraseIdx (firstZ l.length (freeZ l)).toNat) (r ++ [[cA l (firstZ l.length (freeZ l)).toNat, pt l (firstZ l.length (freeZ l)).toNat, cC l (firstZ l.length (freeZ l)).toNat]])
    else none
/-- what Split returns -/
def splitZ (ps : List Z2) : List (List Z2) := if chkZ ps = 0 then (splitG (normZ ps).length (normZ ps) []).getD [] else []
def splitE (ps : List Z2) : Int := if chkZ ps = 0 then (if (splitG (normZ ps).length (normZ ps) []).isSome then 0 else 11) else chkZ ps
def RetSS (rs : List (List Z2)) (n : Int) (w : World) (e : Ending) (w' : World) : Prop := ∃ A c, e = .returned (.tuple #[.slice A rs.length c, iv n]) ∧ rs.length ≤ c ∧ SSp w' A rs ∧ Below w.heap.size w w'

theorem firstZ_cases (n : Nat) (f : Nat → Bool) : (∃ i, i < n ∧ firstZ n f = i ∧ f i = true ∧ ∀ j, j < i → f j = false) ∨ (firstZ n f = -1 ∧ ∀ j, j < n → f j = false) := by
  unfold firstZ
  cases h : (List.range n).find? f with
  | none =>
    right
    refine ⟨rfl, fun j hj => ?_⟩
    have := List.find?_eq_none.1 h j (by simpa using hj)
    simpa using this
  | some i =>
    left
    rw [List.find?_range_eq_some] at h
    exact ⟨i, by simpa using h.2.1, rfl, h.1, fun j hj => by have := h.2.2 j hj; simpa using this⟩

/-- the state of the loop -/
structure Lp (wr : World) (gl gc gD cap : Nat) (l : List Z2) : Prop where
  data : ∃ rest, Blk wr gD 30 (flat l ++ rest).toArray ∧ (flat l ++ rest).length = cap * 2
  var : Blk wr gl 22 #[.slice (some ⟨gD, 0, none⟩) l.length cap]
  cor : Blk wr gc 81 #[.func (.func 91) #[] #[.pointer (some ⟨gl, 0, none⟩)]]
theorem Lp.later {w w' : World} {gl gc gD cap : Nat} {l : List Z2} (h : Lp w gl gc gD cap l) (hb : Below w.heap.size w w') : Lp w' gl gc gD cap l := by
  obtain ⟨⟨rest, h1, h2⟩, h3, h4⟩ := h
  exact ⟨⟨rest, h1.later hb, h2⟩, h3.later hb, h4.later hb⟩
theorem Lp.le {w : World} {gl gc gD cap : Nat} {l : List Z2} (h : Lp w gl gc gD cap l) : l.length ≤ cap := by
  obtain ⟨⟨rest, h1, h2⟩, _, _⟩ := h
  rw [List.length_append, flat_length] at h2; omega
theorem Lp.sp {w : World} {gl gc gD cap : Nat} {l : List Z2} (h : Lp w gl gc gD cap l) : Sp w (some ⟨gD, 0, none⟩) l := by
  obtain ⟨⟨rest, h1, h2⟩, _, _⟩ := h
  exact Blk.spApp h1
theorem Lp.env {w : World} {gl gc gD cap : Nat} {l : List Z2} (h : Lp w gl gc gD cap l) : Env w gl gc l := by
  refine ⟨⟨some ⟨gD, 0, none⟩, cap, ?_, h.sp, h.le⟩, ?_⟩
  · rw [h.var.cell]; rfl
  · rw [h.cor.cell]; rfl

theorem flat_take (l : List Z2) (k : Nat) : flat (l.take k) = (flat l).take (k * 2) := by
  induction l generalizing k with
  | nil => simp [flat]
  | cons p l ih =>
    cases k with
    | zero => simp [flat]
    | succ k =>
      have e : (k + 1) * 2 = k * 2 + 1 + 1 := by omega
      simp only [List.take_succ_cons, flat]
      rw [ih, e, List.take_succ_cons, List.take_succ_cons]
theorem flat_drop (l : List Z2) (k : Nat) : flat (l.drop k) = (flat l).drop (k * 2) := by
  induction l generalizing k with
  | nil => simp [flat]
  | cons p l ih =>
    cases k with
    | zero => simp [flat]
    | succ k =>
      have e : (k + 1) * 2 = k * 2 + 1 + 1 := by omega
      simp only [List.drop_succ_cons, flat]
      rw [ih, e, List.drop_succ_cons, List.drop_succ_cons]

/-- copy(left[i:], left[i+1:]) -/
theorem copy_left {w : World} {gD cap i : Nat} {l : List Z2} {rest : List Value} (hB : Blk w gD 30 (flat l ++ rest).toArray) (hlen : (flat l ++ rest).length = cap * 2) (hi : i < l.length) (a : Addr) (ha : i + 1 < l.length → a = ⟨gD, (i + 1) * 2, none⟩) (dc sc : Nat) :
    ∃ rest', (Builtin.copy_ #[22, 22] 3 #[.slice (some ⟨gD, i * 2, none⟩) (l.length - i) dc, .slice (some a) (l.length - (i + 1)) sc]).run Try.prog w = .ok (goInt (Nat.min (l.length - (i + 1)) (l.length - i))) (w.setRow gD (flat (l.eraseIdx i) ++ rest').toArray)
      ∧ (flat (l.eraseIdx i) ++ rest').length = cap * 2 := by
  have hfl := flat_length l
  have hm : Nat.min (l.length - (i + 1)) (l.length - i) = l.length - (i + 1) := Nat.min_eq_left (by omega)
  have hfd := flat_length (l.drop (i + 1))
  rw [List.length_drop] at hfd
  have hcl : cap * 2 = l.length * 2 + rest.length := by rw [← hlen, List.length_append, hfl]
  have hr := run_copy_sp w gD (i * 2) (l.length - i) dc a (l.length - (i + 1)) sc _ (flat (l.drop (i + 1))) hB (by rw [hm, hfd])
    (fun j v hv => by
      have hj := (List.getElem?_eq_some_iff.1 hv).1
      rw [hfd] at hj
      rw [ha (by omega), add_plain, hB.cell]
      rw [flat_drop, List.getElem?_drop] at hv
      simp only [List.getElem?_toArray]
      rw [List.getElem?_append_left (by rw [hfl]; omega)]
      exact hv) (by simp [hfd, hfl]; omega) (flat_one _)
  refine ⟨(flat l ++ rest).drop (i * 2 + (flat (l.drop (i + 1))).length), ?_, ?_⟩
  · rw [hr]
    congr 3
    have e : l.eraseIdx i = l.take i ++ l.drop (i + 1) := List.eraseIdx_eq_take_drop_succ l i
    rw [e, flat_append, flat_take]
    simp only [List.append_assoc]
    rw [List.take_append_of_le_length (by rw [hfl]; omega)]
  · rw [List.length_append, flat_length, List.length_drop, hlen, hfd, List.length_eraseIdx_of_lt hi]; omega
end Go.Proofs.Ytfgeengdmbabhaa
