/- Plain lists: the sides of a closed list, their sums, rotations and reversals. -/
namespace Geo
section
variable {α : Type}
/-- consecutive pairs -/
def chain : List α → List (α × α)
  | [] => []
  | [_] => []
  | a :: b :: l => (a, b) :: chain (b :: l)
/-- the sides of a closed list -/
def edges : List α → List (α × α)
  | [] => []
  | x :: xs => chain (x :: xs ++ [x])

theorem chain_append (l : List α) (x : α) (m : List α) : chain (l ++ x :: m) = chain (l ++ [x]) ++ chain (x :: m) := by
  induction l with
  | nil => simp [chain]
  | cons a l ih =>
    cases l with
    | nil => simp [chain]
    | cons b l => simp only [List.cons_append, chain] at ih ⊢; rw [ih]
theorem edges_rot1 (ys : List α) (x : α) : (edges (ys ++ [x])).Perm (edges (x :: ys)) := by
  cases ys with
  | nil => exact .refl _
  | cons y ys =>
    show (chain (y :: ys ++ [x] ++ [y])).Perm (chain (x :: y :: ys ++ [x]))
    have e1 : chain (y :: ys ++ [x] ++ [y]) = chain (y :: ys ++ [x]) ++ [(x, y)] := by
      have := chain_append (y :: ys) x [y]
      rw [List.append_assoc]
      simpa [chain] using this
    have e2 : chain (x :: y :: ys ++ [x]) = (x, y) :: chain (y :: ys ++ [x]) := rfl
    rw [e1, e2]
    exact List.perm_append_comm
theorem edges_rot (l m : List α) : (edges (l ++ m)).Perm (edges (m ++ l)) := by
  induction m generalizing l with
  | nil => simp
  | cons x m ih =>
    have h1 := ih (l ++ [x])
    rw [List.append_assoc] at h1
    have h2 := edges_rot1 (m ++ l) x
    rw [List.append_assoc] at h2
    exact h1.trans h2
theorem chain_reverse (l : List α) : chain l.reverse = ((chain l).map Prod.swap).reverse := by
  induction l with
  | nil => rfl
  | cons a l ih =>
    cases l with
    | nil => rfl
    | cons b l =>
      have := chain_append l.reverse b [a]
      simp only [List.reverse_cons, List.append_assoc, List.cons_append, List.nil_append] at ih ⊢
      rw [this, ih]
      simp [chain]
theorem edges_reverse (l : List α) : (edges l.reverse).Perm ((edges l).map Prod.swap) := by
  cases l with
  | nil => exact .refl _
  | cons x xs =>
    rw [List.reverse_cons]
    refine (edges_rot1 xs.reverse x).trans ?_
    have e : x :: xs.reverse ++ [x] = (x :: xs ++ [x]).reverse := by simp
    show (chain (x :: xs.reverse ++ [x])).Perm _
    rw [e, chain_reverse]
    exact List.reverse_perm _
theorem chain_map {β : Type} (f : α → β) (l : List α) : chain (l.map f) = (chain l).map (Prod.map f f) := by
  induction l with
  | nil => rfl
  | cons a l ih =>
    cases l with
    | nil => rfl
    | cons b l => simp only [List.map_cons, chain] at ih ⊢; rw [ih]; rfl
theorem edges_map {β : Type} (f : α → β) (l : List α) : edges (l.map f) = (edges l).map (Prod.map f f) := by
  cases l with
  | nil => rfl
  | cons x xs =>
    show chain (f x :: xs.map f ++ [f x]) = (chain (x :: xs ++ [x])).map _
    rw [← chain_map]; simp
theorem chain_length (l : List α) : (chain l).length = l.length - 1 := by
  induction l with
  | nil => rfl
  | cons a l ih =>
    cases l with
    | nil => rfl
    | cons b l => simp only [chain, List.length_cons] at ih ⊢; omega
theorem chain_getElem (l : List α) (i : Nat) (h : i < (chain l).length) : (chain l)[i] = (l[i]'(by have := chain_length l; omega), l[i + 1]'(by have := chain_length l; omega)) := by
  induction l generalizing i with
  | nil => simp [chain] at h
  | cons a l ih =>
    cases l with
    | nil => simp [chain] at h
    | cons b l =>
      cases i with
      | zero => rfl
      | succ i =>
        simp only [chain, List.getElem_cons_succ]
        exact ih i (by simpa [chain] using h)
theorem edges_length (l : List α) : (edges l).length = l.length := by
  cases l with
  | nil => rfl
  | cons x xs => show (chain (x :: xs ++ [x])).length = _; rw [chain_length]; simp
/-- the sides by their numbers -/
theorem edges_getElem (l : List α) (i : Nat) (h : i < l.length) : (edges l)[i]'(by rw [edges_length]; exact h) = (l[i], l[(i + 1) % l.length]'(Nat.mod_lt _ (by omega))) := by
  cases l with
  | nil => simp at h
  | cons x xs =>
    have hc := chain_getElem (x :: xs ++ [x]) i (by rw [chain_length]; simp at h ⊢; omega)
    have e : (edges (x :: xs)) = chain (x :: xs ++ [x]) := rfl
    simp only [e, hc]
    have e1 : (x :: xs ++ [x])[i]'(by simp at h ⊢; omega) = (x :: xs)[i] := List.getElem_append_left h
    rw [e1]
    by_cases hi : i + 1 < (x :: xs).length
    · have e2 : (x :: xs ++ [x])[i + 1]'(by simp at hi ⊢; omega) = (x :: xs)[i + 1] := List.getElem_append_left hi
      rw [e2]
      simp only [Nat.mod_eq_of_lt hi]
    · have hi' : i + 1 = (x :: xs).length := by simp at h hi ⊢; omega
      have e2 : (x :: xs ++ [x])[i + 1]'(by simp at h ⊢; omega) = x := by
        rw [List.getElem_append_right (by omega)]; simp
      rw [e2]
      have e3 : (i + 1) % (x :: xs).length = 0 := by rw [hi']; exact Nat.mod_self _
      simp only [e3]
      rfl
theorem mem_edges {l : List α} {e : α × α} : e ∈ edges l ↔ ∃ i, ∃ h : i < l.length, e = (l[i], l[(i + 1) % l.length]'(Nat.mod_lt _ (by omega))) := by
  constructor
  · intro he
    obtain ⟨i, hi, rfl⟩ := List.getElem_of_mem he
    rw [edges_length] at hi
    exact ⟨i, hi, edges_getElem l i hi⟩
  · rintro ⟨i, hi, rfl⟩
    rw [← edges_getElem l i hi]
    exact List.getElem_mem _
theorem edges_fst_mem {l : List α} {e : α × α} (h : e ∈ edges l) : e.1 ∈ l := by
  obtain ⟨i, hi, rfl⟩ := mem_edges.1 h; exact List.getElem_mem _
theorem edges_snd_mem {l : List α} {e : α × α} (h : e ∈ edges l) : e.2 ∈ l := by
  obtain ⟨i, hi, rfl⟩ := mem_edges.1 h; exact List.getElem_mem _
theorem edge_from {l : List α} {x : α} (h : x ∈ l) : ∃ y, (x, y) ∈ edges l := by
  obtain ⟨i, hi, rfl⟩ := List.getElem_of_mem h
  exact ⟨_, mem_edges.2 ⟨i, hi, rfl⟩⟩

/-- sums over the sides -/
def esum (f : α × α → Int) (l : List (α × α)) : Int := (l.map f).sum
theorem esum_nil (f : α × α → Int) : esum f [] = 0 := rfl
theorem esum_cons (f : α × α → Int) (e : α × α) (l : List (α × α)) : esum f (e :: l) = f e + esum f l := by simp [esum]
theorem esum_append (f : α × α → Int) (l m : List (α × α)) : esum f (l ++ m) = esum f l + esum f m := by simp [esum]
theorem esum_perm (f : α × α → Int) {l m : List (α × α)} (h : l.Perm m) : esum f l = esum f m := by
  unfold esum
  induction h with
  | nil => rfl
  | cons x _ ih => simp [ih]
  | swap x y l => simp; omega
  | trans _ _ h1 h2 => omega
theorem esum_map (f : α × α → Int) {β : Type} (g : β × β → α × α) (l : List (β × β)) : esum f (l.map g) = esum (fun e => f (g e)) l := by
  simp [esum, Function.comp_def]
theorem esum_congr {f g : α × α → Int} {l : List (α × α)} (h : ∀ e ∈ l, f e = g e) : esum f l = esum g l := by
  unfold esum; rw [List.map_congr_left h]
theorem esum_neg (f : α × α → Int) (l : List (α × α)) : esum (fun e => - f e) l = - esum f l := by
  induction l with
  | nil => rfl
  | cons e l ih => rw [esum_cons, esum_cons, ih]; omega
theorem esum_add (f g : α × α → Int) (l : List (α × α)) : esum (fun e => f e + g e) l = esum f l + esum g l := by
  induction l with
  | nil => rfl
  | cons e l ih => rw [esum_cons, esum_cons, esum_cons, ih]; omega
theorem esum_sub (f g : α × α → Int) (l : List (α × α)) : esum (fun e => f e - g e) l = esum f l - esum g l := by
  induction l with
  | nil => rfl
  | cons e l ih => rw [esum_cons, esum_cons, esum_cons, ih]; omega
theorem esum_chain (φ : α → Int) (a : α) (l : List α) (b : α) : esum (fun e => φ e.2 - φ e.1) (chain (a :: l ++ [b])) = φ b - φ a := by
  induction l generalizing a with
  | nil => simp [chain, esum]
  | cons c l ih =>
    have e : chain (a :: (c :: l) ++ [b]) = (a, c) :: chain (c :: l ++ [b]) := rfl
    rw [e, esum_cons, ih]; simp only; omega
theorem esum_closed (φ : α → Int) (l : List α) : esum (fun e => φ e.2 - φ e.1) (edges l) = 0 := by
  cases l with
  | nil => rfl
  | cons x xs => show esum _ (chain (x :: xs ++ [x])) = 0; rw [esum_chain]; omega
end
end Geo
