import Derived.Test.YtfgeengdmbabhaaTg
namespace Go.Proofs.Ytfgeengdmbabhaa
open Go.RowKit
attribute [local go_sem ↓] Go.wp_at_zero Go.wp_at_succ

theorem run_max0 {P : Program} {w : World} (ts : Array TypeId) (t : TypeId) (i : Nat) : (Builtin.max_ ts t #[.int .i64 (i : Int), .int .i64 0]).run P w = .ok (.int .i64 (i : Int)) w := by
  rw [run_max2]
  have : max (i : Int) 0 = i := by omega
  rw [this]

/-- a new triangle, appended to the row -/
theorem push_arc {w W : World} {v : Value} {rs : List (List Z2)} (a b d : Z2) (g : Nat) (hR : RS W w.heap.size [] v rs) (hW : Below w.heap.size w W) (hn : rs.length ≤ 100000) (hs : Sp W (some ⟨g, 0, none⟩) [a, b, d]) (hlt : g < W.heap.size) (hgv : some g ≠ v.ownBlock) :
    ∃ v' w', (Builtin.append_ #[55, 55] 55 #[v, .slice (some ⟨W.heap.size, 0, none⟩) 1 1]).run Try.prog (W.alloc (.cells #[.slice (some ⟨g, 0, none⟩) 3 3] 22)) = .ok v' w' ∧ RS w' w.heap.size [] v' (rs ++ [[a, b, d]]) ∧ Below w.heap.size w w'
      ∧ ∀ A l, Sp W A l → (∀ x : Addr, A = some x → some x.block ≠ v.ownBlock) → Sp w' A l := by
  have hb := below_alloc W (.cells #[.slice (some ⟨g, 0, none⟩) 3 3] 22)
  have hk := Blk.new W 22 #[.slice (some ⟨g, 0, none⟩) 3 3]
  generalize W.alloc (.cells #[.slice (some ⟨g, 0, none⟩) 3 3] 22) = W2 at *
  have ho := hR.own
  obtain ⟨v', w', g1, g2, g3⟩ := (hR.later hb).push [a, b, d] g 3 W.heap.size (by simp) (by simp) hgv (hs.later hb) (Nat.lt_of_lt_of_le hlt hb.size)
    (by rw [hk.cell]; rfl) hn (Nat.le_trans hW.size hb.size) (fun x hx => by simp at hx)
  exact ⟨v', w', g1, g2, below_grown (below_trans hW hb) g3 (fun k hk => (ho.1 k hk).1), fun A l hA hx => (hA.later hb).grown g3 hx⟩

/-- what is left, appended to the row -/
theorem push_fin {w W : World} {v : Value} {rs : List (List Z2)} {l : List Z2} (b0 o0 c0 : Nat) (hR : RS W w.heap.size [] v rs) (hW : Below w.heap.size w W) (hn : rs.length ≤ 100000) (hs : Sp W (some ⟨b0, o0, none⟩) l) (hlt : b0 < W.heap.size) (hbv : some b0 ≠ v.ownBlock) (hc0 : l.length ≤ c0) :
    ∃ A c w', (Builtin.append_ #[55, 55] 55 #[v, .slice (some ⟨W.heap.size, 0, none⟩) 1 1]).run Try.prog (W.alloc (.cells #[.slice (some ⟨b0, o0, none⟩) l.length c0] 22)) = .ok (.slice A (rs ++ [l]).length c) w'
      ∧ SSp w' A (rs ++ [l]) ∧ (rs ++ [l]).length ≤ c ∧ Below w.heap.size w w' := by
  have hb := below_alloc W (.cells #[.slice (some ⟨b0, o0, none⟩) l.length c0] 22)
  have hk := Blk.new W 22 #[.slice (some ⟨b0, o0, none⟩) l.length c0]
  generalize W.alloc (.cells #[.slice (some ⟨b0, o0, none⟩) l.length c0] 22) = W2 at *
  have ho := hR.own
  obtain ⟨vs, h1, h2, h3⟩ := hR.later hb
  obtain ⟨v', w', g1, g2, g3, g4⟩ := append55 W2 w.heap.size v rs.length vs (.slice (some ⟨b0, o0, none⟩) l.length c0) W.heap.size h1 (by rw [hk.cell]; rfl) rfl hn (Nat.le_trans hW.size hb.size)
  have hvl : vs.length = rs.length := by have := h1.1; omega
  have hB := below_grown (below_trans hW hb) g3 (fun k hk => (ho.1 k hk).1)
  rcases g2.2 with ⟨_, hz⟩ | ⟨g, cap, cur, rfl, hbs, hg, hnc, _, _, htake⟩
  · omega
  · refine ⟨_, cap, w', by rw [List.length_append, List.length_singleton]; exact g1, fun _ => ⟨g, 0, rfl, fun k hk => ?_⟩, by rw [List.length_append, List.length_singleton]; exact hnc, hB⟩
    have hBk : Blk w' g 22 cur := hg
    have hcell : w'.cell? ⟨g, 0 + k, none⟩ = (vs ++ [.slice (some ⟨b0, o0, none⟩) l.length c0])[k]? := by
      rw [Nat.zero_add, hBk.cell, ← htake, List.getElem?_take, if_pos (by simp at hk; omega)]
      simp
    rw [hcell, getD_append_one _ _ _ _ hk]
    by_cases hk' : k < rs.length
    · rw [if_pos hk']
      obtain ⟨b, c, a1, a2, a3, a4, a5, a6⟩ := h3 k hk'
      exact ⟨_, c, by rw [List.getElem?_append_left (by omega)]; exact a1, a2, sp_of_block a5 (g3.block b a6 a4)⟩
    · rw [if_neg hk']
      have e : k = rs.length := by simp at hk; omega
      subst e
      exact ⟨_, c0, by rw [List.getElem?_append_right (by omega), hvl]; simp, hc0, sp_of_block (hs.later hb) (g3.block b0 (Nat.lt_of_lt_of_le hlt hb.size) hbv)⟩

def sliceLen : Value → Nat
  | .slice _ n _ => n
  | _ => 0
/-- the slice 'left' of the loop -/
def LeftAt (wr : World) (vo vl : Value) (l : List Z2) : Prop := ∃ b0 o0 c0, vl = .slice (some ⟨b0, o0, none⟩) l.length c0 ∧ l.length ≤ c0 ∧ Sp wr (some ⟨b0, o0, none⟩) l ∧ some b0 ≠ vo.ownBlock ∧ b0 < wr.heap.size
theorem leftOwn {W w1 : World} {base : Nat} {vo v : Value} {rs : List (List Z2)} {l : List Z2} (hR : RS W base [] vo rs) (ho : Own w1 W.heap.size v l) (hne : l ≠ []) : LeftAt w1 vo v l := by
  rcases sliceBlock ho with ⟨_, h⟩ | ⟨g, cap, rest, rfl, hg, hB, h⟩
  · exact absurd h hne
  · obtain ⟨A, c, e, h1, h2⟩ := ho.sp
    injection e with e1 e2 e3
    subst e1 e3
    refine ⟨g, 0, cap, rfl, h1, h2, fun e => ?_, hB.lt⟩
    have := (hR.own.1 g e.symm).2
    omega

attribute [local go_sem ↓] run_max0
set_option maxRecDepth 100000 in
set_option maxHeartbeats 8000000 in
/-- garmentref13.Split -/
theorem split59 (A : Option Addr) (n c : Nat) (ps : List Z2) (w : World) (hl : ps.length = n) (hsp : Sp w A ps) : Calls Try.prog 59 #[.slice A n c] w (RetSS (splitZ ps) (splitE ps) w) := by
  have HS := Lib.hid hsp; clear hsp
  by_cases h0 : chkZ ps = 0
  case neg =>
    have HE := Lib.hid (split_no h0)
    have hd : (chkZ ps != 0) = true := by simpa using h0
    clear h0
    go_enter Try.func59, Try.ntmps59
    go_wp2_with fail
    refine (normal33 A n c ps _ hl HS.out).mono ?_
    rintro e w1 ⟨A1, c1, rfl, hc1, hs1, hb1⟩
    go_wp2
    go_ret2
    refine ⟨none, 0, ?_, ?_, ?_, hb1⟩
    · rw [HE.out.1, HE.out.2]; rfl
    · rw [HE.out.1]; simp
    · rw [HE.out.1]; intro h; exact absurd rfl h
  case pos =>
    have h40 := (chkZ_zero h0).1
    have nn := norm_norm h0
    have hin := nn.in_range h0
    have hL3 := normZ_three h0
    have hL40 : (normZ ps).length ≤ 40 := Nat.le_trans normZ_len h40
    have HSM := Lib.hid (show ∃ rs, splitG (normZ ps).length (normZ ps) [] = some rs ∧ splitZ ps = rs ∧ splitE ps = 0 by
      obtain ⟨ts, h1, _⟩ := splitG_law _ (normZ ps) [] rfl nn.simple nn.LT hin
      refine ⟨_, h1, ?_, ?_⟩
      · unfold splitZ; rw [if_pos h0, h1]; rfl
      · unfold splitE; rw [if_pos h0, h1]; rfl)
    have HIN := Lib.hid hin
    have H0 := Lib.hid h0
    clear h0 nn hin
    go_enter Try.func59, Try.ntmps59
    go_wp2_with fail
    refine (normal33 A n c ps _ hl HS.out).mono ?_
    rintro e w1 ⟨A1, c1, rfl, hc1, hs1, hb1⟩
    rw [H0.out]
    generalize hL : normZ ps = L at *
    obtain ⟨b1, o1, rfl, _⟩ := id hs1 (by intro h; simp [h] at hL3)
    have HS1 := Lib.hid hs1
    have HW1 := Lib.hid hb1
    have hb1lt : b1 < w1.heap.size := by
      obtain ⟨b', o', e, hc⟩ := hs1 (by intro h; simp [h] at hL3)
      injection e with e; injection e with e1 e2
      subst e1 e2
      exact World.block_lt_of_cell? _ _ (hc 0 (by omega)).1
    clear hL hs1 hb1 H0
    go_wp2_with fail
    go_loopw [4, 6] (fun vl vo wr => ∃ (l : List Z2) (rs : List (List Z2)), LeftAt wr vo vl l ∧ RS wr w.heap.size [] vo rs ∧ splitG l.length l rs = splitG L.length L [] ∧ 3 ≤ l.length ∧ l.length + rs.length ≤ 40 ∧ (∀ p ∈ l, outZ p = false) ∧ Below w.heap.size w wr) (fun vl _ _ => sliceLen vl)
    case atStart => exact ⟨L, [], ⟨b1, o1, c1, rfl, hc1, HS1.out, by simp [Value.ownBlock], hb1lt⟩, RS.nil _ _ _, rfl, hL3, by simpa using hL40, HIN.out, HW1.out⟩
    case round =>
      clear hb1lt
      obtain ⟨l, rs, ⟨b0, o0, c0, rfl, hc0, hs, hbv, hlt0⟩, hR, hG, h3, h40', hin, hW⟩ := hrel
      have HL := Lib.hid (And.intro hs (And.intro hbv hlt0))
      have HR := Lib.hid hR
      have HG := Lib.hid hG
      have HN := Lib.hid hin
      have HB := Lib.hid (show ∀ p ∈ l, Bd p from fun p hp => bd_of_out (hin p hp))
      have HW := Lib.hid hW
      clear hs hbv hlt0 hR hG hin hW HS1
      by_cases hgt : 3 < l.length
      · go_wp2_with fail
        refine (flat96 (some ⟨b0, o0, none⟩) _ c0 l _ rfl HL.out.1 (by omega) HB.out).mono ?_
        rintro e w2 ⟨rfl, hb⟩
        replace HL := Lib.hid (And.intro (HL.out.1.later hb) (And.intro HL.out.2.1 (Nat.lt_of_lt_of_le HL.out.2.2 hb.size)))
        replace HR := Lib.hid (HR.out.later hb)
        replace HW := Lib.hid (below_trans HW.out hb)
        clear hb
        rcases firstZ_cases l.length (flatZ l) with ⟨i, hi, he, ht, hno⟩ | ⟨he, hno⟩
        · have HST := Lib.hid (show splitG l.length l rs = splitG (l.eraseIdx i).length (l.eraseIdx i) rs by
            obtain ⟨m, hm⟩ : ∃ m, l.length = m + 1 := ⟨l.length - 1, by omega⟩
            have hel : (l.eraseIdx i).length = m := by rw [List.length_eraseIdx_of_lt hi]; omega
            rw [hel, hm]
            simp only [splitG]
            rw [if_neg (by omega), he, if_pos (by omega)]
            simp)
          have HEL := Lib.hid (show (l.eraseIdx i).length = l.length - 1 from List.length_eraseIdx_of_lt hi)
          rw [he]
          clear he ht hno
          have i0 : ¬ ((i : Int) < 0) := by omega
          go_wp2_with fail
          refine (without99 (some ⟨b0, o0, none⟩) _ c0 l i _ rfl HL.out.1 hi (by omega) hc0).mono ?_
          rintro e w3 ⟨v3, rfl, ho3, hb⟩
          have H3 := Lib.hid (leftOwn HR.out ho3 (by intro h; have := HEL.out; rw [h] at this; simp at this; omega))
          replace HR := Lib.hid (HR.out.later hb)
          replace HW := Lib.hid (below_trans HW.out hb)
          clear hb ho3 HL
          go_wp2
          obtain ⟨b4, o4, c4, rfl, hc4, hs4, hv4, hl4⟩ := H3.out
          go_roundw
          case rel => exact ⟨l.eraseIdx i, rs, ⟨b4, o4, c4, rfl, hc4, hs4, hv4, hl4⟩, HR.out, HST.out.symm.trans HG.out, by rw [HEL.out]; omega, by rw [HEL.out]; omega, mem_erase HN.out, HW.out⟩
          case measure => simp [sliceLen, HEL.out]; omega
        · have HE1 := Lib.hid he
          rw [he]
          clear he hno
          go_wp2_with fail
          refine (ear97 (some ⟨b0, o0, none⟩) _ c0 l _ rfl HL.out.1 (by omega) HB.out HN.out).mono ?_
          rintro e w3 ⟨rfl, hb⟩
          replace HL := Lib.hid (And.intro (HL.out.1.later hb) (And.intro HL.out.2.1 (Nat.lt_of_lt_of_le HL.out.2.2 hb.size)))
          replace HR := Lib.hid (HR.out.later hb)
          replace HW := Lib.hid (below_trans HW.out hb)
          clear hb
          rcases firstZ_cases l.length (freeZ l) with ⟨i, hi, he, ht, hno⟩ | ⟨he, hno⟩
          · have HST := Lib.hid (show splitG l.length l rs = splitG (l.eraseIdx i).length (l.eraseIdx i) (rs ++ [[cA l i, pt l i, cC l i]]) by
              obtain ⟨m, hm⟩ : ∃ m, l.length = m + 1 := ⟨l.length - 1, by omega⟩
              have hel : (l.eraseIdx i).length = m := by rw [List.length_eraseIdx_of_lt hi]; omega
              have h1 := HE1.out
              rw [hel, hm]
              rw [hm] at h1 he
              simp only [splitG]
              rw [if_neg (by omega), hm, h1, if_neg (by omega), he, if_pos (by omega)]
              simp)
            have HEL := Lib.hid (show (l.eraseIdx i).length = l.length - 1 from List.length_eraseIdx_of_lt hi)
            rw [he]
            clear he ht hno HE1
            go_wp2_with fail
            refine (around98 (some ⟨b0, o0, none⟩) _ c0 l i _ rfl HL.out.1 hi (by omega)).mono ?_
            rintro e w4 ⟨g, hg, hglt, rfl, hsg, hb⟩
            replace HL := Lib.hid (And.intro (HL.out.1.later hb) (And.intro HL.out.2.1 (Nat.lt_of_lt_of_le HL.out.2.2 hb.size)))
            have hgv : some g ≠ _ := fun e => by have := (HR.out.own.1 g e.symm).2; omega
            replace HR := Lib.hid (HR.out.later hb)
            replace HW := Lib.hid (below_trans HW.out hb)
            clear hb
            obtain ⟨v5, w5, hr, hR5, hW5, hkeep⟩ := push_arc (cA l i) (pt l i) (cC l i) g HR.out HW.out (by omega) hsg hglt hgv
            have HH := Lib.hid hr
            have H5 := Lib.hid (hkeep _ _ HL.out.1 (fun x hx => by injection hx with hx; subst hx; exact HL.out.2.1))
            replace HR := Lib.hid hR5; replace HW := Lib.hid hW5
            clear hr hR5 hW5 hkeep hsg hgv hg hglt HL
            go_wp2_with (at_builtin; refine Lib.wpList_append_run _ (by rfl) _ _ _ _ (by rfl) _ _ (by rfl) (by rfl) _ _ HH.out ?_)
            refine (without99 (some ⟨b0, o0, none⟩) _ c0 l i _ rfl H5.out hi (by omega) hc0).mono ?_
            rintro e w6 ⟨v6, rfl, ho6, hb⟩
            have H6 := Lib.hid (leftOwn HR.out ho6 (by intro h; have := HEL.out; rw [h] at this; simp at this; omega))
            replace HR := Lib.hid (HR.out.later hb)
            replace HW := Lib.hid (below_trans HW.out hb)
            clear hb ho6 H5
            go_wp2
            obtain ⟨b4, o4, c4, rfl, hc4, hs4, hv4, hl4⟩ := H6.out
            go_roundw
            case rel => exact ⟨l.eraseIdx i, rs ++ [[cA l i, pt l i, cC l i]], ⟨b4, o4, c4, rfl, hc4, hs4, hv4, hl4⟩, HR.out, HST.out.symm.trans HG.out, by rw [HEL.out]; omega, by rw [HEL.out]; simp only [List.length_append, List.length_singleton]; omega, mem_erase HN.out, HW.out⟩
            case measure => simp [sliceLen, HEL.out]; omega
          · exfalso
            obtain ⟨rs0, h1, _⟩ := HSM.out
            have h2 := HG.out
            rw [h1] at h2
            obtain ⟨m, hm⟩ : ∃ m, l.length = m + 1 := ⟨l.length - 1, by omega⟩
            have h4 := HE1.out
            rw [hm] at h2 h4 he
            simp only [splitG] at h2
            rw [if_neg (by omega), hm, h4, if_neg (by omega), he, if_neg (by omega)] at h2
            cases h2
      · have hG := HG.out
        have HRS := Lib.hid (show splitZ ps = rs ++ [l] ∧ splitE ps = 0 by
          obtain ⟨rs0, h1, h2, h3'⟩ := HSM.out
          rw [splitG_end (by omega), h1] at hG
          injection hG with hG
          exact ⟨by rw [h2, hG], h3'⟩)
        clear hG
        obtain ⟨A', c', w6, hr, hs6, hc6, hW6⟩ := push_fin b0 o0 c0 HR.out HW.out (by omega) HL.out.1 HL.out.2.2 HL.out.2.1 hc0
        have HH := Lib.hid hr
        have H6 := Lib.hid (And.intro hs6 (And.intro hc6 hW6))
        clear hr hs6 hc6 hW6
        go_wp2_with (at_builtin; refine Lib.wpList_append_run _ (by rfl) _ _ _ _ (by rfl) _ _ (by rfl) (by rfl) _ _ HH.out ?_)
        go_ret2
        refine ⟨A', c', ?_, ?_, ?_, H6.out.2.2⟩
        · have e : (rs ++ [l]).length = rs.length + 1 := by simp
          rw [HRS.out.1, HRS.out.2, e]; rfl
        · rw [HRS.out.1]; exact H6.out.2.1
        · rw [HRS.out.1]; exact H6.out.1
end Go.Proofs.Ytfgeengdmbabhaa
