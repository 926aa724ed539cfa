import Derived.Test.YtfgeengdmbabhaaWk
namespace Go.Proofs.Ytfgeengdmbabhaa
open Go.RowKit
attribute [local go_sem ↓] Go.wp_at_zero Go.wp_at_succ

def cornersTo (ps : List Z2) : Nat → List Z2
  | 0 => []
  | k + 1 => if bendZ ps k = 0 then cornersTo ps k else cornersTo ps k ++ [pt ps k]
theorem cornersTo_length (ps : List Z2) (k : Nat) : (cornersTo ps k).length ≤ k := by
  induction k with
  | zero => simp [cornersTo]
  | succ k ih =>
    simp only [cornersTo]
    split
    · omega
    · rw [List.length_append, List.length_singleton]; omega
/-- the vertices that are not straight, counterclockwise -/
def corn (ps : List Z2) : List Z2 := if areaZ ps < 0 then (cornersTo ps ps.length).reverse else cornersTo ps ps.length
def lessZ (a b : Z2) : Bool := decide (a.x < b.x) || (decide (a.x = b.x) && decide (a.y < b.y))
theorem lessZ_iff (a b : Z2) : lessZ a b = true ↔ (a.x < b.x ∨ a.x = b.x ∧ a.y < b.y) := by simp [lessZ]
def firstTo (l : List Z2) : Nat → Nat
  | 0 => 0
  | k + 1 => if lessZ (pt l k) (pt l (firstTo l k)) then k else firstTo l k
theorem firstTo_lt (l : List Z2) (k : Nat) (h : 0 < k) : firstTo l k < k := by
  induction k with
  | zero => omega
  | succ k ih =>
    simp only [firstTo]
    split
    · omega
    · cases k with
      | zero => simp [firstTo]
      | succ k => have := ih (by omega); omega
def rotZ (l : List Z2) : List Z2 := l.drop (firstTo l l.length) ++ l.take (firstTo l l.length)
def normR (ps : List Z2) : List Z2 := rotZ (corn ps)
def normZ (ps : List Z2) : List Z2 := if chkZ ps = 0 then normR ps else []
theorem normZ_pos {ps : List Z2} (h : chkZ ps = 0) : normZ ps = normR ps := if_pos h
theorem normZ_neg {ps : List Z2} (h : ¬ chkZ ps = 0) : normZ ps = [] := if_neg h

/-- a new slice and a number -/
def RetSl2 (qs : List Z2) (n : Int) (w : World) (e : Ending) (w' : World) : Prop := ∃ A c, e = .returned (.tuple #[.slice A qs.length c, iv n]) ∧ qs.length ≤ c ∧ Sp w' A qs ∧ Below w.heap.size w w'

theorem Sp.drop {w : World} {b off : Nat} {l : List Z2} (h : Sp w (some ⟨b, off, none⟩) l) (f : Nat) : Sp w (some ⟨b, off + f * 2, none⟩) (l.drop f) := fun hne => by
  obtain ⟨b', off', hA, hc⟩ := h (by rintro rfl; simp at hne)
  injection hA with hA
  injection hA with h1 h2
  subst h1 h2
  refine ⟨_, _, rfl, fun k hk => ?_⟩
  simp only [List.length_drop] at hk
  have := hc (f + k) (by omega)
  have e : pt (l.drop f) k = pt l (f + k) := by simp [pt, List.getD_eq_getElem?_getD]
  rw [e]
  have e1 : off + f * 2 + k * 2 = off + (f + k) * 2 := by omega
  rw [e1]; exact this

theorem Blk.spApp {w : World} {g : Nat} {l : List Z2} {rest : List Value} (h : Blk w g 30 (flat l ++ rest).toArray) : Sp w (some ⟨g, 0, none⟩) l := fun _ => ⟨g, 0, rfl, fun k hk => by
  have := h.cellApp k hk
  simpa using this⟩
theorem concatAt (n1 n2 c1 c2 : Nat) (A1 A2 : Option Addr) (l1 l2 : List Z2) (wr : World) (e1 : l1.length = n1) (e2 : l2.length = n2) (s1 : Sp wr A1 l1) (s2 : Sp wr A2 l2) (hn1 : n1 ≤ 100000) (hn2 : n2 ≤ 100000) :
    Calls Try.prog 76 #[.slice (some ⟨wr.heap.size, 0, none⟩) 2 2] (wr.alloc (.cells #[.slice A1 n1 c1, .slice A2 n2 c2] 22)).drew (RetOwn wr.heap.size (l1 ++ l2) wr) := by
  have hb := (below_alloc wr (.cells #[.slice A1 n1 c1, .slice A2 n2 c2] 22)).drew
  refine (concat76 wr.heap.size 2 n1 n2 c1 c2 A1 A2 l1 l2 _ (by simp) (by simp) e1 e2 (s1.later hb) (s2.later hb) hn1 hn2).mono ?_
  rintro e w5 ⟨v5, rfl, ho5, hb5⟩
  refine ⟨v5, rfl, ⟨ho5.1, ?_⟩, below_trans hb hb5⟩
  rcases ho5.2 with h | ⟨g, cap, cur, h1, h2, h3⟩
  · exact .inl h
  · exact .inr ⟨g, cap, cur, h1, Nat.le_trans hb.size h2, h3⟩

set_option maxRecDepth 100000 in
set_option maxHeartbeats 4000000 in
/-- polygon.Normal -/
theorem normal32 (A : Option Addr) (c : Nat) (ps : List Z2) (w : World) (hsp : Sp w A ps) (hcap : ps.length ≤ c) :
    Calls Try.prog 32 #[.slice A ps.length c] w (RetSl2 (normZ ps) (chkZ ps) w) := by
  have HS := Lib.hid hsp; clear hsp
  by_cases h0 : chkZ ps = 0
  case neg =>
    have H0 := Lib.hid h0
    have hd : (chkZ ps != 0) = true := by simpa using h0
    clear h0
    go_enter Try.func32, Try.ntmps32
    go_wp2_with fail
    refine (check38 A c ps _ HS.out hcap).mono ?_
    rintro e w1 ⟨rfl, hb1⟩
    go_wp2
    go_ret2
    refine ⟨none, 0, ?_, ?_, ?_, hb1⟩
    · rw [normZ_neg H0.out]; rfl
    · rw [normZ_neg H0.out]; simp
    · rw [normZ_neg H0.out]; intro h; exact absurd rfl h
  case pos =>
    have H0 := Lib.hid h0
    obtain ⟨hl, hl3, hD, _, _⟩ := chkZ_zero h0
    have HD := Lib.hid hD
    clear h0 hD
    go_enter Try.func32, Try.ntmps32
    go_wp2_with fail
    refine (check38 A c ps _ HS.out hcap).mono ?_
    rintro e w1 ⟨rfl, hb1⟩
    rw [H0.out]
    go_wp2
    go_loopw [5, 19] (fun v i wr => ∃ k : Nat, k ≤ ps.length ∧ i = .int .i64 k ∧ Own wr w.heap.size v (cornersTo ps k) ∧ Below w.heap.size w wr) (fun _ i _ => ps.length - (intOf i).toNat)
    case atStart => exact ⟨0, Nat.zero_le _, rfl, Own.nil _ _, hb1⟩
    case round =>
      clear hb1
      obtain ⟨k, hk, rfl, ho, hB⟩ := hrel
      have HO := Lib.hid ho
      clear ho
      by_cases hlt : k < ps.length
      · have hne : ps ≠ [] := by intro h; simp [h] at hlt
        obtain ⟨b, off, rfl, hc⟩ := HS.out.later hB hne
        obtain ⟨g1, g2⟩ := hc k hlt
        have nb : b < wr.heap.size := World.block_lt_of_cell? _ _ g1
        clear hc
        go_wp2_with fail
        have F := boxes1 wr (pt ps k)
        revert F
        generalize wr.alloc (.cells #[iv (pt ps k).x, iv (pt ps k).y] 30) = W
        rintro ⟨hW, f1, f2⟩
        have hB2 := hB.trans (hW.mono hB.size)
        refine (bend73 _ c ps k _ (HS.out.later hB2) (by omega) hlt HD.out).mono ?_
        rintro e w2 ⟨rfl, hb2⟩
        replace f1 := cell_later hb2 f1
        replace f2 := cell_later hb2 f2
        have hB3 := hB2.trans (hb2.mono hB2.size)
        have HO3 := Lib.hid ((HO.out.later hW).later hb2)
        clear hb2 hB2 hW g1 g2 nb HO
        by_cases hz : bendZ ps k = 0
        · have hd : (bendZ ps k != 0) = false := by simpa using hz
          have HZ := Lib.hid hz
          clear hz
          go_wp2
          go_roundw
          case rel => exact ⟨k + 1, by omega, by go_num, by simp only [cornersTo]; rw [if_pos HZ.out]; exact HO3.out, hB3⟩
          case measure => simp [intOf]; omega
        · have hd : (bendZ ps k != 0) = true := by simpa using hz
          have HZ := Lib.hid hz
          clear hz
          have hsq : Sp (w2.alloc (.cells #[iv (pt ps k).x, iv (pt ps k).y] 30)) (some ⟨w2.heap.size, 0, none⟩) [pt ps k] := Blk.sp (Blk.new w2 30 #[iv (pt ps k).x, iv (pt ps k).y])
          have hcl := cornersTo_length ps k
          obtain ⟨v', w', hr, o', hg, hat⟩ := run_append_sp (w2.alloc (.cells #[iv (pt ps k).x, iv (pt ps k).y] 30)) w.heap.size _ (cornersTo ps k) _ 1 1 [pt ps k] (HO3.out.later (below_alloc _ _)) hsq rfl (by simp; omega) (Nat.le_trans hB3.size (by simp))
          have HH := Lib.hid hr
          have hB4 := hB3.trans ((below_alloc w2 (.cells #[iv (pt ps k).x, iv (pt ps k).y] 30)).mono hB3.size)
          have HO4 := Lib.hid (And.intro o' (below_grown hB4 hg (fun k hk => (HO3.out.lt k hk).1)))
          clear hr o' hg hat hsq
          go_wp2_with (at_builtin; refine Lib.wpList_append_run _ (by rfl) _ _ _ _ (by rfl) _ _ (by rfl) (by rfl) _ _ HH.out ?_)
          go_roundw
          case rel => exact ⟨k + 1, by omega, by go_num, by simp only [cornersTo]; rw [if_neg HZ.out]; exact HO4.out.1, HO4.out.2⟩
          case measure => simp [intOf]; omega
      · obtain rfl : k = ps.length := by omega
        have hcl := cornersTo_length ps ps.length
        by_cases ha : areaZ ps < 0
        case' pos =>
          have dA := decide_eq_true ha
          have HA := Lib.hid ha
          clear ha
          go_wp2_with fail
          refine (area74 A c ps _ (HS.out.later hB) (by omega) HD.out).mono ?_
          rintro e w2 ⟨rfl, hb2⟩
          have hB2 := hB.trans (hb2.mono hB.size)
          have HO2 := Lib.hid (HO.out.later hb2)
          clear HO hb2
          go_wp2_with fail
          refine (reverseOwn w.heap.size _ _ _ HO2.out (by omega)).mono ?_
          rintro e w3 ⟨rfl, ho3, hg3⟩
          have hB3 := below_grown hB2 hg3 (fun k hk => (HO2.out.lt k hk).1)
          have HO3 := Lib.hid (show Own w3 w.heap.size _ (corn ps) by unfold corn; rw [if_pos HA.out]; exact ho3)
          have HL := Lib.hid (show (corn ps).length ≤ ps.length by unfold corn; rw [if_pos HA.out]; simpa using hcl)
          clear ho3 hg3 HO2 hB2
        case' neg =>
          have dA := decide_eq_false ha
          have HA := Lib.hid ha
          clear ha
          go_wp2_with fail
          refine (area74 A c ps _ (HS.out.later hB) (by omega) HD.out).mono ?_
          rintro e w3 ⟨rfl, hb2⟩
          have hB3 := hB.trans (hb2.mono hB.size)
          have HO3 := Lib.hid (show Own w3 w.heap.size _ (corn ps) by unfold corn; rw [if_neg (by have := HA.out; omega)]; exact HO.out.later hb2)
          have HL := Lib.hid (show (corn ps).length ≤ ps.length by unfold corn; rw [if_neg (by have := HA.out; omega)]; simpa using hcl)
          clear HO hb2
        all_goals
          rcases sliceBlock HO3.out with ⟨rfl, hel⟩ | ⟨g, cap, rest, rfl, hgb, hblk, hc1, hc2, hc3⟩
          · have HEL := Lib.hid hel
            clear hel
            go_wp2_with fail
            go_loopw [8, 40] (fun u i wr => i = iv 0 ∧ u = iv 0 ∧ Below w.heap.size w wr) (fun _ _ _ => 0)
            case atStart => exact ⟨rfl, rfl, hB3⟩
            case round =>
              obtain ⟨rfl, rfl, hB4⟩ := hrel
              go_wp2_with fail
              go_region_held3 (fun w' => Below w.heap.size w w') (first | exact hB4.drew | assumption | exact Below.alloc hB4.drew hB4.size _ | exact hB4.trans (hb5.mono hB4.size))
                (first | (go_at_call 76; refine (concatAt 0 0 0 0 none none [] [] wr rfl rfl (fun h => absurd rfl h) (fun h => absurd rfl h) (by omega) (by omega)).mono ?_; rintro e w5 ⟨v5, rfl, ho5, hb5⟩))
              go_wp2
              go_ret2
              obtain ⟨A5, c5, rfl, h51, h52⟩ := ho5.sp
              refine ⟨A5, c5, ?_, ?_, ?_, hB4.trans (hb5.mono hB4.size)⟩
              · rw [normZ_pos H0.out, H0.out]; simp only [normR, rotZ, HEL.out]; rfl
              · rw [normZ_pos H0.out]; simp only [normR, rotZ, HEL.out]; exact h51
              · rw [normZ_pos H0.out]; simp only [normR, rotZ, HEL.out]; exact h52
          · have HX := Lib.hid (And.intro hblk hc3)
            clear hblk hc3 HO3
            have hll := HL.out
            go_wp2_with fail
            go_loopw [8, 40] (fun u i wr => ∃ k : Nat, k ≤ (corn ps).length ∧ i = .int .i64 k ∧ u = iv (firstTo (corn ps) k) ∧ Blk wr g 30 (flat (corn ps) ++ rest).toArray ∧ Below w.heap.size w wr) (fun _ i _ => (corn ps).length - (intOf i).toNat)
            case atStart => exact ⟨0, Nat.zero_le _, rfl, rfl, HX.out.1, hB3⟩
            case round =>
              obtain ⟨k, hk, rfl, rfl, hblk, hB4⟩ := hrel
              have HK := Lib.hid hblk
              by_cases hlt : k < (corn ps).length
              · have hf : firstTo (corn ps) k < (corn ps).length := by
                  cases k with
                  | zero => simpa [firstTo] using hlt
                  | succ k => have := firstTo_lt (corn ps) (k + 1) (by omega); omega
                have HF := Lib.hid (show firstTo (corn ps) (k + 1) = if lessZ (pt (corn ps) k) (pt (corn ps) (firstTo (corn ps) k)) then k else firstTo (corn ps) k from rfl)
                generalize firstTo (corn ps) k = f at *
                obtain ⟨f1, f2⟩ := hblk.cellApp k hlt
                obtain ⟨f3, f4⟩ := hblk.cellApp f hf
                have nb := hblk.lt
                have nb2 : g ≠ wr.heap.size := by omega
                have nb3 : g ≠ wr.heap.size + 1 := by omega
                clear hblk
                go_wp2
                all_goals
                  go_roundw
                  case rel =>
                    refine ⟨k + 1, by omega, by go_num, ?_, (HK.out.later (below_alloc _ _)).later (below_alloc _ _), hB4.trans ((below_trans (below_alloc _ _) (below_alloc _ _)).mono hB4.size)⟩
                    rw [HF.out]
                    first
                      | rw [if_pos ((lessZ_iff _ _).2 (by omega))]
                      | rw [if_neg (fun h => by have := (lessZ_iff _ _).1 h; omega)]
                  case measure => simp [intOf]; omega
              · obtain rfl : k = (corn ps).length := by omega
                have hf : firstTo (corn ps) (corn ps).length ≤ (corn ps).length := by
                  by_cases e : (corn ps).length = 0
                  · rw [e]; simp [firstTo]
                  · have := firstTo_lt (corn ps) (corn ps).length (by omega); omega
                have HR := Lib.hid (show normR ps = (corn ps).drop (firstTo (corn ps) (corn ps).length) ++ (corn ps).take (firstTo (corn ps) (corn ps).length) from rfl)
                generalize firstTo (corn ps) (corn ps).length = f at *
                have hs := Blk.spApp hblk
                have i1 : (0 : Int) ≤ (f : Int) := by omega
                have i2 : (f : Int) ≤ ((corn ps).length : Int) := by omega
                have i3 : (f : Int) ≤ (cap : Int) := by omega
                clear hblk
                have q1 : ((corn ps).take f).length = f := by simp; omega
                have q2 : ((corn ps).drop f).length = (corn ps).length - f := by simp
                have Q1 := Lib.hid q1; have Q2 := Lib.hid q2
                have HS2 := Lib.hid hs
                clear hs q1 q2
                by_cases hfc : cap = f
                · have hnil : (corn ps).drop f = [] := List.drop_eq_nil_of_le (by omega)
                  have HN := Lib.hid hnil
                  clear hnil
                  go_wp2_with fail
                  go_region_held3 (fun w' => Below w.heap.size w w') (first | exact hB4.drew | assumption | exact Below.alloc hB4.drew hB4.size _ | exact hB4.trans (hb5.mono hB4.size))
                    (first | (go_at_call 76; refine (concatAt ((corn ps).length - f) f 0 f (some ⟨g, 0, none⟩) (some ⟨g, 0, none⟩) ((corn ps).drop f) ((corn ps).take f) wr Q2.out Q1.out (fun h => absurd HN.out h) (HS2.out.take f) (by omega) (by omega)).mono ?_; rintro e w5 ⟨v5, rfl, ho5, hb5⟩))
                  go_wp2
                  go_ret2
                  obtain ⟨A5, c5, rfl, h51, h52⟩ := ho5.sp
                  refine ⟨A5, c5, ?_, ?_, ?_, hB4.trans (hb5.mono hB4.size)⟩
                  · rw [normZ_pos H0.out, H0.out, HR.out]; rfl
                  · rw [normZ_pos H0.out, HR.out]; exact h51
                  · rw [normZ_pos H0.out, HR.out]; exact h52
                · have hfc' : f ≠ cap := by omega
                  have hdr := HS2.out.drop f
                  rw [Nat.zero_add] at hdr
                  have HDR := Lib.hid hdr
                  clear hdr
                  go_wp2_with fail
                  go_region_held3 (fun w' => Below w.heap.size w w') (first | exact hB4.drew | assumption | exact Below.alloc hB4.drew hB4.size _ | exact hB4.trans (hb5.mono hB4.size))
                    (first | (go_at_call 76; refine (concatAt ((corn ps).length - f) f (cap - f) cap (some ⟨g, f * 2, none⟩) (some ⟨g, 0, none⟩) ((corn ps).drop f) ((corn ps).take f) wr Q2.out Q1.out HDR.out (HS2.out.take f) (by omega) (by omega)).mono ?_; rintro e w5 ⟨v5, rfl, ho5, hb5⟩))
                  go_wp2
                  go_ret2
                  obtain ⟨A5, c5, rfl, h51, h52⟩ := ho5.sp
                  refine ⟨A5, c5, ?_, ?_, ?_, hB4.trans (hb5.mono hB4.size)⟩
                  · rw [normZ_pos H0.out, H0.out, HR.out]; rfl
                  · rw [normZ_pos H0.out, HR.out]; exact h51
                  · rw [normZ_pos H0.out, HR.out]; exact h52
end Go.Proofs.Ytfgeengdmbabhaa
