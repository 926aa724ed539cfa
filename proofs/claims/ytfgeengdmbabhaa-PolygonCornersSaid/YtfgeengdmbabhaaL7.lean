import Derived.Test.YtfgeengdmbabhaaL13
namespace Go.Proofs.Ytfgeengdmbabhaa
open Go.RowKit
attribute [local go_sem ↓] Go.wp_at_zero Go.wp_at_succ

def anyTo (f : Nat → Bool) : Nat → Bool
  | 0 => false
  | k + 1 => anyTo f k || f k
theorem anyTo_of {f : Nat → Bool} {n j : Nat} (hj : j < n) (h : f j = true) : anyTo f n = true := by
  induction n with
  | zero => omega
  | succ n ih =>
    simp only [anyTo]
    by_cases e : j = n
    · subst e; rw [h]; simp
    · rw [ih (by omega)]; rfl
def fL (ps : List Z2) (j : Nat) : Bool := decide ((pt ps j).x - (boxR ps).x = 0)
def fR (ps : List Z2) (j : Nat) : Bool := decide ((pt ps j).x - (boxR ps).x = (boxR ps).w)
def fB (ps : List Z2) (j : Nat) : Bool := decide ((pt ps j).y - (boxR ps).y = 0)
def fH (ps : List Z2) (j : Nat) : Bool := decide ((pt ps j).y - (boxR ps).y = (boxR ps).h)
theorem sides_hit {ps : List Z2} (hn : 0 < ps.length) : anyTo (fL ps) ps.length = true ∧ anyTo (fR ps) ps.length = true ∧ anyTo (fB ps) ps.length = true ∧ anyTo (fH ps) ps.length = true := by
  obtain ⟨⟨j1, a1, _, c1⟩, ⟨j2, a2, _, c2⟩⟩ := loTo_at hn (Nat.le_refl _)
  obtain ⟨⟨j3, a3, _, c3⟩, ⟨j4, a4, _, c4⟩⟩ := hiTo_at hn (Nat.le_refl _)
  refine ⟨anyTo_of a1 ?_, anyTo_of a3 ?_, anyTo_of a2 ?_, anyTo_of a4 ?_⟩
  · unfold fL; rw [decide_eq_true_eq]; have e1 : (boxR ps).x = (loTo ps ps.length).x := rfl; have e2 : (boxR ps).y = (loTo ps ps.length).y := rfl; have e3 : (boxR ps).w = (hiTo ps ps.length).x - (loTo ps ps.length).x := rfl; have e4 : (boxR ps).h = (hiTo ps ps.length).y - (loTo ps ps.length).y := rfl; omega
  · unfold fR; rw [decide_eq_true_eq]; have e1 : (boxR ps).x = (loTo ps ps.length).x := rfl; have e2 : (boxR ps).y = (loTo ps ps.length).y := rfl; have e3 : (boxR ps).w = (hiTo ps ps.length).x - (loTo ps ps.length).x := rfl; have e4 : (boxR ps).h = (hiTo ps ps.length).y - (loTo ps ps.length).y := rfl; omega
  · unfold fB; rw [decide_eq_true_eq]; have e1 : (boxR ps).x = (loTo ps ps.length).x := rfl; have e2 : (boxR ps).y = (loTo ps ps.length).y := rfl; have e3 : (boxR ps).w = (hiTo ps ps.length).x - (loTo ps ps.length).x := rfl; have e4 : (boxR ps).h = (hiTo ps ps.length).y - (loTo ps ps.length).y := rfl; omega
  · unfold fH; rw [decide_eq_true_eq]; have e1 : (boxR ps).x = (loTo ps ps.length).x := rfl; have e2 : (boxR ps).y = (loTo ps ps.length).y := rfl; have e3 : (boxR ps).w = (hiTo ps ps.length).x - (loTo ps ps.length).x := rfl; have e4 : (boxR ps).h = (hiTo ps ps.length).y - (loTo ps ps.length).y := rfl; omega
theorem in_box {ps : List Z2} {k : Nat} (hk : k < ps.length) : 0 ≤ (pt ps k).x - (boxR ps).x ∧ (pt ps k).x - (boxR ps).x ≤ (boxR ps).w ∧ 0 ≤ (pt ps k).y - (boxR ps).y ∧ (pt ps k).y - (boxR ps).y ≤ (boxR ps).h := by
  have h1 := loTo_le (ps := ps) hk
  have h2 := hiTo_ge (ps := ps) hk
  simp only [boxR]; omega
theorem out_box {ps : List Z2} {q : Z2} (h : chkZ ps = 0) (ho : q.x < (boxR ps).x ∨ (boxR ps).x + (boxR ps).w < q.x ∨ q.y < (boxR ps).y ∨ (boxR ps).y + (boxR ps).h < q.y) : whereZ ps q = -1 := by
  rw [whereZ_pos h]
  have hb : ∀ p ∈ ps, ∃ k, k < ps.length ∧ p = pt ps k := fun p hp => by
    obtain ⟨k, hk, rfl⟩ := List.getElem_of_mem hp
    exact ⟨k, hk, (pt_eq hk).symm⟩
  apply place_out
  rcases ho with h | h | h | h
  · exact .inr (.inl fun p hp => by obtain ⟨k, hk, rfl⟩ := hb p hp; have := in_box hk; omega)
  · exact .inl fun p hp => by obtain ⟨k, hk, rfl⟩ := hb p hp; have := in_box hk; omega
  · exact .inr (.inr (.inr fun p hp => by obtain ⟨k, hk, rfl⟩ := hb p hp; have := in_box hk; omega))
  · exact .inr (.inr (.inl fun p hp => by obtain ⟨k, hk, rfl⟩ := hb p hp; have := in_box hk; omega))

set_option maxRecDepth 100000 in
set_option maxHeartbeats 8000000 in
/-- garmentlaw11.PolygonCorners -/
theorem lawCorners (A : Option Addr) (c : Nat) (ps : List Z2) (q : Z2) (w : World) (hsp : Sp w A ps) (hcap : ps.length ≤ c) :
    Calls Try.prog 7 #[.slice A ps.length c, sv q] w fun e w' => e = .returned (.bool true) ∧ Below w.heap.size w w' := by
  have HS := Lib.hid hsp; clear hsp
  have HBX := Lib.hid (boxZ_bd (ps := ps))
  go_enter Try.func7, Try.ntmps7
  go_wp2_with fail
  have F := boxes1 w q
  revert F
  generalize w.alloc (.cells #[iv q.x, iv q.y] 30) = W
  rintro ⟨hW, f1, f2⟩
  refine (box42 A c ps _ (HS.out.later hW) hcap).mono ?_
  rintro e w1 ⟨rfl, hb⟩
  replace hW := below_trans hW hb; replace f1 := cell_later hb f1; replace f2 := cell_later hb f2
  clear hb W
  go_upto_region 2 with fail
  have hb := below_alloc w1 (.cells #[iv (boxZ ps).x, iv (boxZ ps).y, iv (boxZ ps).w, iv (boxZ ps).h] 41)
  have k1 := rvBlk w1 (boxZ ps)
  revert hb k1
  generalize w1.alloc (.cells #[iv (boxZ ps).x, iv (boxZ ps).y, iv (boxZ ps).w, iv (boxZ ps).h] 41) = W1
  intro hb k1
  replace hW := below_trans hW hb; replace f1 := cell_later hb f1; replace f2 := cell_later hb f2
  clear hb
  generalize w1.heap.size = g at *
  have r0 := k1.cell 0; have r1 := k1.cell 1; have r2 := k1.cell 2; have r3 := k1.cell 3
  simp at r0 r1 r2 r3
  clear k1
  by_cases hf : ps.length ≤ 50
  case neg =>
    have dF := decide_eq_false hf
    go_wp2_with (first | (go_at_call 30; refine (few30 _ _ _ _).mono ?_; rintro e w' ⟨rfl, rfl⟩; rw [dF]))
    refine (awake31 _).mono ?_
    rintro e w8 ⟨rfl, hb⟩
    go_wp2
    go_ret
    exact ⟨rfl, below_trans hW hb⟩
  case pos =>
  have dF := decide_eq_true hf
  by_cases h0 : chkZ ps = 0
  case neg =>
    have hd : (chkZ ps != 0) = true := by simpa using h0
    rw [boxZ_neg h0] at r0 r1 r2 r3
    have he : ∀ w, (binOp .eql 41 (rv ⟨0, 0, 0, 0⟩) (rv ⟨0, 0, 0, 0⟩)).run Try.prog w = .ok (.bool true) w := fun w => by rw [eql41]; simp
    clear h0
    go_wp2_with (first | (go_at_call 30; refine (few30 _ _ _ _).mono ?_; rintro e w' ⟨rfl, rfl⟩; rw [dF]) | (go_at_call 38; refine (check38 A c ps _ (HS.out.later hW) hcap).mono ?_; rintro e w' ⟨rfl, hbq⟩; replace hW := below_trans hW hbq; replace r0 := cell_later hbq r0; replace r1 := cell_later hbq r1; replace r2 := cell_later hbq r2; replace r3 := cell_later hbq r3; clear hbq f1 f2))
    refine (awake31 _).mono ?_
    rintro e w8 ⟨rfl, hb⟩
    go_wp2
    go_ret
    exact ⟨rfl, below_trans hW hb⟩
  case pos =>
  have H0 := Lib.hid h0
  rw [boxZ_pos h0] at r0 r1 r2 r3 HBX
  have hl3 := (chkZ_zero h0).2.1
  have hb0 := in_of_chk h0
  have HIN := Lib.hid hb0
  rw [h0]
  clear h0 hb0
  have HSD := Lib.hid (sides_hit (ps := ps) (by omega))
  obtain ⟨bx, bY, bw, bh⟩ := HBX.out
  go_wp2_with (first | (go_at_call 30; refine (few30 _ _ _ _).mono ?_; rintro e w' ⟨rfl, rfl⟩; rw [dF]))
  clear dF
  go_loopw [7, 8, 9, 10, 11] (fun v1 v2 v3 v4 i wr => ∃ k : Nat, k ≤ ps.length ∧ i = .int .i64 k ∧ v1 = .bool (anyTo (fL ps) k) ∧ v2 = .bool (anyTo (fR ps) k) ∧ v3 = .bool (anyTo (fB ps) k) ∧ v4 = .bool (anyTo (fH ps) k) ∧ Below w.heap.size w wr ∧ wr.cell? ⟨w.heap.size, 0, none⟩ = some (iv q.x) ∧ wr.cell? ⟨w.heap.size, 1, none⟩ = some (iv q.y)
      ∧ wr.cell? ⟨g, 0, none⟩ = some (iv (boxR ps).x) ∧ wr.cell? ⟨g, 1, none⟩ = some (iv (boxR ps).y) ∧ wr.cell? ⟨g, 2, none⟩ = some (iv (boxR ps).w) ∧ wr.cell? ⟨g, 3, none⟩ = some (iv (boxR ps).h)) (fun _ _ _ _ i _ => ps.length - (intOf i).toNat)
  case atStart => exact ⟨0, Nat.zero_le _, rfl, rfl, rfl, rfl, rfl, hW, f1, f2, r0, r1, r2, r3⟩
  case round =>
    clear hW f1 f2 r0 r1 r2 r3
    obtain ⟨k, hk, rfl, rfl, rfl, rfl, rfl, hB, f1, f2, r0, r1, r2, r3⟩ := hrel
    by_cases hlt : k < ps.length
    · have hne : ps ≠ [] := by intro h; simp [h] at hlt
      obtain ⟨b, off, rfl, hc⟩ := HS.out.later hB hne
      obtain ⟨g1, g2⟩ := hc k hlt
      clear hc
      have HPV := Lib.hid (place_vertex H0.out hlt)
      obtain ⟨y1, y2, y3, y4⟩ := in_box hlt
      have hpk := HIN.out _ (pt_mem hlt)
      go_wp2_with fail
      refine (where35 _ c ps (pt ps k) _ (HS.out.later hB) hcap).mono ?_
      rintro e w2 ⟨rfl, hb⟩
      rw [H0.out, HPV.out]
      replace hB := hB.trans (hb.mono hB.size); replace f1 := cell_later hb f1; replace f2 := cell_later hb f2; replace r0 := cell_later hb r0; replace r1 := cell_later hb r1; replace r2 := cell_later hb r2; replace r3 := cell_later hb r3; replace g1 := cell_later hb g1; replace g2 := cell_later hb g2
      clear hb
      have HA := Lib.hid (And.intro (show anyTo (fL ps) (k + 1) = (anyTo (fL ps) k || decide ((pt ps k).x - (boxR ps).x = 0)) from rfl) (And.intro (show anyTo (fR ps) (k + 1) = (anyTo (fR ps) k || decide ((pt ps k).x - (boxR ps).x = (boxR ps).w)) from rfl) (And.intro (show anyTo (fB ps) (k + 1) = (anyTo (fB ps) k || decide ((pt ps k).y - (boxR ps).y = 0)) from rfl) (show anyTo (fH ps) (k + 1) = (anyTo (fH ps) k || decide ((pt ps k).y - (boxR ps).y = (boxR ps).h)) from rfl))))
      generalize anyTo (fL ps) k = b1 at *
      generalize anyTo (fR ps) k = b2 at *
      generalize anyTo (fB ps) k = b3 at *
      generalize anyTo (fH ps) k = b4 at *
      go_wp2_with fail
      go_quiet (fail)
      go_wp2_with fail
      cases b1 <;> cases b2 <;> cases b3 <;> cases b4
      all_goals
        go_quiet (fail)
        go_wp2_with fail
        go_roundw
        case rel =>
          refine ⟨k + 1, by omega, by go_num, ?_, ?_, ?_, ?_, bdN hB _, f1, f2, r0, r1, r2, r3⟩
          · rw [HA.out.1]; first | rfl | (apply congrArg; rw [Bool.eq_iff_iff]; simp)
          · rw [HA.out.2.1]; first | rfl | (apply congrArg; rw [Bool.eq_iff_iff]; simp)
          · rw [HA.out.2.2.1]; first | rfl | (apply congrArg; rw [Bool.eq_iff_iff]; simp)
          · rw [HA.out.2.2.2]; first | rfl | (apply congrArg; rw [Bool.eq_iff_iff]; simp)
        case measure => simp [intOf]; omega
    · obtain rfl : k = ps.length := by omega
      obtain ⟨e1, e2, e3, e4⟩ := HSD.out
      rw [e1, e2, e3, e4]
      clear e1 e2 e3 e4
      by_cases hout : q.x < (boxR ps).x ∨ (boxR ps).x + (boxR ps).w < q.x ∨ q.y < (boxR ps).y ∨ (boxR ps).y + (boxR ps).h < q.y
      · have HWO := Lib.hid (out_box H0.out hout)
        have HOUT := Lib.hid hout
        clear hout
        go_wp2_with fail
        refine (where35 A c ps q _ (HS.out.later hB) hcap).mono ?_
        rintro e w2 ⟨rfl, hb⟩
        rw [H0.out, HWO.out]
        replace hB := hB.trans (hb.mono hB.size); replace f1 := cell_later hb f1; replace f2 := cell_later hb f2; replace r0 := cell_later hb r0; replace r1 := cell_later hb r1; replace r2 := cell_later hb r2; replace r3 := cell_later hb r3
        clear hb
        go_wp2_with (first | (go_at_call 31; refine (awake31 _).mono ?_; rintro e w' ⟨rfl, hbq⟩))
        all_goals
          go_ret
          exact ⟨rfl, hB.trans (hbq.mono hB.size)⟩
      · have n1 : ¬ q.x < (boxR ps).x := by omega
        have n2 : ¬ (boxR ps).x + (boxR ps).w < q.x := by omega
        have n3 : ¬ q.y < (boxR ps).y := by omega
        have n4 : ¬ (boxR ps).y + (boxR ps).h < q.y := by omega
        clear hout
        go_wp2_with fail
        refine (where35 A c ps q _ (HS.out.later hB) hcap).mono ?_
        rintro e w2 ⟨rfl, hb⟩
        rw [H0.out]
        replace hB := hB.trans (hb.mono hB.size); replace f1 := cell_later hb f1; replace f2 := cell_later hb f2; replace r0 := cell_later hb r0; replace r1 := cell_later hb r1; replace r2 := cell_later hb r2; replace r3 := cell_later hb r3
        clear hb
        go_wp2_with (first | (go_at_call 31; refine (awake31 _).mono ?_; rintro e w' ⟨rfl, hbq⟩))
        all_goals
          go_ret
          exact ⟨rfl, hB.trans (hbq.mono hB.size)⟩
end Go.Proofs.Ytfgeengdmbabhaa
