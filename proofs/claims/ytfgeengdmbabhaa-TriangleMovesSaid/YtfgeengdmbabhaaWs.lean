import Derived.Test.YtfgeengdmbabhaaPs
namespace Go.Proofs.Ytfgeengdmbabhaa
open Go.RowKit
attribute [local go_sem ↓] Go.wp_at_zero Go.wp_at_succ

set_option maxHeartbeats 400000 in
/-- garmentref11.Check -/
theorem check46 (A : Option Addr) (n c : Nat) (ps : List Z2) (w : World) (hl : ps.length = n) (hsp : Sp w A ps) :
    Calls Try.prog 46 #[.slice A n c] w fun e w' => e = .returned (iv (chkZ ps)) ∧ Below w.heap.size w w' := by
  subst hl
  have HS := Lib.hid hsp; clear hsp
  by_cases h1 : 40 < ps.length
  · have HE := Lib.hid (show chkZ ps = 5 by simp [chkZ, h1])
    go_enter Try.func46, Try.ntmps46
    go_wp2
    go_ret
    exact ⟨ret_int HE.out.symm, Below.refl _ _⟩
  by_cases h2 : ps.length < 3
  · have HE := Lib.hid (show chkZ ps = 11 by simp [chkZ, h1, h2])
    go_enter Try.func46, Try.ntmps46
    go_wp2
    go_ret
    exact ⟨ret_int HE.out.symm, Below.refl _ _⟩
  go_enter Try.func46, Try.ntmps46
  go_wp2
  go_loopw [3] (fun i wr => ∃ k : Nat, k ≤ ps.length ∧ i = .int .i64 k ∧ (∀ j, j < k → outZ (pt ps j) = false) ∧ Below w.heap.size w wr) (fun i _ => ps.length - (intOf i).toNat)
  case atStart => exact ⟨0, Nat.zero_le _, rfl, fun j hj => absurd hj (by omega), Below.refl _ _⟩
  case round =>
    obtain ⟨k, hk, rfl, hno, hB⟩ := hrel
    have HN := Lib.hid hno
    clear hno
    by_cases hlt : k < ps.length
    · have hne : ps ≠ [] := by intro h; simp [h] at hlt
      obtain ⟨b, off, rfl, hc⟩ := HS.out.later hB hne
      obtain ⟨g1, g2⟩ := hc k hlt
      clear hc
      cases ho : outZ (pt ps k)
      case true =>
        have HE := Lib.hid (show chkZ ps = 3 by
          have : ps.any outZ = true := List.any_eq_true.2 ⟨_, pt_mem hlt, ho⟩
          unfold chkZ; rw [if_neg h1, if_neg h2, this]; rfl)
        have hd : (!outZ (pt ps k)) = false := by rw [ho]; rfl
        clear ho
        go_wp2_with fail
        refine (within43 (pt ps k) _).mono ?_
        rintro e w1 ⟨rfl, hb1⟩
        rw [hd]
        go_wp2
        go_ret
        exact ⟨ret_int HE.out.symm, hB.trans (hb1.mono hB.size)⟩
      case false =>
        have hd : (!outZ (pt ps k)) = true := by rw [ho]; rfl
        have HO := Lib.hid ho
        clear ho
        go_wp2_with fail
        refine (within43 (pt ps k) _).mono ?_
        rintro e w1 ⟨rfl, hb1⟩
        rw [hd]
        go_wp2
        go_roundw
        case rel =>
          refine ⟨k + 1, by omega, by go_num, fun j hj => ?_, hB.trans (hb1.mono hB.size)⟩
          by_cases e : j = k
          · subst e; exact HO.out
          · exact HN.out j (by omega)
        case measure => simp [intOf]; omega
    · obtain rfl : k = ps.length := by omega
      have h3 : ps.any outZ = false := List.any_eq_false.2 fun x hx => by
        obtain ⟨j, hj, rfl⟩ := List.getElem_of_mem hx
        have := HN.out j hj
        rw [pt_eq hj] at this
        simp [this]
      have HE := Lib.hid (show chkZ ps = if simple2Z ps then 0 else 11 by unfold chkZ; rw [if_neg h1, if_neg h2, h3, simple2Z_eq (by omega)]; rfl)
      have HD := Lib.hid (bd_of_in h3)
      clear h3
      go_wp2_with fail
      refine (simple85 A c ps _ (HS.out.later hB) (by omega) HD.out).mono ?_
      rintro e w2 ⟨b, rfl, hb, hb2⟩
      have HB := Lib.hid hb
      clear hb
      cases b
      all_goals
        go_wp2
        go_ret
        exact ⟨ret_int (by rw [HE.out, ← HB.out]; rfl), hB.trans (hb2.mono hB.size)⟩

theorem parTo_pm (ps : List Z2) (q : Z2) (k : Nat) : parTo ps q k = 1 ∨ parTo ps q k = -1 := by
  induction k with
  | zero => simp [parTo]
  | succ k ih => simp only [parTo]; split <;> omega
def insTo (ps : List Z2) (q : Z2) (k : Nat) : Bool := decide (parTo ps q k = 1)
theorem insTo_succ (ps : List Z2) (q : Z2) (k : Nat) : insTo ps q (k + 1) = if crossesZ (pt ps k) (pt ps ((k + 1) % ps.length)) q then !insTo ps q k else insTo ps q k := by
  unfold insTo
  rw [parTo_succ]
  rcases parTo_pm ps q k with h | h <;> rw [h] <;> cases crossesZ (pt ps k) (pt ps ((k + 1) % ps.length)) q <;> rfl

set_option maxHeartbeats 4000000 in
/-- garmentref11.Place -/
theorem place82 (A : Option Addr) (n c : Nat) (ps : List Z2) (q : Z2) (w : World) (hl : ps.length = n) (hsp : Sp w A ps) (hn : n ≤ 100000) (hbd : ∀ p ∈ ps, Bd p) :
    Calls Try.prog 82 #[.slice A n c, sv q] w fun e w' => e = .returned (iv (placeZ ps q)) ∧ Below w.heap.size w w' := by
  subst hl
  have HS := Lib.hid hsp; clear hsp
  have HD := Lib.hid hbd; clear hbd
  go_enter Try.func82, Try.ntmps82
  go_wp2_with fail
  have F := boxes1 w q
  revert F
  generalize w.alloc (.cells #[iv q.x, iv q.y] 30) = W
  rintro ⟨hW, f1, f2⟩
  refine (within43 q _).mono ?_
  rintro e w1 ⟨rfl, hb1⟩
  replace f1 := cell_later hb1 f1
  replace f2 := cell_later hb1 f2
  have hB1 := below_trans hW hb1
  clear hb1 hW W
  cases ho : outZ q
  case true =>
    have HO := Lib.hid ho
    clear ho
    simp only [Bool.not_true]
    go_wp2
    go_ret
    refine ⟨ret_int ?_, hB1⟩
    unfold placeZ
    rw [HO.out]; rfl
  case false =>
    have HO := Lib.hid ho
    have HQ := Lib.hid (bd_of_out ho)
    clear ho
    simp only [Bool.not_false]
    go_wp2
    go_loopw [5, 6] (fun v i wr => ∃ k : Nat, k ≤ ps.length ∧ i = .int .i64 k ∧ v = .bool (insTo ps q k) ∧ (∀ j, j < k → onZ (pt ps j) (nx ps j) q = false) ∧ Below w.heap.size w wr ∧ wr.cell? ⟨w.heap.size, 0, none⟩ = some (iv q.x) ∧ wr.cell? ⟨w.heap.size, 1, none⟩ = some (iv q.y)) (fun _ i _ => ps.length - (intOf i).toNat)
    case atStart => exact ⟨0, Nat.zero_le _, rfl, rfl, fun j hj => absurd hj (by omega), hB1, f1, f2⟩
    case round =>
      clear f1 f2 hB1
      obtain ⟨k, hk, rfl, rfl, hno, hB, f1, f2⟩ := hrel
      have HN := Lib.hid hno
      clear hno
      by_cases hlt : k < ps.length
      · have hne : ps ≠ [] := by intro h; simp [h] at hlt
        have hp : 0 < ps.length := by omega
        obtain ⟨b, off, rfl, hc⟩ := HS.out.later hB hne
        have l1 : (k + 1) % ps.length < ps.length := Nat.mod_lt _ hp
        obtain ⟨g1, g2⟩ := hc k hlt
        obtain ⟨g3, g4⟩ := hc _ l1
        have m1 := mod_one k ps.length
        have HP := Lib.hid (insTo_succ ps q k)
        have HX := Lib.hid (show nx ps k = pt ps ((k + 1) % ps.length) from rfl)
        generalize e1 : (k + 1) % ps.length = k1 at *
        clear hc e1
        have nb : b < wr.heap.size := World.block_lt_of_cell? _ _ g1
        have nb2 : b ≠ wr.heap.size := by omega
        have nb3 : b ≠ wr.heap.size + 1 := by omega
        have q1 : (0 : Int) ≤ (k1 : Int) := by omega
        have q2 : (k1 : Int) < (ps.length : Int) := by omega
        have q3 : ((ps.length : Int) == 0) = false := beq_eq_false_iff_ne.2 (by omega)
        have q4 : ¬ ((ps.length : Int) = 0) := by omega
        have t1 : ((k : Int) + 1).tmod (ps.length : Int) = (k1 : Int) := by rw [Int.tmod_eq_emod_of_nonneg (by omega)]; exact m1
        have s1 : IntKind.i64.wrap ((k : Int) + 1) = (k : Int) + 1 := IntWalk.i64_in _ (by omega)
        go_upto_region 7 with fail
        go_cut [7, 8] (fun u v wx => TwoAt wr (pt ps k) (pt ps k1) u v wx)
        case first =>
          go_region
          · go_wp2_with fail
            go_meet
            exact TwoAt.new _ _ _
          · go_wp2_with fail
            go_meet
            exact TwoAt.new' _ _ _
        case rest =>
          obtain ⟨ga, gb, rfl, rfl, na, ngb, nab, Ba, Bb, hbx⟩ := hcut
          clear g1 g2 g3 g4 nb nb2 nb3 t1 s1 m1 q1 q2 q3 q4
          have hBx := hB.trans (hbx.mono hB.size)
          replace f1 := cell_later hbx f1
          replace f2 := cell_later hbx f2
          have f3 := Ba.cell 0; have f4 := Ba.cell 1; have f5 := Bb.cell 0; have f6 := Bb.cell 1
          simp at f3 f4 f5 f6
          clear Ba Bb hbx
          cases hon : onZ (pt ps k) (pt ps k1) q
          case true =>
            have HON := Lib.hid hon
            go_wp2_with (first | (go_at_call 111; refine (between111 _ _ _ _ ?_ ?_ ?_).mono ?_; (exact bd_pt HD.out _); (exact bd_pt HD.out _); (exact HQ.out); rintro e w' ⟨rfl, hbq⟩))
            go_ret
            refine ⟨ret_int ?_, hBx.trans (hbq.mono hBx.size)⟩
            have : onAny ps q = true := List.any_eq_true.2 ⟨k, by simpa using hlt, by simp only [HX.out]; exact HON.out⟩
            unfold placeZ
            rw [HO.out, this]
            rfl
          case false =>
            have HON := Lib.hid hon
            go_upto_region 8 with fail
            go_wp2_with (first | (go_at_call 111; refine (between111 _ _ _ _ ?_ ?_ ?_).mono ?_; (exact bd_pt HD.out _); (exact bd_pt HD.out _); (exact HQ.out); rintro e w' ⟨rfl, hbq⟩; replace hBx := hBx.trans (hbq.mono hBx.size); replace f1 := cell_later hbq f1; replace f2 := cell_later hbq f2; replace f3 := cell_later hbq f3; replace f4 := cell_later hbq f4; replace f5 := cell_later hbq f5; replace f6 := cell_later hbq f6; clear hbq) | (go_at_call 41; refine (cross41 _ _ _ _ ?_ ?_ ?_).mono ?_; (exact bd_pt HD.out _); (exact bd_pt HD.out _); (exact HQ.out); rintro e w' ⟨rfl, hbq⟩; replace hBx := hBx.trans (hbq.mono hBx.size); replace f1 := cell_later hbq f1; replace f2 := cell_later hbq f2; replace f3 := cell_later hbq f3; replace f4 := cell_later hbq f4; replace f5 := cell_later hbq f5; replace f6 := cell_later hbq f6; clear hbq))
            all_goals
              go_roundw
              case rel =>
                refine ⟨k + 1, by omega, by go_num, congrArg Value.bool ?_, fun j hj => ?_, hBx, f1, f2⟩
                · rw [HP.out]
                  first
                    | rw [if_pos ((cross_iff _ _ _).2 (by omega))]
                    | rw [if_neg (fun h => by have := (cross_iff _ _ _).1 h; omega)]
                · by_cases e : j = k
                  · subst e; rw [HX.out]; exact HON.out
                  · exact HN.out j (by omega)
              case measure => simp [intOf]; omega
      · obtain rfl : k = ps.length := by omega
        have hon : onAny ps q = false := List.any_eq_false.2 fun j hj => by
          have := HN.out j (by simpa using hj)
          simp [this]
        have HE := Lib.hid (show placeZ ps q = parTo ps q ps.length by unfold placeZ; rw [HO.out, hon]; rfl)
        clear hon
        have hpm := parTo_pm ps q ps.length
        cases hi : insTo ps q ps.length
        case true =>
          have HI := Lib.hid (show parTo ps q ps.length = 1 by simpa [insTo] using hi)
          clear hi hpm
          go_wp2
          go_ret
          exact ⟨ret_int (by rw [HE.out, HI.out]), hB⟩
        case false =>
          have HI := Lib.hid (show parTo ps q ps.length = -1 from hpm.resolve_left (by simpa [insTo] using hi))
          clear hi hpm
          go_wp2
          go_ret
          exact ⟨ret_int (by rw [HE.out, HI.out]), hB⟩

set_option maxHeartbeats 400000 in
/-- garmentref11.Where -/
theorem where36 (A : Option Addr) (n c : Nat) (ps : List Z2) (q : Z2) (w : World) (hl : ps.length = n) (hsp : Sp w A ps) :
    Calls Try.prog 36 #[.slice A n c, sv q] w fun e w' => e = .returned (.tuple #[iv (whereZ ps q), iv (chkZ ps)]) ∧ Below w.heap.size w w' := by
  have HS := Lib.hid hsp; clear hsp
  have HL := Lib.hid hl
  by_cases h0 : chkZ ps = 0
  · have H0 := Lib.hid h0
    obtain ⟨hl40, _, hD, _, _⟩ := chkZ_zero h0
    have HD := Lib.hid hD
    clear h0 hD
    go_enter Try.func36, Try.ntmps36
    go_wp2_with fail
    have F := boxes1 w q
    revert F
    generalize w.alloc (.cells #[iv q.x, iv q.y] 30) = W
    rintro ⟨hW, f1, f2⟩
    refine (check46 A n c ps _ HL.out (HS.out.later hW)).mono ?_
    rintro e w1 ⟨rfl, hb1⟩
    replace f1 := cell_later hb1 f1
    replace f2 := cell_later hb1 f2
    have hB1 := below_trans hW hb1
    clear hb1 hW W
    rw [H0.out]
    go_wp2_with fail
    refine (place82 A n c ps q _ HL.out (HS.out.later hB1) (by omega) HD.out).mono ?_
    rintro e w2 ⟨rfl, hb2⟩
    go_wp2
    go_ret2
    refine ⟨?_, below_trans hB1 hb2⟩
    rw [whereZ_pos H0.out, H0.out]
    rfl
  · have H0 := Lib.hid h0
    have hd : (chkZ ps != 0) = true := by simpa using h0
    clear h0
    go_enter Try.func36, Try.ntmps36
    go_wp2_with fail
    refine (check46 A n c ps _ HL.out (HS.out.later (below_alloc _ _))).mono ?_
    rintro e w1 ⟨rfl, hb1⟩
    go_wp2
    go_ret2
    refine ⟨?_, below_trans (below_alloc _ _) hb1⟩
    rw [whereZ_neg H0.out]
    rfl
set_option maxRecDepth 100000 in
set_option maxHeartbeats 1000000 in
/-- garmentlaw11.PolygonWheres -/
theorem lawWheres (A : Option Addr) (c : Nat) (ps : List Z2) (q : Z2) (w : World) (hsp : Sp w A ps) (hcap : ps.length ≤ c) :
    Calls Try.prog 4 #[.slice A ps.length c, sv q] w fun e w' => e = .returned (.bool true) ∧ Below w.heap.size w w' := by
  have HS := Lib.hid hsp; clear hsp
  by_cases hf : ps.length ≤ 50
  · have dF := decide_eq_true hf
    go_enter Try.func4, Try.ntmps4
    go_wp2_with fail
    refine (few30 _ _ _ _).mono ?_
    rintro e w1 ⟨rfl, rfl⟩
    have F := boxes1 w q
    revert F
    generalize w.alloc (.cells #[iv q.x, iv q.y] 30) = W
    rintro ⟨hW, f1, f2⟩
    rw [dF]
    clear dF
    go_wp2_with fail
    refine (where35 A c ps q _ (HS.out.later hW) hcap).mono ?_
    rintro e w2 ⟨rfl, hb⟩
    replace f1 := cell_later hb f1; replace f2 := cell_later hb f2
    have H2 := Lib.hid (below_trans hW hb)
    clear hb hW
    go_wp2_with fail
    refine (where36 A _ c ps q _ rfl (HS.out.later H2.out)).mono ?_
    rintro e w3 ⟨rfl, hb⟩
    have H3 := Lib.hid (below_trans H2.out hb)
    clear hb H2 f1 f2
    go_wp2_with fail
    refine (awake31 _).mono ?_
    rintro e w8 ⟨rfl, hb⟩
    have H8 := Lib.hid (below_trans H3.out hb)
    clear hb H3
    go_wp2
    go_ret
    exact ⟨rfl, H8.out⟩
  · have dF := decide_eq_false hf
    go_enter Try.func4, Try.ntmps4
    go_wp2_with fail
    refine (few30 _ _ _ _).mono ?_
    rintro e w1 ⟨rfl, rfl⟩
    rw [dF]
    go_wp2_with fail
    refine (awake31 _).mono ?_
    rintro e w8 ⟨rfl, hb⟩
    go_wp2
    go_ret
    exact ⟨rfl, below_trans (below_alloc _ _) hb⟩
end Go.Proofs.Ytfgeengdmbabhaa
