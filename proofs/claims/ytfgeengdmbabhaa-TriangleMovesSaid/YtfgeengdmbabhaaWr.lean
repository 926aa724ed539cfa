import Derived.Test.YtfgeengdmbabhaaWq
namespace Go.Proofs.Ytfgeengdmbabhaa
open Go.RowKit
attribute [local go_sem ↓] Go.wp_at_zero Go.wp_at_succ

/-- two new boxes that hold two spots -/
def TwoAt (w : World) (a b : Z2) (u v : Value) (wx : World) : Prop :=
  ∃ ga gb : Nat, u = .pointer (some ⟨ga, 0, none⟩) ∧ v = .pointer (some ⟨gb, 0, none⟩) ∧ w.heap.size ≤ ga ∧ w.heap.size ≤ gb ∧ ga ≠ gb ∧ Blk wx ga 30 #[iv a.x, iv a.y] ∧ Blk wx gb 30 #[iv b.x, iv b.y] ∧ Below w.heap.size w wx
theorem TwoAt.new (w : World) (a b : Z2) : TwoAt w a b (.pointer (some ⟨w.heap.size, 0, none⟩)) (.pointer (some ⟨w.heap.size + 1, 0, none⟩)) ((w.alloc (.cells #[iv a.x, iv a.y] 30)).alloc (.cells #[iv b.x, iv b.y] 30)).drew := by
  have F := two_new w 30 #[iv a.x, iv a.y] #[iv b.x, iv b.y]
  exact ⟨_, _, rfl, rfl, by omega, by omega, by omega, F.1, F.2.1, F.2.2.drew⟩
theorem TwoAt.new' (w : World) (a b : Z2) : TwoAt w a b (.pointer (some ⟨w.heap.size + 1, 0, none⟩)) (.pointer (some ⟨w.heap.size, 0, none⟩)) ((w.alloc (.cells #[iv b.x, iv b.y] 30)).alloc (.cells #[iv a.x, iv a.y] 30)).drew := by
  have F := two_new w 30 #[iv b.x, iv b.y] #[iv a.x, iv a.y]
  exact ⟨_, _, rfl, rfl, by omega, by omega, by omega, F.2.1, F.1, F.2.2.drew⟩

def row2Z (ps : List Z2) (i : Nat) : Bool := !eqZ (pt ps i) (pt ps ((i + 1) % ps.length)) && !onZ (pt ps i) (pt ps ((i + 1) % ps.length)) (pt ps ((i + 2) % ps.length)) && !onZ (pt ps ((i + 1) % ps.length)) (pt ps ((i + 2) % ps.length)) (pt ps i) && (List.range ps.length).all (stepZ ps i)
def simple2Z (ps : List Z2) : Bool := (List.range ps.length).all (row2Z ps)
theorem simple2Z_row {ps : List Z2} {k : Nat} (hk : k < ps.length) (h : row2Z ps k = false) : simple2Z ps = false := by
  cases hs : simple2Z ps with
  | false => rfl
  | true =>
    unfold simple2Z at hs
    rw [List.all_eq_true] at hs
    have := hs k (by simpa using hk)
    rw [h] at this; cases this
theorem row2Z_step {ps : List Z2} {i k : Nat} (hk : k < ps.length) (h : stepZ ps i k = false) : row2Z ps i = false := by
  cases hs : row2Z ps i with
  | false => rfl
  | true =>
    unfold row2Z at hs
    rw [Bool.and_eq_true, List.all_eq_true] at hs
    have := hs.2 k (by simpa using hk)
    rw [h] at this; cases this
def head2Z (ps : List Z2) (i : Nat) : Bool := eqZ (pt ps i) (pt ps ((i + 1) % ps.length)) || onZ (pt ps i) (pt ps ((i + 1) % ps.length)) (pt ps ((i + 2) % ps.length)) || onZ (pt ps ((i + 1) % ps.length)) (pt ps ((i + 2) % ps.length)) (pt ps i)
theorem row2Z_head {ps : List Z2} {i : Nat} (h : head2Z ps i = true) : row2Z ps i = false := by
  unfold head2Z at h
  unfold row2Z
  generalize eqZ _ _ = x at *
  generalize onZ (pt ps i) _ _ = y at *
  generalize onZ (pt ps ((i + 1) % ps.length)) _ _ = z at *
  cases x <;> cases y <;> cases z <;> simp_all
theorem row2Z_ok {ps : List Z2} {k : Nat} (h : head2Z ps k = false) (hs : ∀ m, m < ps.length → stepZ ps k m = true) : row2Z ps k = true := by
  have e : (List.range ps.length).all (stepZ ps k) = true := by rw [List.all_eq_true]; exact fun m hm => hs m (by simpa using hm)
  unfold head2Z at h
  unfold row2Z
  rw [e]
  generalize eqZ _ _ = x at *
  generalize onZ (pt ps k) _ _ = y at *
  generalize onZ (pt ps ((k + 1) % ps.length)) _ _ = z at *
  cases x <;> cases y <;> cases z <;> simp_all
theorem simple2Z_ok {ps : List Z2} (h : ∀ j, j < ps.length → row2Z ps j = true) : simple2Z ps = true := by
  unfold simple2Z
  rw [List.all_eq_true]
  exact fun j hj => h j (by simpa using hj)

set_option maxHeartbeats 2000000 in
/-- garmentref11.simple -/
theorem simple85 (A : Option Addr) (c : Nat) (ps : List Z2) (w : World) (hsp : Sp w A ps) (hn : ps.length ≤ 1000000000) (hbd : ∀ p ∈ ps, Bd p) :
    Calls Try.prog 85 #[.slice A ps.length c] w (SomeBool (· = simple2Z ps) w) := by
  have HS := Lib.hid hsp; clear hsp
  have HD := Lib.hid hbd; clear hbd
  go_enter Try.func85, Try.ntmps85
  go_wp2
  go_loopw [4] (fun i wr2 => ∃ k : Nat, k ≤ ps.length ∧ i = .int .i64 k ∧ (∀ j, j < k → row2Z ps j = true) ∧ Below w.heap.size w wr2) (fun i _ => ps.length - (intOf i).toNat)
  case atStart => exact ⟨0, Nat.zero_le _, rfl, fun j hj => absurd hj (by omega), Below.refl _ _⟩
  case round =>
    obtain ⟨k, hk, rfl, hno, hB⟩ := hrel
    have HR := Lib.hid hno
    clear hno
    by_cases hlt : k < ps.length
    · have hne : ps ≠ [] := by intro h; simp [h] at hlt
      obtain ⟨b, off, rfl, hc⟩ := HS.out.later hB hne
      have hp : 0 < ps.length := by omega
      have l1 : (k + 1) % ps.length < ps.length := Nat.mod_lt _ hp
      have l2 : (k + 2) % ps.length < ps.length := Nat.mod_lt _ hp
      obtain ⟨g1, g2⟩ := hc k hlt
      obtain ⟨g3, g4⟩ := hc _ l1
      obtain ⟨g5, g6⟩ := hc _ l2
      have m1 := mod_one k ps.length
      have m2 := mod_two k ps.length
      generalize e1 : (k + 1) % ps.length = k1 at *
      generalize e2 : (k + 2) % ps.length = k2 at *
      have E1 := Lib.hid e1
      have E2 := Lib.hid e2
      have HC := Lib.hid hc
      clear hc e1 e2
      have nb : b < wr.heap.size := World.block_lt_of_cell? _ _ g1
      have nb2 : b ≠ wr.heap.size := by omega
      have nb3 : b ≠ wr.heap.size + 1 := by omega
      have q1 : (0 : Int) ≤ (k1 : Int) := by omega
      have q2 : (k1 : Int) < (ps.length : Int) := by omega
      have q3 : ((ps.length : Int) == 0) = false := beq_eq_false_iff_ne.2 (by omega)
      have q4 : ¬ ((ps.length : Int) = 0) := by omega
      have t1 : ((k : Int) + 1).tmod (ps.length : Int) = (k1 : Int) := by rw [Int.tmod_eq_emod_of_nonneg (by omega)]; exact m1
      have s1 : IntKind.i64.wrap ((k : Int) + 1) = (k : Int) + 1 := IntWalk.i64_in _ (by omega)
      go_upto_region 5 with fail
      go_cut [5, 6] (fun u v wx => TwoAt wr (pt ps k) (pt ps k1) u v wx)
      case first =>
        go_region
        · go_wp2_with fail
          go_meet
          exact TwoAt.new _ _ _
        · go_wp2_with fail
          go_meet
          exact TwoAt.new' _ _ _
      case rest =>
        obtain ⟨ga, gb, rfl, rfl, na, ngb, nab, Ba, Bb, hbx⟩ := hcut
        clear g1 g2 g3 g4 nb nb2 nb3 t1 s1 m1
        have hBx := hB.trans (hbx.mono hB.size)
        replace g5 := cell_later hbx g5
        replace g6 := cell_later hbx g6
        have f1 := Ba.cell 0; have f2 := Ba.cell 1; have f3 := Bb.cell 0; have f4 := Bb.cell 1
        simp at f1 f2 f3 f4
        clear Ba Bb hbx
        have nb : b < wc.heap.size := World.block_lt_of_cell? _ _ g5
        have nb2 : b ≠ wc.heap.size := by omega
        have q5 : (0 : Int) ≤ (k2 : Int) := by omega
        have q6 : (k2 : Int) < (ps.length : Int) := by omega
        go_upto_region 7 with fail
        have F := boxes1 wc (pt ps k2)
        revert F
        generalize wc.alloc (.cells #[iv (pt ps k2).x, iv (pt ps k2).y] 30) = W
        rintro ⟨hW, f5, f6⟩
        replace hBx := hBx.trans (hW.mono hBx.size)
        replace f1 := cell_later hW f1
        replace f2 := cell_later hW f2
        replace f3 := cell_later hW f3
        replace f4 := cell_later hW f4
        clear hW nb nb2 g5 g6 q5 q6
        generalize wc.heap.size = gc at *
        cases hz : eqZ (pt ps k) (pt ps k1)
        case true =>
          have he : ∀ w, (binOp .eql 30 (sv (pt ps k)) (sv (pt ps k1))).run Try.prog w = .ok (.bool true) w := fun w => by rw [eql30, hz]
          have HZ := Lib.hid hz
          clear hz
          go_wp2_with fail
          go_ret
          refine ⟨false, rfl, (simple2Z_row hlt (row2Z_head ?_)).symm, hBx⟩
          unfold head2Z
          rw [E1.out, HZ.out]; rfl
        case false =>
          have he : ∀ w, (binOp .eql 30 (sv (pt ps k)) (sv (pt ps k1))).run Try.prog w = .ok (.bool false) w := fun w => by rw [eql30, hz]
          have HZ := Lib.hid hz
          clear hz
          cases ho1 : onZ (pt ps k) (pt ps k1) (pt ps k2)
          case true =>
            have HO := Lib.hid ho1
            go_wp2_with (first | (go_at_call 111; refine (between111 _ _ _ _ ?_ ?_ ?_).mono ?_; (exact bd_pt HD.out _); (exact bd_pt HD.out _); (exact bd_pt HD.out _); rintro e w' ⟨rfl, hbq⟩; replace hBx := hBx.trans (hbq.mono hBx.size); replace f1 := cell_later hbq f1; replace f2 := cell_later hbq f2; replace f3 := cell_later hbq f3; replace f4 := cell_later hbq f4; replace f5 := cell_later hbq f5; replace f6 := cell_later hbq f6; clear hbq))
            go_ret
            refine ⟨false, rfl, (simple2Z_row hlt (row2Z_head ?_)).symm, hBx⟩
            unfold head2Z
            rw [E1.out, E2.out, HZ.out, HO.out]; rfl
          case false =>
            cases ho2 : onZ (pt ps k1) (pt ps k2) (pt ps k)
            case true =>
              have HO := Lib.hid (And.intro ho1 ho2)
              go_wp2_with (first | (go_at_call 111; refine (between111 _ _ _ _ ?_ ?_ ?_).mono ?_; (exact bd_pt HD.out _); (exact bd_pt HD.out _); (exact bd_pt HD.out _); rintro e w' ⟨rfl, hbq⟩; replace hBx := hBx.trans (hbq.mono hBx.size); replace f1 := cell_later hbq f1; replace f2 := cell_later hbq f2; replace f3 := cell_later hbq f3; replace f4 := cell_later hbq f4; replace f5 := cell_later hbq f5; replace f6 := cell_later hbq f6; clear hbq))
              go_ret
              refine ⟨false, rfl, (simple2Z_row hlt (row2Z_head ?_)).symm, hBx⟩
              unfold head2Z
              rw [E1.out, E2.out, HZ.out, HO.out.1, HO.out.2]; rfl
            case false =>
              have HH := Lib.hid (show head2Z ps k = false by unfold head2Z; rw [E1.out, E2.out, HZ.out, ho1, ho2]; rfl)
              go_wp2_with (first | (go_at_call 111; refine (between111 _ _ _ _ ?_ ?_ ?_).mono ?_; (exact bd_pt HD.out _); (exact bd_pt HD.out _); (exact bd_pt HD.out _); rintro e w' ⟨rfl, hbq⟩; replace hBx := hBx.trans (hbq.mono hBx.size); replace f1 := cell_later hbq f1; replace f2 := cell_later hbq f2; replace f3 := cell_later hbq f3; replace f4 := cell_later hbq f4; replace f5 := cell_later hbq f5; replace f6 := cell_later hbq f6; clear hbq))
              clear ho1 ho2 HZ he
              go_loopw [8] (fun v wr3 => ∃ j : Nat, k + 2 ≤ j ∧ v = .int .i64 j ∧ j ≤ ps.length + 2 ∧ (∀ m, m < j → m < ps.length → stepZ ps k m = true) ∧ Below w.heap.size w wr3 ∧ wr3.cell? ⟨ga, 0, none⟩ = some (iv (pt ps k).x) ∧ wr3.cell? ⟨ga, 1, none⟩ = some (iv (pt ps k).y) ∧ wr3.cell? ⟨gb, 0, none⟩ = some (iv (pt ps k1).x) ∧ wr3.cell? ⟨gb, 1, none⟩ = some (iv (pt ps k1).y)) (fun v _ => ps.length - (intOf v).toNat)
              case atStart => exact ⟨k + 2, Nat.le_refl _, by go_num, by omega, fun m hm _ => stepZ_low hm, by assumption, by assumption, by assumption, by assumption, by assumption⟩
              case round =>
                clear hBx f1 f2 f3 f4 f5 f6
                obtain ⟨j, hj, rfl, hj2, hst, hB3, f1', f2', f3', f4'⟩ := hrel
                have HT := Lib.hid hst
                clear hst
                by_cases hjn : j < ps.length
                · obtain ⟨_, _, hA, hc⟩ := HS.out.later hB3 hne
                  injection hA with hA
                  injection hA with hA1 hA2
                  subst hA1 hA2
                  have l3 : (j + 1) % ps.length < ps.length := Nat.mod_lt _ hp
                  obtain ⟨g7, g8⟩ := hc j hjn
                  obtain ⟨g9, g10⟩ := hc _ l3
                  have m3 := mod_one j ps.length
                  generalize e3 : (j + 1) % ps.length = j1 at *
                  have E3 := Lib.hid e3
                  clear hc e3
                  have t3 : ((j : Int) + 1).tmod (ps.length : Int) = (j1 : Int) := by rw [Int.tmod_eq_emod_of_nonneg (by omega)]; exact m3
                  have s3 : IntKind.i64.wrap ((j : Int) + 1) = (j : Int) + 1 := IntWalk.i64_in _ (by omega)
                  by_cases hjk : j1 = k
                  · have hd : ((j1 : Int) != (k : Int)) = false := by simp [hjk]
                    have HJ := Lib.hid hjk
                    clear hjk
                    go_wp2_with fail
                    go_quiet (fail)
                    clear t3 s3
                    go_wp2
                    go_roundw
                    case rel =>
                      refine ⟨j + 1, by omega, by go_num, by omega, fun m hm hmn => ?_, bdN hB3 _, f1', f2', f3', f4'⟩
                      by_cases e : m = j
                      · subst e; exact stepZ_wrap (E3.out.trans HJ.out)
                      · exact HT.out m (by omega) hmn
                    case measure => simp [intOf]; omega
                  · have hd : ((j1 : Int) != (k : Int)) = true := by simp; omega
                    have HJ := Lib.hid hjk
                    clear hjk
                    have q5 : (0 : Int) ≤ (j1 : Int) := by omega
                    have q6 : (j1 : Int) < (ps.length : Int) := by omega
                    go_wp2_with fail
                    go_region_held3 (fun w' => Below w.heap.size w w' ∧ w'.cell? ⟨ga, 0, none⟩ = some (iv (pt ps k).x) ∧ w'.cell? ⟨ga, 1, none⟩ = some (iv (pt ps k).y) ∧ w'.cell? ⟨gb, 0, none⟩ = some (iv (pt ps k1).x) ∧ w'.cell? ⟨gb, 1, none⟩ = some (iv (pt ps k1).y)
                        ∧ w'.cell? ⟨b, off + j * 2, none⟩ = some (iv (pt ps j).x) ∧ w'.cell? ⟨b, off + j * 2 + 1, none⟩ = some (iv (pt ps j).y) ∧ w'.cell? ⟨b, off + j1 * 2, none⟩ = some (iv (pt ps j1).x) ∧ w'.cell? ⟨b, off + j1 * 2 + 1, none⟩ = some (iv (pt ps j1).y))
                      (first | exact ⟨hB3.drew, f1', f2', f3', f4', g7, g8, g9, g10⟩ | assumption | (go_split_ands; refine ⟨below_trans (by assumption) hbq, ?_, ?_, ?_, ?_, ?_, ?_, ?_, ?_⟩ <;> exact cell_later hbq (by assumption)))
                      (first | (go_at_call 116; refine (meet116 (pt ps k) (pt ps k1) (pt ps j) (pt ps j1) _ (bd_pt HD.out _) (bd_pt HD.out _) (bd_pt HD.out _) (bd_pt HD.out _)).mono ?_; rintro e w' ⟨rfl, hbq⟩))
                    go_split_ands
                    clear t3 s3
                    cases hm : meetZ (pt ps k) (pt ps k1) (pt ps j) (pt ps j1)
                    case true =>
                      have HM := Lib.hid hm
                      clear hm
                      go_wp2
                      go_ret
                      refine ⟨false, rfl, (simple2Z_row hlt (row2Z_step hjn (stepZ_no hj ?_ ?_))).symm, by assumption⟩
                      · rw [E3.out]; exact HJ.out
                      · rw [E1.out, E3.out]; exact HM.out
                    case false =>
                      have HM := Lib.hid hm
                      clear hm
                      go_wp2
                      go_roundw
                      case rel =>
                        refine ⟨j + 1, by omega, by go_num, by omega, fun m hm hmn => ?_, by assumption, by assumption, by assumption, by assumption, by assumption⟩
                        by_cases e : m = j
                        · subst e; exact stepZ_yes (by rw [E1.out, E3.out]; exact HM.out)
                        · exact HT.out m (by omega) hmn
                      case measure => simp [intOf]; omega
                · go_wp2
                  go_roundw
                  case rel =>
                    refine ⟨k + 1, by omega, by go_num, fun i hi => ?_, hB3⟩
                    by_cases e : i = k
                    · subst e
                      exact row2Z_ok HH.out fun m hm => HT.out m (by omega) hm
                    · exact HR.out i (by omega)
                  case measure => simp [intOf]; omega
    · obtain rfl : k = ps.length := by omega
      go_wp2
      go_ret
      exact ⟨true, rfl, (simple2Z_ok HR.out).symm, hB⟩
end Go.Proofs.Ytfgeengdmbabhaa
