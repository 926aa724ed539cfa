import Derived.Test.YtfgeengdmbabhaaWb
namespace Go.Proofs.Ytfgeengdmbabhaa
open Go.RowKit
attribute [local go_sem ↓] Go.wp_at_zero Go.wp_at_succ

theorem contains113' (A : Option Addr) (n c : Nat) (ps : List Z2) (q : Z2) (w : World) (hl : ps.length = n) (hsp : Sp w A ps) (hn : n ≤ 1000000000) :
    Calls Try.prog 113 #[.slice A n c, sv q] w fun e w' => e = .returned (.bool (decide (q ∈ ps))) ∧ Below w.heap.size w w' := by
  subst hl; exact contains113 A c ps q w hsp hn

theorem Sp.take {w : World} {A : Option Addr} {ps : List Z2} (h : Sp w A ps) (n : Nat) : Sp w A (ps.take n) := fun hne => by
  obtain ⟨b, off, hA, hc⟩ := h (by rintro rfl; simp at hne)
  refine ⟨b, off, hA, fun k hk => ?_⟩
  have hk' : k < n ∧ k < ps.length := by simp at hk; omega
  have e : pt (ps.take n) k = pt ps k := by simp [pt, hk'.1]
  rw [e]; exact hc k hk'.2

def stepZ (ps : List Z2) (i k : Nat) : Bool := decide (k < i + 2) || decide ((k + 1) % ps.length = i) || !meetZ (pt ps i) (pt ps ((i + 1) % ps.length)) (pt ps k) (pt ps ((k + 1) % ps.length))
def rowZ (ps : List Z2) (i : Nat) : Bool := !foldedZ (pt ps i) (pt ps ((i + 1) % ps.length)) (pt ps ((i + 2) % ps.length)) && (List.range ps.length).all (stepZ ps i)
def simpleZ (ps : List Z2) : Bool := (List.range ps.length).all (fun i => !(ps.take i).contains (pt ps i)) && (List.range ps.length).all (rowZ ps)

theorem bd_pt {ps : List Z2} (h : ∀ p ∈ ps, Bd p) (k : Nat) : Bd (pt ps k) := by
  by_cases hk : k < ps.length
  · exact h _ (pt_mem hk)
  · have : pt ps k = ⟨0, 0⟩ := by simp [pt, hk]
    rw [this]; unfold Bd; simp

def SomeBool (P : Bool → Prop) (w : World) (e : Ending) (w' : World) : Prop := ∃ b : Bool, e = .returned (.bool b) ∧ P b ∧ Below w.heap.size w w'

theorem boxes1 (w : World) (a : Z2) : Below w.heap.size w (w.alloc (.cells #[iv a.x, iv a.y] 30)) ∧ (w.alloc (.cells #[iv a.x, iv a.y] 30)).cell? ⟨w.heap.size, 0, none⟩ = some (iv a.x) ∧ (w.alloc (.cells #[iv a.x, iv a.y] 30)).cell? ⟨w.heap.size, 1, none⟩ = some (iv a.y) :=
  ⟨below_alloc _ _, by simp, by simp⟩

theorem modC (k j n : Nat) : ((k : Int) + (j : Int)) % (n : Int) = (((k + j) % n : Nat) : Int) := by
  rw [Int.natCast_emod]; rfl
theorem mod_one (k n : Nat) : ((k : Int) + 1) % (n : Int) = (((k + 1) % n : Nat) : Int) := modC k 1 n
theorem mod_two (k n : Nat) : ((k : Int) + 2) % (n : Int) = (((k + 2) % n : Nat) : Int) := modC k 2 n

theorem simpleZ_dup {ps : List Z2} {k : Nat} (hk : k < ps.length) (h : pt ps k ∈ ps.take k) : simpleZ ps = false := by
  cases hs : simpleZ ps with
  | false => rfl
  | true =>
    unfold simpleZ at hs
    rw [Bool.and_eq_true, List.all_eq_true] at hs
    have := hs.1 k (by simpa using hk)
    simp [h] at this
theorem simpleZ_row {ps : List Z2} {k : Nat} (hk : k < ps.length) (h : rowZ ps k = false) : simpleZ ps = false := by
  cases hs : simpleZ ps with
  | false => rfl
  | true =>
    unfold simpleZ at hs
    rw [Bool.and_eq_true, List.all_eq_true, List.all_eq_true] at hs
    have := hs.2 k (by simpa using hk)
    rw [h] at this; cases this
theorem rowZ_step {ps : List Z2} {i k : Nat} (hk : k < ps.length) (h : stepZ ps i k = false) : rowZ ps i = false := by
  cases hs : rowZ ps i with
  | false => rfl
  | true =>
    unfold rowZ at hs
    rw [Bool.and_eq_true, List.all_eq_true] at hs
    have := hs.2 k (by simpa using hk)
    rw [h] at this; cases this

theorem rowZ_ok {ps : List Z2} {k : Nat} (h : foldedZ (pt ps k) (pt ps ((k + 1) % ps.length)) (pt ps ((k + 2) % ps.length)) = false) (hs : ∀ m, m < ps.length → stepZ ps k m = true) : rowZ ps k = true := by
  unfold rowZ
  rw [h, Bool.and_eq_true, List.all_eq_true]
  exact ⟨rfl, fun m hm => hs m (by simpa using hm)⟩
theorem rowZ_fold {ps : List Z2} {k : Nat} (h : foldedZ (pt ps k) (pt ps ((k + 1) % ps.length)) (pt ps ((k + 2) % ps.length)) = true) : rowZ ps k = false := by
  unfold rowZ; rw [h]; rfl
theorem simpleZ_ok {ps : List Z2} (h1 : ∀ j, j < ps.length → (!(ps.take j).contains (pt ps j)) = true) (h2 : ∀ j, j < ps.length → rowZ ps j = true) : simpleZ ps = true := by
  unfold simpleZ
  rw [Bool.and_eq_true, List.all_eq_true, List.all_eq_true]
  exact ⟨fun j hj => h1 j (by simpa using hj), fun j hj => h2 j (by simpa using hj)⟩
theorem last_of {j k n : Nat} (h : (j + 1) % n = k) (h1 : k + 2 ≤ j) (h2 : j < n) : j + 1 = n := by
  by_cases e : j + 1 < n
  · rw [Nat.mod_eq_of_lt e] at h; omega
  · omega
theorem stepZ_low {ps : List Z2} {i k : Nat} (h : k < i + 2) : stepZ ps i k = true := by simp [stepZ, h]
theorem stepZ_wrap {ps : List Z2} {i k : Nat} (h : (k + 1) % ps.length = i) : stepZ ps i k = true := by simp [stepZ, h]
theorem stepZ_yes {ps : List Z2} {i k : Nat} (h : meetZ (pt ps i) (pt ps ((i + 1) % ps.length)) (pt ps k) (pt ps ((k + 1) % ps.length)) = false) : stepZ ps i k = true := by simp [stepZ, h]
theorem stepZ_no {ps : List Z2} {i k : Nat} (h1 : i + 2 ≤ k) (h2 : (k + 1) % ps.length ≠ i) (h : meetZ (pt ps i) (pt ps ((i + 1) % ps.length)) (pt ps k) (pt ps ((k + 1) % ps.length)) = true) : stepZ ps i k = false := by
  simp [stepZ, h, h2]; omega

set_option maxHeartbeats 1000000 in
/-- polygon.simple -/
theorem simple84 (A : Option Addr) (c : Nat) (ps : List Z2) (w : World) (hsp : Sp w A ps) (hn : ps.length ≤ 1000000000) (hcap : ps.length ≤ c) (hbd : ∀ p ∈ ps, Bd p) :
    Calls Try.prog 84 #[.slice A ps.length c] w (SomeBool (· = simpleZ ps) w) := by
  have HS := Lib.hid hsp; clear hsp
  have HD := Lib.hid hbd; clear hbd
  go_enter Try.func84, Try.ntmps84
  go_wp2
  go_loopw [14] (fun i wr => ∃ k : Nat, k ≤ ps.length ∧ i = .int .i64 k ∧ (∀ j, j < k → (!(ps.take j).contains (pt ps j)) = true) ∧ Below w.heap.size w wr) (fun i _ => ps.length - (intOf i).toNat)
  case atStart => exact ⟨0, Nat.zero_le _, rfl, fun j hj => absurd hj (by omega), Below.refl _ _⟩
  case round =>
    obtain ⟨k, hk, rfl, hno, hB⟩ := hrel
    have HN := Lib.hid hno
    clear hno
    by_cases hlt : k < ps.length
    · have hne : ps ≠ [] := by intro h; simp [h] at hlt
      obtain ⟨b, off, rfl, hc⟩ := HS.out.later hB hne
      obtain ⟨g1, g2⟩ := hc k hlt
      have HC := Lib.hid hc
      clear hc hne
      have i1 : (0 : Int) ≤ (k : Int) := by omega
      have i2 : (k : Int) ≤ (c : Int) := by omega
      go_wp2
      have F := boxes1 wr (pt ps k)
      revert F
      generalize wr.alloc (.cells #[iv (pt ps k).x, iv (pt ps k).y] 30) = W
      rintro ⟨hW, f1, f2⟩
      have hB' := hB.trans (hW.mono hB.size)
      go_region_held3 (fun w' => Below w.heap.size w w' ∧ w'.cell? ⟨wr.heap.size, 0, none⟩ = some (iv (pt ps k).x) ∧ w'.cell? ⟨wr.heap.size, 1, none⟩ = some (iv (pt ps k).y))
        (first | exact ⟨hB'.drew, f1, f2⟩ | assumption | (go_split_ands; refine ⟨below_trans (by assumption) hbq, ?_, ?_⟩ <;> exact cell_later hbq (by assumption)))
        (first | (go_at_call 113; refine (contains113' _ k _ (ps.take k) (pt ps k) _ ?_ ?_ ?_).mono ?_; (simp; omega); exact ((HS.out.later hB').drew).take k; omega; rintro e w' ⟨rfl, hbq⟩))
      go_split_ands
      go_wp2
      · have h : pt ps k ∈ ps.take k := by assumption
        go_ret
        exact ⟨false, rfl, (simpleZ_dup hlt h).symm, by assumption⟩
      · have h : ¬ pt ps k ∈ ps.take k := by assumption
        go_roundw
        case rel =>
          refine ⟨k + 1, by omega, by go_num, fun j hj => ?_, by assumption⟩
          by_cases e : j = k
          · subst e; simp [h]
          · exact HN.out j (by omega)
        case measure => simp [intOf]; omega
    · go_wp2
      obtain rfl : k = ps.length := by omega
      go_loopw [27] (fun i wr2 => ∃ k : Nat, k ≤ ps.length ∧ i = .int .i64 k ∧ (∀ j, j < k → rowZ ps j = true) ∧ Below w.heap.size w wr2) (fun i _ => ps.length - (intOf i).toNat)
      case atStart => exact ⟨0, Nat.zero_le _, rfl, fun j hj => absurd hj (by omega), hB⟩
      case round =>
        clear hB
        rename_i wr2 _ _ _
        obtain ⟨k, hk, rfl, hno, hB⟩ := hrel
        have HR := Lib.hid hno
        clear hno
        by_cases hlt : k < ps.length
        · have hne : ps ≠ [] := by intro h; simp [h] at hlt
          obtain ⟨b, off, rfl, hc⟩ := HS.out.later hB hne
          have hp : 0 < ps.length := by omega
          have l1 : (k + 1) % ps.length < ps.length := Nat.mod_lt _ hp
          have l2 : (k + 2) % ps.length < ps.length := Nat.mod_lt _ hp
          obtain ⟨g1, g2⟩ := hc k hlt
          obtain ⟨g3, g4⟩ := hc _ l1
          obtain ⟨g5, g6⟩ := hc _ l2
          have m1 := mod_one k ps.length
          have m2 := mod_two k ps.length
          generalize e1 : (k + 1) % ps.length = k1 at *
          generalize e2 : (k + 2) % ps.length = k2 at *
          have E1 := Lib.hid e1
          have E2 := Lib.hid e2
          have HC := Lib.hid hc
          clear hc e1 e2
          have nb : b < wr.heap.size := World.block_lt_of_cell? _ _ g1
          have nb2 : b ≠ wr.heap.size := by omega
          have nb3 : b ≠ wr.heap.size + 1 := by omega
          have q1 : (0 : Int) ≤ (k2 : Int) := by omega
          have q2 : (k2 : Int) < (ps.length : Int) := by omega
          have q3 : ((ps.length : Int) == 0) = false := beq_eq_false_iff_ne.2 (by omega)
          have q4 : ¬ ((ps.length : Int) = 0) := by omega
          have t2 : ((k : Int) + 2).tmod (ps.length : Int) = (k2 : Int) := by rw [Int.tmod_eq_emod_of_nonneg (by omega)]; exact m2
          have s2 : IntKind.i64.wrap ((k : Int) + 2) = (k : Int) + 2 := IntWalk.i64_in _ (by omega)
          go_wp2_with fail
          have F := boxes2 wr (pt ps k) (pt ps k1)
          revert F
          generalize ((wr.alloc (.cells #[iv (pt ps k).x, iv (pt ps k).y] 30)).alloc (.cells #[iv (pt ps k1).x, iv (pt ps k1).y] 30)) = W
          rintro ⟨hW, f1, f2, f3, f4⟩
          have hB' := hB.trans (hW.mono hB.size)
          replace g1 := cell_later hW g1; replace g2 := cell_later hW g2; replace g3 := cell_later hW g3; replace g4 := cell_later hW g4; replace g5 := cell_later hW g5; replace g6 := cell_later hW g6
          go_region_held3 (fun w' => Below w.heap.size w w' ∧ w'.cell? ⟨wr.heap.size, 0, none⟩ = some (iv (pt ps k).x) ∧ w'.cell? ⟨wr.heap.size, 1, none⟩ = some (iv (pt ps k).y) ∧ w'.cell? ⟨wr.heap.size + 1, 0, none⟩ = some (iv (pt ps k1).x) ∧ w'.cell? ⟨wr.heap.size + 1, 1, none⟩ = some (iv (pt ps k1).y)
              ∧ w'.cell? ⟨b, off + k2 * 2, none⟩ = some (iv (pt ps k2).x) ∧ w'.cell? ⟨b, off + k2 * 2 + 1, none⟩ = some (iv (pt ps k2).y))
            (first | exact ⟨hB'.drew, f1, f2, f3, f4, g5, g6⟩ | assumption | (go_split_ands; refine ⟨below_trans (by assumption) hbq, ?_, ?_, ?_, ?_, ?_, ?_⟩ <;> exact cell_later hbq (by assumption)))
            (first | (go_at_call 114; refine (folded114 (pt ps k) (pt ps k1) (pt ps k2) _ (bd_pt HD.out _) (bd_pt HD.out _) (bd_pt HD.out _)).mono ?_; rintro e w' ⟨rfl, hbq⟩))
          go_split_ands
          clear s2 t2 m1 m2
          cases hfb : foldedZ (pt ps k) (pt ps k1) (pt ps k2)
          case true =>
            have HF := Lib.hid hfb
            clear hfb
            go_wp2
            go_ret
            refine ⟨false, rfl, (simpleZ_row hlt (rowZ_fold ?_)).symm, by assumption⟩
            rw [E1.out, E2.out]; exact HF.out
          case false =>
            have HF := Lib.hid hfb
            clear hfb
            go_wp2
            obtain ⟨wo, rfl⟩ : ∃ wo : World, wo = wr := ⟨_, rfl⟩
            go_loopw [9] (fun v wr3 => ∃ j : Nat, k + 2 ≤ j ∧ v = .int .i64 j ∧ j ≤ ps.length + 2 ∧ (∀ m, m < j → m < ps.length → stepZ ps k m = true) ∧ Below w.heap.size w wr3 ∧ wr3.cell? ⟨wo.heap.size, 0, none⟩ = some (iv (pt ps k).x) ∧ wr3.cell? ⟨wo.heap.size, 1, none⟩ = some (iv (pt ps k).y) ∧ wr3.cell? ⟨wo.heap.size + 1, 0, none⟩ = some (iv (pt ps k1).x) ∧ wr3.cell? ⟨wo.heap.size + 1, 1, none⟩ = some (iv (pt ps k1).y)) (fun v _ => ps.length - (intOf v).toNat)
            case atStart => exact ⟨k + 2, Nat.le_refl _, by go_num, by omega, fun m hm _ => stepZ_low hm, by assumption, by assumption, by assumption, by assumption, by assumption⟩
            case round =>
              obtain ⟨j, hj, rfl, hj2, hst, hB3, f1', f2', f3', f4'⟩ := hrel
              have HT := Lib.hid hst
              clear hst
              by_cases hjn : j < ps.length
              · obtain ⟨_, _, hA, hc⟩ := HS.out.later hB3 hne
                injection hA with hA
                injection hA with hA1 hA2
                subst hA1 hA2
                have l3 : (j + 1) % ps.length < ps.length := Nat.mod_lt _ hp
                obtain ⟨g7, g8⟩ := hc j hjn
                obtain ⟨g9, g10⟩ := hc _ l3
                have m3 := mod_one j ps.length
                generalize e3 : (j + 1) % ps.length = j1 at *
                have E3 := Lib.hid e3
                clear hc e3
                by_cases hjk : j1 = k
                · have hd : ((j1 : Int) != (k : Int)) = false := by simp [hjk]
                  have HJ := Lib.hid hjk
                  clear hjk
                  go_wp2
                  go_roundw
                  case rel =>
                    refine ⟨k + 1, by omega, by go_num, fun i hi => ?_, hB3⟩
                    by_cases e : i = k
                    · subst e
                      refine rowZ_ok (by rw [E1.out, E2.out]; exact HF.out) fun m hm => ?_
                      by_cases hmj : m < j
                      · exact HT.out m hmj hm
                      · have := last_of (E3.out.trans HJ.out) hj hjn
                        obtain rfl : m = j := by omega
                        exact stepZ_wrap (E3.out.trans HJ.out)
                    · exact HR.out i (by omega)
                  case measure => simp [intOf]; omega
                · have hd : ((j1 : Int) != (k : Int)) = true := by simp; omega
                  have HJ := Lib.hid hjk
                  clear hjk
                  have q5 : (0 : Int) ≤ (j1 : Int) := by omega
                  have q6 : (j1 : Int) < (ps.length : Int) := by omega
                  have t3 : ((j : Int) + 1).tmod (ps.length : Int) = (j1 : Int) := by rw [Int.tmod_eq_emod_of_nonneg (by omega)]; exact m3
                  have s3 : IntKind.i64.wrap ((j : Int) + 1) = (j : Int) + 1 := IntWalk.i64_in _ (by omega)
                  go_wp2
                  go_region_held3 (fun w' => Below w.heap.size w w' ∧ w'.cell? ⟨wo.heap.size, 0, none⟩ = some (iv (pt ps k).x) ∧ w'.cell? ⟨wo.heap.size, 1, none⟩ = some (iv (pt ps k).y) ∧ w'.cell? ⟨wo.heap.size + 1, 0, none⟩ = some (iv (pt ps k1).x) ∧ w'.cell? ⟨wo.heap.size + 1, 1, none⟩ = some (iv (pt ps k1).y)
                      ∧ w'.cell? ⟨b, off + j * 2, none⟩ = some (iv (pt ps j).x) ∧ w'.cell? ⟨b, off + j * 2 + 1, none⟩ = some (iv (pt ps j).y) ∧ w'.cell? ⟨b, off + j1 * 2, none⟩ = some (iv (pt ps j1).x) ∧ w'.cell? ⟨b, off + j1 * 2 + 1, none⟩ = some (iv (pt ps j1).y))
                    (first | exact ⟨hB3.drew, f1', f2', f3', f4', g7, g8, g9, g10⟩ | assumption | (go_split_ands; refine ⟨below_trans (by assumption) hbq, ?_, ?_, ?_, ?_, ?_, ?_, ?_, ?_⟩ <;> exact cell_later hbq (by assumption)))
                    (first | (go_at_call 115; refine (meet115 (pt ps k) (pt ps k1) (pt ps j) (pt ps j1) _ (bd_pt HD.out _) (bd_pt HD.out _) (bd_pt HD.out _) (bd_pt HD.out _)).mono ?_; rintro e w' ⟨rfl, hbq⟩))
                  go_split_ands
                  clear t3 s3
                  go_wp2
                  · have h : meetZ (pt ps k) (pt ps k1) (pt ps j) (pt ps j1) = true := by assumption
                    go_ret
                    refine ⟨false, rfl, (simpleZ_row hlt (rowZ_step hjn (stepZ_no hj ?_ ?_))).symm, by assumption⟩
                    · rw [E3.out]; exact HJ.out
                    · rw [E1.out, E3.out]; exact h
                  · have h : meetZ (pt ps k) (pt ps k1) (pt ps j) (pt ps j1) = false := by assumption
                    go_roundw
                    case rel =>
                      refine ⟨j + 1, by omega, by go_num, by omega, fun m hm hmn => ?_, by assumption, by assumption, by assumption, by assumption, by assumption⟩
                      by_cases e : m = j
                      · subst e; exact stepZ_yes (by rw [E1.out, E3.out]; exact h)
                      · exact HT.out m (by omega) hmn
                    case measure => simp [intOf]; omega
              · go_wp2
                go_roundw
                case rel =>
                  refine ⟨k + 1, by omega, by go_num, fun i hi => ?_, hB3⟩
                  by_cases e : i = k
                  · subst e
                    exact rowZ_ok (by rw [E1.out, E2.out]; exact HF.out) fun m hm => HT.out m (by omega) hm
                  · exact HR.out i (by omega)
                case measure => simp [intOf]; omega
        · go_wp2
          go_ret
          exact ⟨true, rfl, (simpleZ_ok (fun j hj => HN.out j hj) (fun j hj => HR.out j (by omega))).symm, hB⟩
end Go.Proofs.Ytfgeengdmbabhaa
