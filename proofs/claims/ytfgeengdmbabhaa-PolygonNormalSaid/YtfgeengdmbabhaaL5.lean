import Derived.Test.YtfgeengdmbabhaaPk
import Derived.Test.YtfgeengdmbabhaaWv
namespace Go.Proofs.Ytfgeengdmbabhaa
open Go.RowKit
attribute [local go_sem ↓] Go.wp_at_zero Go.wp_at_succ

theorem wf8 {n : Int} (h : (Lit.int .u8 n).wf = true) : 0 ≤ n ∧ n ≤ 255 := bounds_u8 h

/-- append of a list onto an empty slice literal -/
theorem append_lit (w : World) (l m : List Z2) (A B : Option Addr) (n k c d : Nat) (hA : Sp w A l) (hB : Sp w B m) (hn : l.length = n) (hk : m.length = k) (hb : n + k ≤ 1000) :
    ∃ v1 w1 v2 w2, (Builtin.append_ #[22, 22] 22 #[.slice (some ⟨w.heap.size, 0, none⟩) 0 0, .slice A n c]).run Try.prog (w.alloc (.cells #[] 30)).drew = .ok v1 w1 ∧ (Builtin.append_ #[22, 22] 22 #[v1, .slice B k d]).run Try.prog w1 = .ok v2 w2 ∧ Own w2 w.heap.size v2 (l ++ m) ∧ Below w.heap.size w w2 := by
  have hbd : Below w.heap.size w (w.alloc (.cells #[] 30)).drew := (below_alloc w (.cells #[] 30)).drew
  have ho : Own (w.alloc (.cells #[] 30)).drew w.heap.size (.slice (some ⟨w.heap.size, 0, none⟩) 0 0) [] := ownOf (qs := []) (rest := []) (Nat.le_refl _) (show Blk (w.alloc (.cells #[] 30)).drew w.heap.size 30 #[] from Blk.new w 30 #[]) (Nat.le_refl _) (Nat.zero_le _) rfl
  obtain ⟨v1, w1, h1, o1, g1, _⟩ := run_append_sp (w.alloc (.cells #[] 30)).drew w.heap.size _ [] A n c l ho (hA.later hbd) hn (by simp; omega) hbd.size
  have b1 := below_grown hbd g1 (fun k hk => (ho.lt k hk).1)
  obtain ⟨v2, w2, h2, o2, g2, _⟩ := run_append_sp w1 w.heap.size v1 ([] ++ l) B k d m o1 (hB.later b1) hk (by simp; omega) b1.size
  have b2 := below_grown b1 g2 (fun k hk => (o1.lt k hk).1)
  exact ⟨v1, w1, v2, w2, h1, h2, o2, b2⟩
theorem normal32o (v : Value) (qs : List Z2) (base : Nat) (w : World) (ho : Own w base v qs) : Calls Try.prog 32 #[v] w (RetSl2 (normZ qs) (chkZ qs) w) := by
  obtain ⟨A, c, rfl, hc, hs⟩ := ho.sp
  exact normal32 A c qs w hs hc
theorem reversed37o (v : Value) (qs : List Z2) (base : Nat) (w : World) (ho : Own w base v qs) (hn : qs.length ≤ 100000) : Calls Try.prog 37 #[v] w (RetOwn w.heap.size qs.reverse w) := by
  obtain ⟨A, c, rfl, hc, hs⟩ := ho.sp
  exact reversed37 A c qs w hs hn

/-- the last part: from the normal form on -/
theorem normal_facts {ps : List Z2} (h : chkZ ps = 0) : normZ (normZ ps) = normZ ps ∧ chkZ (normZ ps) = 0 ∧ 3 ≤ (normZ ps).length ∧ (normZ ps).length ≤ ps.length ∧ 0 < aZ (normZ ps) ∧ (aZ ps = aZ (normZ ps) ∨ aZ ps = - aZ (normZ ps)) := by
  have n := norm_norm h
  refine ⟨norm_self h, norm_chk h, by have := n.simple.three; simpa using this, normZ_le ps, by rw [aZ_pos (norm_chk h)]; exact n.pos, ?_⟩
  rw [aZ_pos h, aZ_pos (norm_chk h)]
  rcases n.area with e | e
  · exact .inl e.symm
  · exact .inr (by omega)

set_option maxRecDepth 100000 in
set_option maxHeartbeats 8000000 in
/-- garmentlaw11.PolygonNormal -/
theorem lawNormal (A : Option Addr) (c : Nat) (ps : List Z2) (t : Int) (back : Bool) (w : World) (hsp : Sp w A ps) (hcap : ps.length ≤ c) (ht : 0 ≤ t ∧ t ≤ 255) :
    Calls Try.prog 5 #[.slice A ps.length c, .int .u8 t, .bool back] w fun e w' => e = .returned (.bool true) ∧ Below w.heap.size w w' := by
  have HS := Lib.hid hsp; clear hsp
  go_enter Try.func5, Try.ntmps5
  by_cases hf : ps.length ≤ 50
  case neg =>
    have dF := decide_eq_false hf
    go_wp2_with fail
    refine (few30 _ _ _ _).mono ?_
    rintro e w1 ⟨rfl, rfl⟩
    rw [dF]
    go_wp2_with fail
    refine (awake31 _).mono ?_
    rintro e w8 ⟨rfl, hb⟩
    go_wp2
    go_ret
    exact ⟨rfl, hb⟩
  case pos =>
  have dF := decide_eq_true hf
  go_wp2_with fail
  refine (few30 _ _ _ _).mono ?_
  rintro e w1 ⟨rfl, rfl⟩
  rw [dF]
  clear dF
  by_cases hl : ps.length = 0
  case pos =>
    have hl2 : ((ps.length : Int) == 0) = true := by simp [hl]
    clear hl
    go_wp2_with fail
    refine (awake31 _).mono ?_
    rintro e w8 ⟨rfl, hb⟩
    go_wp2
    go_ret
    exact ⟨rfl, hb⟩
  case neg =>
  have q3 : ((ps.length : Int) == 0) = false := beq_eq_false_iff_ne.2 (by omega)
  have q4 : ¬ ((ps.length : Int) = 0) := by omega
  have hne : ps ≠ [] := by intro h; simp [h] at hl
  have s1 : IntKind.i64.wrap t = t := IntWalk.i64_in _ (by omega)
  obtain ⟨k, hk, tk⟩ : ∃ k : Nat, k < ps.length ∧ t.tmod (ps.length : Int) = (k : Int) := by
    refine ⟨t.toNat % ps.length, Nat.mod_lt _ (by omega), ?_⟩
    rw [Int.tmod_eq_emod_of_nonneg ht.1]
    have : t = (t.toNat : Int) := by omega
    rw [this]; simp
  obtain ⟨b, off, rfl, hc⟩ := HS.out hne
  clear hc
  have i1 : (0 : Int) ≤ (k : Int) := by omega
  have i2 : (k : Int) ≤ (ps.length : Int) := by omega
  have i3 : (k : Int) ≤ (c : Int) := by omega
  have i4 : k ≠ c := by omega
  have i5 : ¬ (c = k) := by omega
  obtain ⟨v1, w1', v2, w2, hr1, hr2, ho2, hb2⟩ := append_lit w (ps.drop k) (ps.take k) (some ⟨b, off + k * 2, none⟩) (some ⟨b, off, none⟩) (ps.length - k) k (c - k) c (HS.out.drop k) (HS.out.take k) (by simp) (by simp; omega) (by omega)
  have R1 := Lib.hid hr1; have R2 := Lib.hid hr2
  have HQ := Lib.hid (And.intro ho2 hb2)
  clear hr1 hr2 ho2 hb2
  go_upto_region 4 with fail
  go_region_law (first | refine step_append_run rfl _ _ _ _ rfl _ _ (by rfl) (by rfl) R1.out ?_ | refine step_append_run rfl _ _ _ _ rfl _ _ (by rfl) (by rfl) R2.out ?_)
  clear R1 R2 tk s1 i1 i2 i3 i4 i5 q3 q4
  have HT := Lib.hid (turn_at ps k)
  generalize hQ : ps.drop k ++ ps.take k = Q at *
  have hQl : Q.length = ps.length := by rw [← hQ]; simp; omega
  clear hQ
  have key : ∃ (Q' : List Z2), (Q' = if back then Q.reverse else Q) := ⟨_, rfl⟩
  obtain ⟨Q', hQ'⟩ := key
  have HN := Lib.hid (show normZ Q' = normZ ps ∧ chkZ Q' = chkZ ps by
    rw [hQ']
    cases back with
    | true => exact ⟨by rw [if_pos rfl, norm_rev, norm_turn HT.out], by rw [if_pos rfl, chkZ_reverse, chk_turn HT.out]⟩
    | false => exact ⟨by rw [if_neg (by simp), norm_turn HT.out], by rw [if_neg (by simp), chk_turn HT.out]⟩)
  go_upto_if 40 with fail
  go_cut [8] (fun v wx => Own wx w.heap.size v Q' ∧ Below w.heap.size w wx)
  case first =>
    cases back
    · go_wp2_with fail
      go_meet
      rw [hQ']
      exact HQ.out
    · go_wp2_with fail
      refine (reversed37o _ Q w.heap.size _ HQ.out.1 (by omega)).mono ?_
      rintro e w3 ⟨v3, rfl, ho3, hb3⟩
      go_wp2_with fail
      go_meet
      rw [hQ']
      refine ⟨?_, below_trans HQ.out.2 hb3⟩
      obtain ⟨h1, h2⟩ := ho3
      refine ⟨h1, ?_⟩
      rcases h2 with h | ⟨g, cap, cur, e1, e2, e3⟩
      · exact .inl h
      · exact .inr ⟨g, cap, cur, e1, Nat.le_trans HQ.out.2.size e2, e3⟩
  case rest =>
  clear HQ hQ' HT hQl
  obtain ⟨ho, hb⟩ := hcut
  have HW := Lib.hid hb
  have HO := Lib.hid ho
  clear ho hb
  go_wp2_with fail
  refine (normal32 _ c ps _ (HS.out.later HW.out) hcap).mono ?_
  rintro e w4 ⟨A1, c1, rfl, hc1, hs1, hb⟩
  replace HW := Lib.hid (below_trans HW.out hb)
  replace HO := Lib.hid (HO.out.later hb)
  have H1 := Lib.hid hs1
  clear hb hs1
  go_wp2_with fail
  refine (normal32o _ Q' w.heap.size _ HO.out).mono ?_
  rintro e w5 ⟨A2, c2, rfl, hc2, hs2, hb⟩
  rw [HN.out.1, HN.out.2]
  rw [HN.out.1] at hs2
  replace HW := Lib.hid (below_trans HW.out hb)
  replace H1 := Lib.hid (H1.out.later hb)
  have H2 := Lib.hid hs2
  clear hb hs2 hc2 HO
  have hle := normZ_le ps
  go_wp2_with fail
  refine (same34 A1 A2 _ _ c1 c2 (normZ ps) (normZ ps) _ rfl rfl H1.out H2.out (by omega)).mono ?_
  rintro e w6 ⟨rfl, hb⟩
  rw [decide_eq_true (show normZ ps = normZ ps from rfl)]
  replace HW := Lib.hid (below_trans HW.out hb)
  replace H1 := Lib.hid (H1.out.later hb)
  clear hb H2
  by_cases h0 : chkZ ps = 0
  case neg =>
    have hd : (chkZ ps != 0) = true := by simpa using h0
    have hz : (normZ ps).length = 0 := by rw [normZ_neg h0]; rfl
    have hd2 : ((((normZ ps).length : Nat) : Int) == 0) = true := by simp [hz]
    clear h0 hz
    go_wp2_with fail
    refine (check38 _ c ps _ (HS.out.later HW.out) hcap).mono ?_
    rintro e w7 ⟨rfl, hb⟩
    replace HW := Lib.hid (below_trans HW.out hb)
    clear hb
    have hd3 : (chkZ ps == chkZ ps) = true := by simp
    go_wp2_with fail
    refine (awake31 _).mono ?_
    rintro e w8 ⟨rfl, hb⟩
    go_wp2
    go_ret
    exact ⟨rfl, below_trans HW.out hb⟩
  case pos =>
  have H0 := Lib.hid h0
  have NF := Lib.hid (normal_facts h0)
  have hbdA := aZ_bd (normZ ps)
  have HLS := Lib.hid (fun i (hi : i < (normZ ps).length) (h : 0 < i) => norm_least H0.out hi h)
  have HBN := Lib.hid (fun i (hi : i < (normZ ps).length) => norm_bend H0.out hi)
  have HBD := Lib.hid (show ∀ p ∈ normZ ps, Bd p from fun p hp => bd_of_out ((norm_norm h0).in_range h0 p hp))
  rw [h0]
  clear h0
  obtain ⟨n1, n2, n3, n4, n5, n6⟩ := NF.out
  go_wp2_with fail
  refine (normal32 A1 c1 (normZ ps) _ H1.out hc1).mono ?_
  rintro e w7 ⟨A3, c3, rfl, hc3, hs3, hb⟩
  rw [n1, n2]
  rw [n1] at hs3
  replace HW := Lib.hid (below_trans HW.out hb)
  replace H1 := Lib.hid (H1.out.later hb)
  have H3 := Lib.hid hs3
  clear hb hs3 hc3
  go_wp2_with fail
  refine (area2_39 _ c ps _ (HS.out.later HW.out) hcap).mono ?_
  rintro e w8 ⟨rfl, hb⟩
  replace HW := Lib.hid (below_trans HW.out hb)
  replace H1 := Lib.hid (H1.out.later hb)
  replace H3 := Lib.hid (H3.out.later hb)
  clear hb
  go_wp2_with fail
  refine (same34 A1 A3 _ _ c1 c3 (normZ ps) (normZ ps) _ rfl rfl H1.out H3.out (by omega)).mono ?_
  rintro e w9 ⟨rfl, hb⟩
  rw [decide_eq_true (show normZ ps = normZ ps from rfl)]
  replace HW := Lib.hid (below_trans HW.out hb)
  replace H1 := Lib.hid (H1.out.later hb)
  clear hb H3 n1 n2
  have HAR := Lib.hid (fun w (hs : Sp w A1 (normZ ps)) => area2_39 A1 c1 (normZ ps) w hs hc1)
  generalize normZ ps = N at *
  generalize aZ N = sN at *
  generalize aZ ps = sP at *
  have e1 : (sN != sN) = false := by simp
  have e2 : (-sN != sN) = true := by simp; omega
  have e3 : (-sN != -sN) = false := by simp
  have e4 : IntKind.i64.wrap (-sN) = -sN := IntWalk.i64_in _ (by omega)
  have e5 : ¬ sN ≤ 0 := by omega
  rcases n6 with rfl | rfl
  · clear e2 e3 e4
    go_wp2_with fail
    refine (HAR.out _ H1.out).mono ?_
    rintro e wa ⟨rfl, hb⟩
    replace HW := Lib.hid (below_trans HW.out hb)
    replace H1 := Lib.hid (H1.out.later hb)
    clear hb
    go_wp2_with fail
    refine (HAR.out _ H1.out).mono ?_
    rintro e wa ⟨rfl, hb⟩
    replace HW := Lib.hid (below_trans HW.out hb)
    replace H1 := Lib.hid (H1.out.later hb)
    clear hb
    clear e1
    go_wp2_with fail
    generalize decide (ps.length < N.length) = g1
    generalize decide ((N.length : Int) < 3) = g2
    go_loopw [16] (fun v wr => ∃ k : Nat, k ≤ N.length ∧ v = .int .i64 k ∧ Below w.heap.size w wr ∧ Sp wr A1 N) (fun v _ => N.length - (intOf v).toNat)
    case atStart => exact ⟨0, Nat.zero_le _, rfl, HW.out, H1.out⟩
    case round =>
      obtain ⟨k, hk, rfl, hB, hsN⟩ := hrel
      by_cases hlt : k < N.length
      · have hneN : N ≠ [] := by intro h; rw [h] at n3; simp at n3
        obtain ⟨b, off, rfl, hc⟩ := id hsN hneN
        have HSN := Lib.hid hsN
        clear hsN
        have l0 : 0 < N.length := by omega
        have l1 : (k + 1) % N.length < N.length := Nat.mod_lt _ l0
        have l2 : (k + 2) % N.length < N.length := Nat.mod_lt _ l0
        obtain ⟨g3, g4⟩ := hc _ l1
        obtain ⟨g5, g6⟩ := hc _ l2
        have m1 := mod_one k N.length
        have m2 := mod_two k N.length
        have hcc : crZ (pt N k) (pt N ((k + 1) % N.length)) (pt N ((k + 2) % N.length)) ≠ 0 := by
          rw [← bend_next hlt]; exact HBN.out _ l1
        have HCC := Lib.hid (fun w => cross41 (pt N k) (pt N ((k + 1) % N.length)) (pt N ((k + 2) % N.length)) w (bd_pt HBD.out _) (bd_pt HBD.out _) (bd_pt HBD.out _))
        generalize crZ (pt N k) (pt N ((k + 1) % N.length)) (pt N ((k + 2) % N.length)) = cc at *
        generalize e1 : (k + 1) % N.length = k1 at *
        generalize e2 : (k + 2) % N.length = k2 at *
        clear e1 e2
        have hc0 : (cc == 0) = false := by simpa using hcc
        have t1 : ((k : Int) + 1).tmod (N.length : Int) = (k1 : Int) := by rw [Int.tmod_eq_emod_of_nonneg (by omega)]; exact m1
        have t2 : ((k : Int) + 2).tmod (N.length : Int) = (k2 : Int) := by rw [Int.tmod_eq_emod_of_nonneg (by omega)]; exact m2
        clear m1 m2
        have s1 : IntKind.i64.wrap ((k : Int) + 1) = (k : Int) + 1 := IntWalk.i64_in _ (by omega)
        have s2 : IntKind.i64.wrap ((k : Int) + 2) = (k : Int) + 2 := IntWalk.i64_in _ (by omega)
        have q1 : (0 : Int) ≤ (k2 : Int) := by omega
        have q2 : (k2 : Int) < (N.length : Int) := by omega
        have q5 : (0 : Int) ≤ (k1 : Int) := by omega
        have q6 : (k1 : Int) < (N.length : Int) := by omega
        have q3 : ((N.length : Int) == 0) = false := beq_eq_false_iff_ne.2 (by omega)
        have q4 : ¬ ((N.length : Int) = 0) := by omega
        have q9 : (0 : Int) < (N.length : Int) := by omega
        have q7 : (0 : Int) ≤ (k : Int) := by omega
        have q8 : (k : Int) < (N.length : Int) := by omega
        by_cases hk0 : k = 0
        · have d10 : decide ((0 : Int) < (k : Int)) = false := decide_eq_false (by omega)
          have d11 : decide (0 < k) = false := decide_eq_false (by omega)
          clear hk0
          obtain ⟨g1, g2⟩ := hc k hlt
          clear hc
          go_wp2_with fail
          refine wp_region_noPanic ?_
          refine wp_region_held_drew (S := (fun w' => Below wr.heap.size wr w' ∧ Below w.heap.size w w' ∧ w'.cell? ⟨b, off + k * 2, none⟩ = some (iv (pt N k).x) ∧ w'.cell? ⟨b, off + k * 2 + 1, none⟩ = some (iv (pt N k).y) ∧ w'.cell? ⟨b, off + k1 * 2, none⟩ = some (iv (pt N k1).x) ∧ w'.cell? ⟨b, off + k1 * 2 + 1, none⟩ = some (iv (pt N k1).y) ∧ w'.cell? ⟨b, off + k2 * 2, none⟩ = some (iv (pt N k2).x) ∧ w'.cell? ⟨b, off + k2 * 2 + 1, none⟩ = some (iv (pt N k2).y))) (by kernel_rfl) ?_ (fun hHeld => ?_)
          · exact ⟨below_drew wr, hB.drew, g1, g2, g3, g4, g5, g6⟩
          refine wpAnyH_take (i := 0) (oi := ({ dst := some 127, op := Op.move (Operand.tmp 16), type := 3, pos := "law.go:88", after := #[], guard := none } : Oper)) (v := ?v0) rfl (by kernel_rfl) (by kernel_rfl) (by kernel_rfl) (fun _ _ _ h => h) (Or.inl ⟨by rfl, ?hy0⟩) (by assumption) ?rest0
          case hy0 => intro w0 hSw; (try dsimp only at hSw); go_simp; try with_reducible rfl
          try simp only [Act.put, List.setIfInBounds_toArray, List.set_cons_zero, List.set_cons_succ]
          refine wpAnyH_take (i := 1) (oi := ({ dst := some 128, op := Op.binOp BinOp.gtr 3 (Operand.tmp 127) (Operand.const (Value.int IntKind.i64 0)) 3, type := 4, pos := "law.go:88", after := #[{ on := 0, ground := Ground.data }], guard := none } : Oper)) (v := ?v1) rfl (by kernel_rfl) (by kernel_rfl) (by kernel_rfl) (fun _ _ _ h => h) (Or.inl ⟨by rfl, ?hy1⟩) (by assumption) ?rest1
          case hy1 => intro w0 hSw; (try dsimp only at hSw); go_simp; try with_reducible rfl
          try simp only [Act.put, List.setIfInBounds_toArray, List.set_cons_zero, List.set_cons_succ]
          refine wpAnyH_take (i := 2) (oi := ({ dst := some 129, op := Op.move (Operand.tmp 128), type := 4, pos := "law.go:88", after := #[{ on := 1, ground := Ground.data }], guard := none } : Oper)) (v := ?v2) rfl (by kernel_rfl) (by kernel_rfl) (by kernel_rfl) (fun _ _ _ h => h) (Or.inl ⟨by rfl, ?hy2⟩) (by assumption) ?rest2
          case hy2 => intro w0 hSw; (try dsimp only at hSw); go_simp; try with_reducible rfl
          try simp only [Act.put, List.setIfInBounds_toArray, List.set_cons_zero, List.set_cons_succ]
          refine wpAnyH_take (i := 3) (oi := ({ dst := some 130, op := Op.move (Operand.tmp 9), type := 22, pos := "law.go:88", after := #[{ on := 2, ground := Ground.guard }], guard := some (2, true) } : Oper)) rfl (by kernel_rfl) (by kernel_rfl) (by kernel_rfl) (fun _ _ _ h => h) (Or.inr ⟨by rfl, rfl⟩) (by assumption) ?_
          try simp only [Act.put, List.setIfInBounds_toArray, List.set_cons_zero, List.set_cons_succ]
          refine wpAnyH_take (i := 4) (oi := ({ dst := some 131, op := Op.indexAddr 22 (Operand.tmp 130) (Operand.const (Value.int IntKind.i64 0)), type := 0, pos := "law.go:88", after := #[{ on := 3, ground := Ground.data }, { on := 2, ground := Ground.guard }], guard := some (2, true) } : Oper)) rfl (by kernel_rfl) (by kernel_rfl) (by kernel_rfl) (fun _ _ _ h => h) (Or.inr ⟨by rfl, rfl⟩) (by assumption) ?_
          try simp only [Act.put, List.setIfInBounds_toArray, List.set_cons_zero, List.set_cons_succ]
          refine wpAnyH_take (i := 5) (oi := ({ dst := some 132, op := Op.load 30 (Operand.tmp 131), type := 30, pos := "law.go:88", after := #[{ on := 4, ground := Ground.data }, { on := 2, ground := Ground.guard }], guard := some (2, true) } : Oper)) rfl (by kernel_rfl) (by kernel_rfl) (by kernel_rfl) (fun _ _ _ h => h) (Or.inr ⟨by rfl, rfl⟩) (by assumption) ?_
          try simp only [Act.put, List.setIfInBounds_toArray, List.set_cons_zero, List.set_cons_succ]
          refine wpAnyH_take (i := 6) (oi := ({ dst := some 133, op := Op.move (Operand.tmp 9), type := 22, pos := "law.go:88", after := #[{ on := 2, ground := Ground.guard }], guard := some (2, true) } : Oper)) rfl (by kernel_rfl) (by kernel_rfl) (by kernel_rfl) (fun _ _ _ h => h) (Or.inr ⟨by rfl, rfl⟩) (by assumption) ?_
          try simp only [Act.put, List.setIfInBounds_toArray, List.set_cons_zero, List.set_cons_succ]
          refine wpAnyH_take (i := 7) (oi := ({ dst := some 134, op := Op.move (Operand.tmp 16), type := 3, pos := "law.go:88", after := #[{ on := 2, ground := Ground.guard }], guard := some (2, true) } : Oper)) rfl (by kernel_rfl) (by kernel_rfl) (by kernel_rfl) (fun _ _ _ h => h) (Or.inr ⟨by rfl, rfl⟩) (by assumption) ?_
          try simp only [Act.put, List.setIfInBounds_toArray, List.set_cons_zero, List.set_cons_succ]
          refine wpAnyH_take (i := 8) (oi := ({ dst := some 135, op := Op.indexAddr 22 (Operand.tmp 133) (Operand.tmp 134), type := 0, pos := "law.go:88", after := #[{ on := 6, ground := Ground.data }, { on := 7, ground := Ground.data }, { on := 2, ground := Ground.guard }], guard := some (2, true) } : Oper)) rfl (by kernel_rfl) (by kernel_rfl) (by kernel_rfl) (fun _ _ _ h => h) (Or.inr ⟨by rfl, rfl⟩) (by assumption) ?_
          try simp only [Act.put, List.setIfInBounds_toArray, List.set_cons_zero, List.set_cons_succ]
          refine wpAnyH_take (i := 9) (oi := ({ dst := some 136, op := Op.load 30 (Operand.tmp 135), type := 30, pos := "law.go:88", after := #[{ on := 8, ground := Ground.data }, { on := 2, ground := Ground.guard }], guard := some (2, true) } : Oper)) rfl (by kernel_rfl) (by kernel_rfl) (by kernel_rfl) (fun _ _ _ h => h) (Or.inr ⟨by rfl, rfl⟩) (by assumption) ?_
          try simp only [Act.put, List.setIfInBounds_toArray, List.set_cons_zero, List.set_cons_succ]
          refine wpAnyH_take (i := 10) (oi := ({ dst := some 137, op := Op.call { callee := Callee.value (Operand.func 40), args := #[Operand.tmp 132, Operand.tmp 136], argTypes := #[30, 30] }, type := 4, pos := "law.go:88", after := #[{ on := 5, ground := Ground.data }, { on := 9, ground := Ground.data }, { on := 2, ground := Ground.chain }, { on := 2, ground := Ground.guard }], guard := some (2, true) } : Oper)) rfl (by kernel_rfl) (by kernel_rfl) (by kernel_rfl) (fun _ _ _ h => h) (Or.inr ⟨by rfl, rfl⟩) (by assumption) ?_
          try simp only [Act.put, List.setIfInBounds_toArray, List.set_cons_zero, List.set_cons_succ]
          refine wpAnyH_take (i := 11) (oi := ({ dst := some 138, op := Op.unOp UnOp.not 4 (Operand.tmp 137), type := 4, pos := "law.go:88", after := #[{ on := 10, ground := Ground.data }, { on := 2, ground := Ground.guard }], guard := some (2, true) } : Oper)) rfl (by kernel_rfl) (by kernel_rfl) (by kernel_rfl) (fun _ _ _ h => h) (Or.inr ⟨by rfl, rfl⟩) (by assumption) ?_
          try simp only [Act.put, List.setIfInBounds_toArray, List.set_cons_zero, List.set_cons_succ]
          refine wpAnyH_take (i := 12) (oi := ({ dst := some 139, op := Op.pick (Operand.tmp 129) (Operand.tmp 138) (Operand.const (Value.bool false)), type := 4, pos := "law.go:88", after := #[{ on := 2, ground := Ground.data }, { on := 11, ground := Ground.data }], guard := none } : Oper)) (v := ?v12) rfl (by kernel_rfl) (by kernel_rfl) (by kernel_rfl) (fun _ _ _ h => h) (Or.inl ⟨by rfl, ?hy12⟩) (by assumption) ?rest12
          case hy12 => intro w0 hSw; (try dsimp only at hSw); go_simp; try with_reducible rfl
          try simp only [Act.put, List.setIfInBounds_toArray, List.set_cons_zero, List.set_cons_succ]
          refine wpAnyH_take (i := 13) (oi := ({ dst := some 140, op := Op.move (Operand.tmp 139), type := 4, pos := "law.go:88", after := #[{ on := 12, ground := Ground.data }, { on := 10, ground := Ground.chain }], guard := none } : Oper)) (v := ?v13) rfl (by kernel_rfl) (by kernel_rfl) (by kernel_rfl) (fun _ _ _ h => h) (Or.inl ⟨by rfl, ?hy13⟩) (by assumption) ?rest13
          case hy13 => intro w0 hSw; (try dsimp only at hSw); go_simp; try with_reducible rfl
          try simp only [Act.put, List.setIfInBounds_toArray, List.set_cons_zero, List.set_cons_succ]
          refine wpAnyH_take (i := 14) (oi := ({ dst := some 141, op := Op.move (Operand.tmp 9), type := 22, pos := "law.go:88", after := #[{ on := 13, ground := Ground.guard }], guard := some (13, false) } : Oper)) (v := ?v14) rfl (by kernel_rfl) (by kernel_rfl) (by kernel_rfl) (fun _ _ _ h => h) (Or.inl ⟨by rfl, ?hy14⟩) (by assumption) ?rest14
          case hy14 => intro w0 hSw; (try dsimp only at hSw); go_simp; try with_reducible rfl
          try simp only [Act.put, List.setIfInBounds_toArray, List.set_cons_zero, List.set_cons_succ]
          refine wpAnyH_take (i := 15) (oi := ({ dst := some 142, op := Op.move (Operand.tmp 16), type := 3, pos := "law.go:88", after := #[{ on := 13, ground := Ground.guard }], guard := some (13, false) } : Oper)) (v := ?v15) rfl (by kernel_rfl) (by kernel_rfl) (by kernel_rfl) (fun _ _ _ h => h) (Or.inl ⟨by rfl, ?hy15⟩) (by assumption) ?rest15
          case hy15 => intro w0 hSw; (try dsimp only at hSw); go_simp; try with_reducible rfl
          try simp only [Act.put, List.setIfInBounds_toArray, List.set_cons_zero, List.set_cons_succ]
          refine wpAnyH_take (i := 16) (oi := ({ dst := some 143, op := Op.indexAddr 22 (Operand.tmp 141) (Operand.tmp 142), type := 0, pos := "law.go:88", after := #[{ on := 14, ground := Ground.data }, { on := 15, ground := Ground.data }, { on := 13, ground := Ground.guard }], guard := some (13, false) } : Oper)) (v := ?v16) rfl (by kernel_rfl) (by kernel_rfl) (by kernel_rfl) (fun _ _ _ h => h) (Or.inl ⟨by rfl, ?hy16⟩) (by assumption) ?rest16
          case hy16 => intro w0 hSw; (try dsimp only at hSw); go_simp; try with_reducible rfl
          try simp only [Act.put, List.setIfInBounds_toArray, List.set_cons_zero, List.set_cons_succ]
          refine wpAnyH_take (i := 17) (oi := ({ dst := some 144, op := Op.load 30 (Operand.tmp 143), type := 30, pos := "law.go:88", after := #[{ on := 16, ground := Ground.data }, { on := 13, ground := Ground.guard }], guard := some (13, false) } : Oper)) (v := ?v17) rfl (by kernel_rfl) (by kernel_rfl) (by kernel_rfl) (fun _ _ _ h => h) (Or.inl ⟨by rfl, ?hy17⟩) (by assumption) ?rest17
          case hy17 => intro w0 hSw; (try dsimp only at hSw); go_simp; try with_reducible rfl
          try simp only [Act.put, List.setIfInBounds_toArray, List.set_cons_zero, List.set_cons_succ]
          refine wpAnyH_take (i := 18) (oi := ({ dst := some 145, op := Op.move (Operand.tmp 9), type := 22, pos := "law.go:88", after := #[{ on := 13, ground := Ground.guard }], guard := some (13, false) } : Oper)) (v := ?v18) rfl (by kernel_rfl) (by kernel_rfl) (by kernel_rfl) (fun _ _ _ h => h) (Or.inl ⟨by rfl, ?hy18⟩) (by assumption) ?rest18
          case hy18 => intro w0 hSw; (try dsimp only at hSw); go_simp; try with_reducible rfl
          try simp only [Act.put, List.setIfInBounds_toArray, List.set_cons_zero, List.set_cons_succ]
          refine wpAnyH_take (i := 19) (oi := ({ dst := some 146, op := Op.move (Operand.tmp 16), type := 3, pos := "law.go:88", after := #[{ on := 13, ground := Ground.guard }], guard := some (13, false) } : Oper)) (v := ?v19) rfl (by kernel_rfl) (by kernel_rfl) (by kernel_rfl) (fun _ _ _ h => h) (Or.inl ⟨by rfl, ?hy19⟩) (by assumption) ?rest19
          case hy19 => intro w0 hSw; (try dsimp only at hSw); go_simp; try with_reducible rfl
          try simp only [Act.put, List.setIfInBounds_toArray, List.set_cons_zero, List.set_cons_succ]
          refine wpAnyH_take (i := 20) (oi := ({ dst := some 147, op := Op.binOp BinOp.add 3 (Operand.tmp 146) (Operand.const (Value.int IntKind.i64 1)) 3, type := 3, pos := "law.go:88", after := #[{ on := 19, ground := Ground.data }, { on := 13, ground := Ground.guard }], guard := some (13, false) } : Oper)) (v := ?v20) rfl (by kernel_rfl) (by kernel_rfl) (by kernel_rfl) (fun _ _ _ h => h) (Or.inl ⟨by rfl, ?hy20⟩) (by assumption) ?rest20
          case hy20 => intro w0 hSw; (try dsimp only at hSw); go_simp; try with_reducible rfl
          try simp only [Act.put, List.setIfInBounds_toArray, List.set_cons_zero, List.set_cons_succ]
          refine wpAnyH_take (i := 21) (oi := ({ dst := some 148, op := Op.move (Operand.tmp 9), type := 22, pos := "law.go:88", after := #[{ on := 13, ground := Ground.guard }], guard := some (13, false) } : Oper)) (v := ?v21) rfl (by kernel_rfl) (by kernel_rfl) (by kernel_rfl) (fun _ _ _ h => h) (Or.inl ⟨by rfl, ?hy21⟩) (by assumption) ?rest21
          case hy21 => intro w0 hSw; (try dsimp only at hSw); go_simp; try with_reducible rfl
          try simp only [Act.put, List.setIfInBounds_toArray, List.set_cons_zero, List.set_cons_succ]
          refine wpAnyH_take (i := 22) (oi := ({ dst := some 149, op := Op.call { callee := Callee.builtin Builtin.len, args := #[Operand.tmp 148], argTypes := #[22] }, type := 3, pos := "law.go:88", after := #[{ on := 21, ground := Ground.data }, { on := 13, ground := Ground.guard }], guard := some (13, false) } : Oper)) (v := ?v22) rfl (by kernel_rfl) (by kernel_rfl) (by kernel_rfl) (fun _ _ _ h => h) (Or.inl ⟨by rfl, ?hy22⟩) (by assumption) ?rest22
          case hy22 => intro w0 hSw; (try dsimp only at hSw); go_simp; try with_reducible rfl
          try simp only [Act.put, List.setIfInBounds_toArray, List.set_cons_zero, List.set_cons_succ]
          refine wpAnyH_take (i := 23) (oi := ({ dst := some 150, op := Op.binOp BinOp.rem 3 (Operand.tmp 147) (Operand.tmp 149) 3, type := 3, pos := "law.go:88", after := #[{ on := 20, ground := Ground.data }, { on := 22, ground := Ground.data }, { on := 13, ground := Ground.guard }], guard := some (13, false) } : Oper)) (v := ?v23) rfl (by kernel_rfl) (by kernel_rfl) (by kernel_rfl) (fun _ _ _ h => h) (Or.inl ⟨by rfl, ?hy23⟩) (by assumption) ?rest23
          case hy23 => intro w0 hSw; (try dsimp only at hSw); go_simp; try with_reducible rfl
          try simp only [Act.put, List.setIfInBounds_toArray, List.set_cons_zero, List.set_cons_succ]
          refine wpAnyH_take (i := 24) (oi := ({ dst := some 151, op := Op.indexAddr 22 (Operand.tmp 145) (Operand.tmp 150), type := 0, pos := "law.go:88", after := #[{ on := 18, ground := Ground.data }, { on := 23, ground := Ground.data }, { on := 13, ground := Ground.guard }], guard := some (13, false) } : Oper)) (v := ?v24) rfl (by kernel_rfl) (by kernel_rfl) (by kernel_rfl) (fun _ _ _ h => h) (Or.inl ⟨by rfl, ?hy24⟩) (by assumption) ?rest24
          case hy24 => intro w0 hSw; (try dsimp only at hSw); go_simp; try with_reducible rfl
          try simp only [Act.put, List.setIfInBounds_toArray, List.set_cons_zero, List.set_cons_succ]
          refine wpAnyH_take (i := 25) (oi := ({ dst := some 152, op := Op.load 30 (Operand.tmp 151), type := 30, pos := "law.go:88", after := #[{ on := 24, ground := Ground.data }, { on := 13, ground := Ground.guard }], guard := some (13, false) } : Oper)) (v := ?v25) rfl (by kernel_rfl) (by kernel_rfl) (by kernel_rfl) (fun _ _ _ h => h) (Or.inl ⟨by rfl, ?hy25⟩) (by assumption) ?rest25
          case hy25 => intro w0 hSw; (try dsimp only at hSw); go_simp; try with_reducible rfl
          try simp only [Act.put, List.setIfInBounds_toArray, List.set_cons_zero, List.set_cons_succ]
          refine wpAnyH_take (i := 26) (oi := ({ dst := some 153, op := Op.move (Operand.tmp 9), type := 22, pos := "law.go:88", after := #[{ on := 13, ground := Ground.guard }], guard := some (13, false) } : Oper)) (v := ?v26) rfl (by kernel_rfl) (by kernel_rfl) (by kernel_rfl) (fun _ _ _ h => h) (Or.inl ⟨by rfl, ?hy26⟩) (by assumption) ?rest26
          case hy26 => intro w0 hSw; (try dsimp only at hSw); go_simp; try with_reducible rfl
          try simp only [Act.put, List.setIfInBounds_toArray, List.set_cons_zero, List.set_cons_succ]
          refine wpAnyH_take (i := 27) (oi := ({ dst := some 154, op := Op.move (Operand.tmp 16), type := 3, pos := "law.go:88", after := #[{ on := 13, ground := Ground.guard }], guard := some (13, false) } : Oper)) (v := ?v27) rfl (by kernel_rfl) (by kernel_rfl) (by kernel_rfl) (fun _ _ _ h => h) (Or.inl ⟨by rfl, ?hy27⟩) (by assumption) ?rest27
          case hy27 => intro w0 hSw; (try dsimp only at hSw); go_simp; try with_reducible rfl
          try simp only [Act.put, List.setIfInBounds_toArray, List.set_cons_zero, List.set_cons_succ]
          refine wpAnyH_take (i := 28) (oi := ({ dst := some 155, op := Op.binOp BinOp.add 3 (Operand.tmp 154) (Operand.const (Value.int IntKind.i64 2)) 3, type := 3, pos := "law.go:88", after := #[{ on := 27, ground := Ground.data }, { on := 13, ground := Ground.guard }], guard := some (13, false) } : Oper)) (v := ?v28) rfl (by kernel_rfl) (by kernel_rfl) (by kernel_rfl) (fun _ _ _ h => h) (Or.inl ⟨by rfl, ?hy28⟩) (by assumption) ?rest28
          case hy28 => intro w0 hSw; (try dsimp only at hSw); go_simp; try with_reducible rfl
          try simp only [Act.put, List.setIfInBounds_toArray, List.set_cons_zero, List.set_cons_succ]
          refine wpAnyH_take (i := 29) (oi := ({ dst := some 156, op := Op.move (Operand.tmp 9), type := 22, pos := "law.go:88", after := #[{ on := 13, ground := Ground.guard }], guard := some (13, false) } : Oper)) (v := ?v29) rfl (by kernel_rfl) (by kernel_rfl) (by kernel_rfl) (fun _ _ _ h => h) (Or.inl ⟨by rfl, ?hy29⟩) (by assumption) ?rest29
          case hy29 => intro w0 hSw; (try dsimp only at hSw); go_simp; try with_reducible rfl
          try simp only [Act.put, List.setIfInBounds_toArray, List.set_cons_zero, List.set_cons_succ]
          refine wpAnyH_take (i := 30) (oi := ({ dst := some 157, op := Op.call { callee := Callee.builtin Builtin.len, args := #[Operand.tmp 156], argTypes := #[22] }, type := 3, pos := "law.go:88", after := #[{ on := 29, ground := Ground.data }, { on := 13, ground := Ground.guard }], guard := some (13, false) } : Oper)) (v := ?v30) rfl (by kernel_rfl) (by kernel_rfl) (by kernel_rfl) (fun _ _ _ h => h) (Or.inl ⟨by rfl, ?hy30⟩) (by assumption) ?rest30
          case hy30 => intro w0 hSw; (try dsimp only at hSw); go_simp; try with_reducible rfl
          try simp only [Act.put, List.setIfInBounds_toArray, List.set_cons_zero, List.set_cons_succ]
          refine wpAnyH_take (i := 31) (oi := ({ dst := some 158, op := Op.binOp BinOp.rem 3 (Operand.tmp 155) (Operand.tmp 157) 3, type := 3, pos := "law.go:88", after := #[{ on := 28, ground := Ground.data }, { on := 30, ground := Ground.data }, { on := 13, ground := Ground.guard }], guard := some (13, false) } : Oper)) (v := ?v31) rfl (by kernel_rfl) (by kernel_rfl) (by kernel_rfl) (fun _ _ _ h => h) (Or.inl ⟨by rfl, ?hy31⟩) (by assumption) ?rest31
          case hy31 => intro w0 hSw; (try dsimp only at hSw); go_simp; try with_reducible rfl
          try simp only [Act.put, List.setIfInBounds_toArray, List.set_cons_zero, List.set_cons_succ]
          refine wpAnyH_take (i := 32) (oi := ({ dst := some 159, op := Op.indexAddr 22 (Operand.tmp 153) (Operand.tmp 158), type := 0, pos := "law.go:88", after := #[{ on := 26, ground := Ground.data }, { on := 31, ground := Ground.data }, { on := 13, ground := Ground.guard }], guard := some (13, false) } : Oper)) (v := ?v32) rfl (by kernel_rfl) (by kernel_rfl) (by kernel_rfl) (fun _ _ _ h => h) (Or.inl ⟨by rfl, ?hy32⟩) (by assumption) ?rest32
          case hy32 => intro w0 hSw; (try dsimp only at hSw); go_simp; try with_reducible rfl
          try simp only [Act.put, List.setIfInBounds_toArray, List.set_cons_zero, List.set_cons_succ]
          refine wpAnyH_take (i := 33) (oi := ({ dst := some 160, op := Op.load 30 (Operand.tmp 159), type := 30, pos := "law.go:88", after := #[{ on := 32, ground := Ground.data }, { on := 13, ground := Ground.guard }], guard := some (13, false) } : Oper)) (v := ?v33) rfl (by kernel_rfl) (by kernel_rfl) (by kernel_rfl) (fun _ _ _ h => h) (Or.inl ⟨by rfl, ?hy33⟩) (by assumption) ?rest33
          case hy33 => intro w0 hSw; (try dsimp only at hSw); go_simp; try with_reducible rfl
          try simp only [Act.put, List.setIfInBounds_toArray, List.set_cons_zero, List.set_cons_succ]
          refine wpAnyH_ready (rs := [34]) (by kernel_rfl) (by simp) ?_
          refine AllReadyH.cons (o := ({ dst := some 161, op := Op.call { callee := Callee.value (Operand.func 41), args := #[Operand.tmp 144, Operand.tmp 152, Operand.tmp 160], argTypes := #[30, 30, 30] }, type := 3, pos := "law.go:88", after := #[{ on := 17, ground := Ground.data }, { on := 25, ground := Ground.data }, { on := 33, ground := Ground.data }, { on := 13, ground := Ground.chain }, { on := 13, ground := Ground.guard }], guard := some (13, false) } : Oper)) rfl (fun K hK => ?_) AllReadyH.nil
          go_simp
          go_at_call 41
          refine (HCC.out _).mono ?_
          rintro e w' ⟨rfl, hbq⟩
          refine hK.out _ _ ?_ (fun hHeld => ?_)
          · go_split_ands; refine ⟨below_trans (by assumption) hbq, below_trans (by assumption) hbq, ?_, ?_, ?_, ?_, ?_, ?_⟩ <;> exact cell_later hbq (by assumption)
          clear hK K
          try simp only [Act.put, List.setIfInBounds_toArray, List.set_cons_zero, List.set_cons_succ]
          refine wpAnyH_take (i := 35) (oi := ({ dst := some 162, op := Op.binOp BinOp.eql 3 (Operand.tmp 161) (Operand.const (Value.int IntKind.i64 0)) 3, type := 4, pos := "law.go:88", after := #[{ on := 34, ground := Ground.data }, { on := 13, ground := Ground.guard }], guard := some (13, false) } : Oper)) (v := ?v35) rfl (by kernel_rfl) (by kernel_rfl) (by kernel_rfl) (fun _ _ _ h => h) (Or.inl ⟨by rfl, ?hy35⟩) (by assumption) ?rest35
          case hy35 => intro w0 hSw; (try dsimp only at hSw); go_simp; try with_reducible rfl
          try simp only [Act.put, List.setIfInBounds_toArray, List.set_cons_zero, List.set_cons_succ]
          refine wpAnyH_take (i := 36) (oi := ({ dst := some 163, op := Op.pick (Operand.tmp 140) (Operand.const (Value.bool true)) (Operand.tmp 162), type := 4, pos := "law.go:88", after := #[{ on := 13, ground := Ground.data }, { on := 35, ground := Ground.data }], guard := none } : Oper)) (v := ?v36) rfl (by kernel_rfl) (by kernel_rfl) (by kernel_rfl) (fun _ _ _ h => h) (Or.inl ⟨by rfl, ?hy36⟩) (by assumption) ?rest36
          case hy36 => intro w0 hSw; (try dsimp only at hSw); go_simp; try with_reducible rfl
          try simp only [Act.put, List.setIfInBounds_toArray, List.set_cons_zero, List.set_cons_succ]
          refine wpAnyH_done (by kernel_rfl) ?_ _
          refine NoPanic.normal ?_
          have hH := hHeld
          try dsimp only at hH
          obtain ⟨hbr2, hbr, _⟩ := hH
          clear hHeld
          go_wp2
          go_roundw
          case rel =>
            exact ⟨k + 1, by omega, by go_num, hbr, HSN.out.later hbr2⟩
          case measure => simp [intOf]; omega
        · obtain ⟨g1, g2⟩ := hc 0 l0
          obtain ⟨g7, g8⟩ := hc k hlt
          clear hc
          have q10 : (0 : Int) < (k : Int) := by omega
          have d10 : decide ((0 : Int) < (k : Int)) = true := decide_eq_true q10
          have q11 : 0 < k := by omega
          have d11 : decide (0 < k) = true := decide_eq_true q11
          have HLC := Lib.hid (show ∀ w, Calls Try.prog 40 #[sv (pt N 0), sv (pt N k)] w fun e w' => e = .returned (.bool true) ∧ Below w.heap.size w w' from fun w => by
            have := less40 (pt N 0) (pt N k) w
            rw [HLS.out k hlt (by omega)] at this; exact this)
          simp only [Nat.zero_mul, Nat.add_zero] at g1 g2
          go_wp2_with fail
          go_region_held3 (fun w' => Below wr.heap.size wr w' ∧ w'.cell? ⟨b, off, none⟩ = some (iv (pt N 0).x) ∧ w'.cell? ⟨b, off + 1, none⟩ = some (iv (pt N 0).y) ∧ w'.cell? ⟨b, off + k * 2, none⟩ = some (iv (pt N k).x) ∧ w'.cell? ⟨b, off + k * 2 + 1, none⟩ = some (iv (pt N k).y) ∧ w'.cell? ⟨b, off + k1 * 2, none⟩ = some (iv (pt N k1).x) ∧ w'.cell? ⟨b, off + k1 * 2 + 1, none⟩ = some (iv (pt N k1).y) ∧ w'.cell? ⟨b, off + k2 * 2, none⟩ = some (iv (pt N k2).x) ∧ w'.cell? ⟨b, off + k2 * 2 + 1, none⟩ = some (iv (pt N k2).y))
            (first | exact ⟨below_drew wr, g1, g2, g7, g8, g3, g4, g5, g6⟩ | assumption | (go_split_ands; refine ⟨below_trans (by assumption) hbq, ?_, ?_, ?_, ?_, ?_, ?_, ?_, ?_⟩ <;> exact cell_later hbq (by assumption)))
            (first | (go_at_call 40; refine (HLC.out _).mono ?_; rintro e w' ⟨rfl, hbq⟩) | (go_at_call 41; refine (HCC.out _).mono ?_; rintro e w' ⟨rfl, hbq⟩))
          go_split_ands
          go_wp2
          go_roundw
          case rel =>
            refine ⟨k + 1, by omega, by go_num, ?_, ?_⟩
            · exact hB.trans (Below.mono (by assumption) hB.size)
            · exact HSN.out.later (by assumption)
          case measure => simp [intOf]; omega
      · go_wp2_with fail
        refine (awake31 _).mono ?_
        rintro e w8 ⟨rfl, hb⟩
        go_wp2
        go_ret
        exact ⟨rfl, below_trans hB hb⟩
  · clear e1
    go_wp2_with fail
    refine (HAR.out _ H1.out).mono ?_
    rintro e wa ⟨rfl, hb⟩
    replace HW := Lib.hid (below_trans HW.out hb)
    replace H1 := Lib.hid (H1.out.later hb)
    clear hb
    go_wp2_with fail
    refine (HAR.out _ H1.out).mono ?_
    rintro e wa ⟨rfl, hb⟩
    replace HW := Lib.hid (below_trans HW.out hb)
    replace H1 := Lib.hid (H1.out.later hb)
    clear hb
    go_wp2_with fail
    refine (HAR.out _ H1.out).mono ?_
    rintro e wa ⟨rfl, hb⟩
    replace HW := Lib.hid (below_trans HW.out hb)
    replace H1 := Lib.hid (H1.out.later hb)
    clear hb
    clear e2 e3 e4
    go_wp2_with fail
    generalize decide (ps.length < N.length) = g1
    generalize decide ((N.length : Int) < 3) = g2
    go_loopw [16] (fun v wr => ∃ k : Nat, k ≤ N.length ∧ v = .int .i64 k ∧ Below w.heap.size w wr ∧ Sp wr A1 N) (fun v _ => N.length - (intOf v).toNat)
    case atStart => exact ⟨0, Nat.zero_le _, rfl, HW.out, H1.out⟩
    case round =>
      obtain ⟨k, hk, rfl, hB, hsN⟩ := hrel
      by_cases hlt : k < N.length
      · have hneN : N ≠ [] := by intro h; rw [h] at n3; simp at n3
        obtain ⟨b, off, rfl, hc⟩ := id hsN hneN
        have HSN := Lib.hid hsN
        clear hsN
        have l0 : 0 < N.length := by omega
        have l1 : (k + 1) % N.length < N.length := Nat.mod_lt _ l0
        have l2 : (k + 2) % N.length < N.length := Nat.mod_lt _ l0
        obtain ⟨g3, g4⟩ := hc _ l1
        obtain ⟨g5, g6⟩ := hc _ l2
        have m1 := mod_one k N.length
        have m2 := mod_two k N.length
        have hcc : crZ (pt N k) (pt N ((k + 1) % N.length)) (pt N ((k + 2) % N.length)) ≠ 0 := by
          rw [← bend_next hlt]; exact HBN.out _ l1
        have HCC := Lib.hid (fun w => cross41 (pt N k) (pt N ((k + 1) % N.length)) (pt N ((k + 2) % N.length)) w (bd_pt HBD.out _) (bd_pt HBD.out _) (bd_pt HBD.out _))
        generalize crZ (pt N k) (pt N ((k + 1) % N.length)) (pt N ((k + 2) % N.length)) = cc at *
        generalize e1 : (k + 1) % N.length = k1 at *
        generalize e2 : (k + 2) % N.length = k2 at *
        clear e1 e2
        have hc0 : (cc == 0) = false := by simpa using hcc
        have t1 : ((k : Int) + 1).tmod (N.length : Int) = (k1 : Int) := by rw [Int.tmod_eq_emod_of_nonneg (by omega)]; exact m1
        have t2 : ((k : Int) + 2).tmod (N.length : Int) = (k2 : Int) := by rw [Int.tmod_eq_emod_of_nonneg (by omega)]; exact m2
        clear m1 m2
        have s1 : IntKind.i64.wrap ((k : Int) + 1) = (k : Int) + 1 := IntWalk.i64_in _ (by omega)
        have s2 : IntKind.i64.wrap ((k : Int) + 2) = (k : Int) + 2 := IntWalk.i64_in _ (by omega)
        have q1 : (0 : Int) ≤ (k2 : Int) := by omega
        have q2 : (k2 : Int) < (N.length : Int) := by omega
        have q5 : (0 : Int) ≤ (k1 : Int) := by omega
        have q6 : (k1 : Int) < (N.length : Int) := by omega
        have q3 : ((N.length : Int) == 0) = false := beq_eq_false_iff_ne.2 (by omega)
        have q4 : ¬ ((N.length : Int) = 0) := by omega
        have q9 : (0 : Int) < (N.length : Int) := by omega
        have q7 : (0 : Int) ≤ (k : Int) := by omega
        have q8 : (k : Int) < (N.length : Int) := by omega
        by_cases hk0 : k = 0
        · have d10 : decide ((0 : Int) < (k : Int)) = false := decide_eq_false (by omega)
          have d11 : decide (0 < k) = false := decide_eq_false (by omega)
          clear hk0
          obtain ⟨g1, g2⟩ := hc k hlt
          clear hc
          go_wp2_with fail
          refine wp_region_noPanic ?_
          refine wp_region_held_drew (S := (fun w' => Below wr.heap.size wr w' ∧ Below w.heap.size w w' ∧ w'.cell? ⟨b, off + k * 2, none⟩ = some (iv (pt N k).x) ∧ w'.cell? ⟨b, off + k * 2 + 1, none⟩ = some (iv (pt N k).y) ∧ w'.cell? ⟨b, off + k1 * 2, none⟩ = some (iv (pt N k1).x) ∧ w'.cell? ⟨b, off + k1 * 2 + 1, none⟩ = some (iv (pt N k1).y) ∧ w'.cell? ⟨b, off + k2 * 2, none⟩ = some (iv (pt N k2).x) ∧ w'.cell? ⟨b, off + k2 * 2 + 1, none⟩ = some (iv (pt N k2).y))) (by kernel_rfl) ?_ (fun hHeld => ?_)
          · exact ⟨below_drew wr, hB.drew, g1, g2, g3, g4, g5, g6⟩
          refine wpAnyH_take (i := 0) (oi := ({ dst := some 127, op := Op.move (Operand.tmp 16), type := 3, pos := "law.go:88", after := #[], guard := none } : Oper)) (v := ?vb0) rfl (by kernel_rfl) (by kernel_rfl) (by kernel_rfl) (fun _ _ _ h => h) (Or.inl ⟨by rfl, ?hyb0⟩) (by assumption) ?restb0
          case hyb0 => intro w0 hSw; (try dsimp only at hSw); go_simp; try with_reducible rfl
          try simp only [Act.put, List.setIfInBounds_toArray, List.set_cons_zero, List.set_cons_succ]
          refine wpAnyH_take (i := 1) (oi := ({ dst := some 128, op := Op.binOp BinOp.gtr 3 (Operand.tmp 127) (Operand.const (Value.int IntKind.i64 0)) 3, type := 4, pos := "law.go:88", after := #[{ on := 0, ground := Ground.data }], guard := none } : Oper)) (v := ?vb1) rfl (by kernel_rfl) (by kernel_rfl) (by kernel_rfl) (fun _ _ _ h => h) (Or.inl ⟨by rfl, ?hyb1⟩) (by assumption) ?restb1
          case hyb1 => intro w0 hSw; (try dsimp only at hSw); go_simp; try with_reducible rfl
          try simp only [Act.put, List.setIfInBounds_toArray, List.set_cons_zero, List.set_cons_succ]
          refine wpAnyH_take (i := 2) (oi := ({ dst := some 129, op := Op.move (Operand.tmp 128), type := 4, pos := "law.go:88", after := #[{ on := 1, ground := Ground.data }], guard := none } : Oper)) (v := ?vb2) rfl (by kernel_rfl) (by kernel_rfl) (by kernel_rfl) (fun _ _ _ h => h) (Or.inl ⟨by rfl, ?hyb2⟩) (by assumption) ?restb2
          case hyb2 => intro w0 hSw; (try dsimp only at hSw); go_simp; try with_reducible rfl
          try simp only [Act.put, List.setIfInBounds_toArray, List.set_cons_zero, List.set_cons_succ]
          refine wpAnyH_take (i := 3) (oi := ({ dst := some 130, op := Op.move (Operand.tmp 9), type := 22, pos := "law.go:88", after := #[{ on := 2, ground := Ground.guard }], guard := some (2, true) } : Oper)) rfl (by kernel_rfl) (by kernel_rfl) (by kernel_rfl) (fun _ _ _ h => h) (Or.inr ⟨by rfl, rfl⟩) (by assumption) ?_
          try simp only [Act.put, List.setIfInBounds_toArray, List.set_cons_zero, List.set_cons_succ]
          refine wpAnyH_take (i := 4) (oi := ({ dst := some 131, op := Op.indexAddr 22 (Operand.tmp 130) (Operand.const (Value.int IntKind.i64 0)), type := 0, pos := "law.go:88", after := #[{ on := 3, ground := Ground.data }, { on := 2, ground := Ground.guard }], guard := some (2, true) } : Oper)) rfl (by kernel_rfl) (by kernel_rfl) (by kernel_rfl) (fun _ _ _ h => h) (Or.inr ⟨by rfl, rfl⟩) (by assumption) ?_
          try simp only [Act.put, List.setIfInBounds_toArray, List.set_cons_zero, List.set_cons_succ]
          refine wpAnyH_take (i := 5) (oi := ({ dst := some 132, op := Op.load 30 (Operand.tmp 131), type := 30, pos := "law.go:88", after := #[{ on := 4, ground := Ground.data }, { on := 2, ground := Ground.guard }], guard := some (2, true) } : Oper)) rfl (by kernel_rfl) (by kernel_rfl) (by kernel_rfl) (fun _ _ _ h => h) (Or.inr ⟨by rfl, rfl⟩) (by assumption) ?_
          try simp only [Act.put, List.setIfInBounds_toArray, List.set_cons_zero, List.set_cons_succ]
          refine wpAnyH_take (i := 6) (oi := ({ dst := some 133, op := Op.move (Operand.tmp 9), type := 22, pos := "law.go:88", after := #[{ on := 2, ground := Ground.guard }], guard := some (2, true) } : Oper)) rfl (by kernel_rfl) (by kernel_rfl) (by kernel_rfl) (fun _ _ _ h => h) (Or.inr ⟨by rfl, rfl⟩) (by assumption) ?_
          try simp only [Act.put, List.setIfInBounds_toArray, List.set_cons_zero, List.set_cons_succ]
          refine wpAnyH_take (i := 7) (oi := ({ dst := some 134, op := Op.move (Operand.tmp 16), type := 3, pos := "law.go:88", after := #[{ on := 2, ground := Ground.guard }], guard := some (2, true) } : Oper)) rfl (by kernel_rfl) (by kernel_rfl) (by kernel_rfl) (fun _ _ _ h => h) (Or.inr ⟨by rfl, rfl⟩) (by assumption) ?_
          try simp only [Act.put, List.setIfInBounds_toArray, List.set_cons_zero, List.set_cons_succ]
          refine wpAnyH_take (i := 8) (oi := ({ dst := some 135, op := Op.indexAddr 22 (Operand.tmp 133) (Operand.tmp 134), type := 0, pos := "law.go:88", after := #[{ on := 6, ground := Ground.data }, { on := 7, ground := Ground.data }, { on := 2, ground := Ground.guard }], guard := some (2, true) } : Oper)) rfl (by kernel_rfl) (by kernel_rfl) (by kernel_rfl) (fun _ _ _ h => h) (Or.inr ⟨by rfl, rfl⟩) (by assumption) ?_
          try simp only [Act.put, List.setIfInBounds_toArray, List.set_cons_zero, List.set_cons_succ]
          refine wpAnyH_take (i := 9) (oi := ({ dst := some 136, op := Op.load 30 (Operand.tmp 135), type := 30, pos := "law.go:88", after := #[{ on := 8, ground := Ground.data }, { on := 2, ground := Ground.guard }], guard := some (2, true) } : Oper)) rfl (by kernel_rfl) (by kernel_rfl) (by kernel_rfl) (fun _ _ _ h => h) (Or.inr ⟨by rfl, rfl⟩) (by assumption) ?_
          try simp only [Act.put, List.setIfInBounds_toArray, List.set_cons_zero, List.set_cons_succ]
          refine wpAnyH_take (i := 10) (oi := ({ dst := some 137, op := Op.call { callee := Callee.value (Operand.func 40), args := #[Operand.tmp 132, Operand.tmp 136], argTypes := #[30, 30] }, type := 4, pos := "law.go:88", after := #[{ on := 5, ground := Ground.data }, { on := 9, ground := Ground.data }, { on := 2, ground := Ground.chain }, { on := 2, ground := Ground.guard }], guard := some (2, true) } : Oper)) rfl (by kernel_rfl) (by kernel_rfl) (by kernel_rfl) (fun _ _ _ h => h) (Or.inr ⟨by rfl, rfl⟩) (by assumption) ?_
          try simp only [Act.put, List.setIfInBounds_toArray, List.set_cons_zero, List.set_cons_succ]
          refine wpAnyH_take (i := 11) (oi := ({ dst := some 138, op := Op.unOp UnOp.not 4 (Operand.tmp 137), type := 4, pos := "law.go:88", after := #[{ on := 10, ground := Ground.data }, { on := 2, ground := Ground.guard }], guard := some (2, true) } : Oper)) rfl (by kernel_rfl) (by kernel_rfl) (by kernel_rfl) (fun _ _ _ h => h) (Or.inr ⟨by rfl, rfl⟩) (by assumption) ?_
          try simp only [Act.put, List.setIfInBounds_toArray, List.set_cons_zero, List.set_cons_succ]
          refine wpAnyH_take (i := 12) (oi := ({ dst := some 139, op := Op.pick (Operand.tmp 129) (Operand.tmp 138) (Operand.const (Value.bool false)), type := 4, pos := "law.go:88", after := #[{ on := 2, ground := Ground.data }, { on := 11, ground := Ground.data }], guard := none } : Oper)) (v := ?vb12) rfl (by kernel_rfl) (by kernel_rfl) (by kernel_rfl) (fun _ _ _ h => h) (Or.inl ⟨by rfl, ?hyb12⟩) (by assumption) ?restb12
          case hyb12 => intro w0 hSw; (try dsimp only at hSw); go_simp; try with_reducible rfl
          try simp only [Act.put, List.setIfInBounds_toArray, List.set_cons_zero, List.set_cons_succ]
          refine wpAnyH_take (i := 13) (oi := ({ dst := some 140, op := Op.move (Operand.tmp 139), type := 4, pos := "law.go:88", after := #[{ on := 12, ground := Ground.data }, { on := 10, ground := Ground.chain }], guard := none } : Oper)) (v := ?vb13) rfl (by kernel_rfl) (by kernel_rfl) (by kernel_rfl) (fun _ _ _ h => h) (Or.inl ⟨by rfl, ?hyb13⟩) (by assumption) ?restb13
          case hyb13 => intro w0 hSw; (try dsimp only at hSw); go_simp; try with_reducible rfl
          try simp only [Act.put, List.setIfInBounds_toArray, List.set_cons_zero, List.set_cons_succ]
          refine wpAnyH_take (i := 14) (oi := ({ dst := some 141, op := Op.move (Operand.tmp 9), type := 22, pos := "law.go:88", after := #[{ on := 13, ground := Ground.guard }], guard := some (13, false) } : Oper)) (v := ?vb14) rfl (by kernel_rfl) (by kernel_rfl) (by kernel_rfl) (fun _ _ _ h => h) (Or.inl ⟨by rfl, ?hyb14⟩) (by assumption) ?restb14
          case hyb14 => intro w0 hSw; (try dsimp only at hSw); go_simp; try with_reducible rfl
          try simp only [Act.put, List.setIfInBounds_toArray, List.set_cons_zero, List.set_cons_succ]
          refine wpAnyH_take (i := 15) (oi := ({ dst := some 142, op := Op.move (Operand.tmp 16), type := 3, pos := "law.go:88", after := #[{ on := 13, ground := Ground.guard }], guard := some (13, false) } : Oper)) (v := ?vb15) rfl (by kernel_rfl) (by kernel_rfl) (by kernel_rfl) (fun _ _ _ h => h) (Or.inl ⟨by rfl, ?hyb15⟩) (by assumption) ?restb15
          case hyb15 => intro w0 hSw; (try dsimp only at hSw); go_simp; try with_reducible rfl
          try simp only [Act.put, List.setIfInBounds_toArray, List.set_cons_zero, List.set_cons_succ]
          refine wpAnyH_take (i := 16) (oi := ({ dst := some 143, op := Op.indexAddr 22 (Operand.tmp 141) (Operand.tmp 142), type := 0, pos := "law.go:88", after := #[{ on := 14, ground := Ground.data }, { on := 15, ground := Ground.data }, { on := 13, ground := Ground.guard }], guard := some (13, false) } : Oper)) (v := ?vb16) rfl (by kernel_rfl) (by kernel_rfl) (by kernel_rfl) (fun _ _ _ h => h) (Or.inl ⟨by rfl, ?hyb16⟩) (by assumption) ?restb16
          case hyb16 => intro w0 hSw; (try dsimp only at hSw); go_simp; try with_reducible rfl
          try simp only [Act.put, List.setIfInBounds_toArray, List.set_cons_zero, List.set_cons_succ]
          refine wpAnyH_take (i := 17) (oi := ({ dst := some 144, op := Op.load 30 (Operand.tmp 143), type := 30, pos := "law.go:88", after := #[{ on := 16, ground := Ground.data }, { on := 13, ground := Ground.guard }], guard := some (13, false) } : Oper)) (v := ?vb17) rfl (by kernel_rfl) (by kernel_rfl) (by kernel_rfl) (fun _ _ _ h => h) (Or.inl ⟨by rfl, ?hyb17⟩) (by assumption) ?restb17
          case hyb17 => intro w0 hSw; (try dsimp only at hSw); go_simp; try with_reducible rfl
          try simp only [Act.put, List.setIfInBounds_toArray, List.set_cons_zero, List.set_cons_succ]
          refine wpAnyH_take (i := 18) (oi := ({ dst := some 145, op := Op.move (Operand.tmp 9), type := 22, pos := "law.go:88", after := #[{ on := 13, ground := Ground.guard }], guard := some (13, false) } : Oper)) (v := ?vb18) rfl (by kernel_rfl) (by kernel_rfl) (by kernel_rfl) (fun _ _ _ h => h) (Or.inl ⟨by rfl, ?hyb18⟩) (by assumption) ?restb18
          case hyb18 => intro w0 hSw; (try dsimp only at hSw); go_simp; try with_reducible rfl
          try simp only [Act.put, List.setIfInBounds_toArray, List.set_cons_zero, List.set_cons_succ]
          refine wpAnyH_take (i := 19) (oi := ({ dst := some 146, op := Op.move (Operand.tmp 16), type := 3, pos := "law.go:88", after := #[{ on := 13, ground := Ground.guard }], guard := some (13, false) } : Oper)) (v := ?vb19) rfl (by kernel_rfl) (by kernel_rfl) (by kernel_rfl) (fun _ _ _ h => h) (Or.inl ⟨by rfl, ?hyb19⟩) (by assumption) ?restb19
          case hyb19 => intro w0 hSw; (try dsimp only at hSw); go_simp; try with_reducible rfl
          try simp only [Act.put, List.setIfInBounds_toArray, List.set_cons_zero, List.set_cons_succ]
          refine wpAnyH_take (i := 20) (oi := ({ dst := some 147, op := Op.binOp BinOp.add 3 (Operand.tmp 146) (Operand.const (Value.int IntKind.i64 1)) 3, type := 3, pos := "law.go:88", after := #[{ on := 19, ground := Ground.data }, { on := 13, ground := Ground.guard }], guard := some (13, false) } : Oper)) (v := ?vb20) rfl (by kernel_rfl) (by kernel_rfl) (by kernel_rfl) (fun _ _ _ h => h) (Or.inl ⟨by rfl, ?hyb20⟩) (by assumption) ?restb20
          case hyb20 => intro w0 hSw; (try dsimp only at hSw); go_simp; try with_reducible rfl
          try simp only [Act.put, List.setIfInBounds_toArray, List.set_cons_zero, List.set_cons_succ]
          refine wpAnyH_take (i := 21) (oi := ({ dst := some 148, op := Op.move (Operand.tmp 9), type := 22, pos := "law.go:88", after := #[{ on := 13, ground := Ground.guard }], guard := some (13, false) } : Oper)) (v := ?vb21) rfl (by kernel_rfl) (by kernel_rfl) (by kernel_rfl) (fun _ _ _ h => h) (Or.inl ⟨by rfl, ?hyb21⟩) (by assumption) ?restb21
          case hyb21 => intro w0 hSw; (try dsimp only at hSw); go_simp; try with_reducible rfl
          try simp only [Act.put, List.setIfInBounds_toArray, List.set_cons_zero, List.set_cons_succ]
          refine wpAnyH_take (i := 22) (oi := ({ dst := some 149, op := Op.call { callee := Callee.builtin Builtin.len, args := #[Operand.tmp 148], argTypes := #[22] }, type := 3, pos := "law.go:88", after := #[{ on := 21, ground := Ground.data }, { on := 13, ground := Ground.guard }], guard := some (13, false) } : Oper)) (v := ?vb22) rfl (by kernel_rfl) (by kernel_rfl) (by kernel_rfl) (fun _ _ _ h => h) (Or.inl ⟨by rfl, ?hyb22⟩) (by assumption) ?restb22
          case hyb22 => intro w0 hSw; (try dsimp only at hSw); go_simp; try with_reducible rfl
          try simp only [Act.put, List.setIfInBounds_toArray, List.set_cons_zero, List.set_cons_succ]
          refine wpAnyH_take (i := 23) (oi := ({ dst := some 150, op := Op.binOp BinOp.rem 3 (Operand.tmp 147) (Operand.tmp 149) 3, type := 3, pos := "law.go:88", after := #[{ on := 20, ground := Ground.data }, { on := 22, ground := Ground.data }, { on := 13, ground := Ground.guard }], guard := some (13, false) } : Oper)) (v := ?vb23) rfl (by kernel_rfl) (by kernel_rfl) (by kernel_rfl) (fun _ _ _ h => h) (Or.inl ⟨by rfl, ?hyb23⟩) (by assumption) ?restb23
          case hyb23 => intro w0 hSw; (try dsimp only at hSw); go_simp; try with_reducible rfl
          try simp only [Act.put, List.setIfInBounds_toArray, List.set_cons_zero, List.set_cons_succ]
          refine wpAnyH_take (i := 24) (oi := ({ dst := some 151, op := Op.indexAddr 22 (Operand.tmp 145) (Operand.tmp 150), type := 0, pos := "law.go:88", after := #[{ on := 18, ground := Ground.data }, { on := 23, ground := Ground.data }, { on := 13, ground := Ground.guard }], guard := some (13, false) } : Oper)) (v := ?vb24) rfl (by kernel_rfl) (by kernel_rfl) (by kernel_rfl) (fun _ _ _ h => h) (Or.inl ⟨by rfl, ?hyb24⟩) (by assumption) ?restb24
          case hyb24 => intro w0 hSw; (try dsimp only at hSw); go_simp; try with_reducible rfl
          try simp only [Act.put, List.setIfInBounds_toArray, List.set_cons_zero, List.set_cons_succ]
          refine wpAnyH_take (i := 25) (oi := ({ dst := some 152, op := Op.load 30 (Operand.tmp 151), type := 30, pos := "law.go:88", after := #[{ on := 24, ground := Ground.data }, { on := 13, ground := Ground.guard }], guard := some (13, false) } : Oper)) (v := ?vb25) rfl (by kernel_rfl) (by kernel_rfl) (by kernel_rfl) (fun _ _ _ h => h) (Or.inl ⟨by rfl, ?hyb25⟩) (by assumption) ?restb25
          case hyb25 => intro w0 hSw; (try dsimp only at hSw); go_simp; try with_reducible rfl
          try simp only [Act.put, List.setIfInBounds_toArray, List.set_cons_zero, List.set_cons_succ]
          refine wpAnyH_take (i := 26) (oi := ({ dst := some 153, op := Op.move (Operand.tmp 9), type := 22, pos := "law.go:88", after := #[{ on := 13, ground := Ground.guard }], guard := some (13, false) } : Oper)) (v := ?vb26) rfl (by kernel_rfl) (by kernel_rfl) (by kernel_rfl) (fun _ _ _ h => h) (Or.inl ⟨by rfl, ?hyb26⟩) (by assumption) ?restb26
          case hyb26 => intro w0 hSw; (try dsimp only at hSw); go_simp; try with_reducible rfl
          try simp only [Act.put, List.setIfInBounds_toArray, List.set_cons_zero, List.set_cons_succ]
          refine wpAnyH_take (i := 27) (oi := ({ dst := some 154, op := Op.move (Operand.tmp 16), type := 3, pos := "law.go:88", after := #[{ on := 13, ground := Ground.guard }], guard := some (13, false) } : Oper)) (v := ?vb27) rfl (by kernel_rfl) (by kernel_rfl) (by kernel_rfl) (fun _ _ _ h => h) (Or.inl ⟨by rfl, ?hyb27⟩) (by assumption) ?restb27
          case hyb27 => intro w0 hSw; (try dsimp only at hSw); go_simp; try with_reducible rfl
          try simp only [Act.put, List.setIfInBounds_toArray, List.set_cons_zero, List.set_cons_succ]
          refine wpAnyH_take (i := 28) (oi := ({ dst := some 155, op := Op.binOp BinOp.add 3 (Operand.tmp 154) (Operand.const (Value.int IntKind.i64 2)) 3, type := 3, pos := "law.go:88", after := #[{ on := 27, ground := Ground.data }, { on := 13, ground := Ground.guard }], guard := some (13, false) } : Oper)) (v := ?vb28) rfl (by kernel_rfl) (by kernel_rfl) (by kernel_rfl) (fun _ _ _ h => h) (Or.inl ⟨by rfl, ?hyb28⟩) (by assumption) ?restb28
          case hyb28 => intro w0 hSw; (try dsimp only at hSw); go_simp; try with_reducible rfl
          try simp only [Act.put, List.setIfInBounds_toArray, List.set_cons_zero, List.set_cons_succ]
          refine wpAnyH_take (i := 29) (oi := ({ dst := some 156, op := Op.move (Operand.tmp 9), type := 22, pos := "law.go:88", after := #[{ on := 13, ground := Ground.guard }], guard := some (13, false) } : Oper)) (v := ?vb29) rfl (by kernel_rfl) (by kernel_rfl) (by kernel_rfl) (fun _ _ _ h => h) (Or.inl ⟨by rfl, ?hyb29⟩) (by assumption) ?restb29
          case hyb29 => intro w0 hSw; (try dsimp only at hSw); go_simp; try with_reducible rfl
          try simp only [Act.put, List.setIfInBounds_toArray, List.set_cons_zero, List.set_cons_succ]
          refine wpAnyH_take (i := 30) (oi := ({ dst := some 157, op := Op.call { callee := Callee.builtin Builtin.len, args := #[Operand.tmp 156], argTypes := #[22] }, type := 3, pos := "law.go:88", after := #[{ on := 29, ground := Ground.data }, { on := 13, ground := Ground.guard }], guard := some (13, false) } : Oper)) (v := ?vb30) rfl (by kernel_rfl) (by kernel_rfl) (by kernel_rfl) (fun _ _ _ h => h) (Or.inl ⟨by rfl, ?hyb30⟩) (by assumption) ?restb30
          case hyb30 => intro w0 hSw; (try dsimp only at hSw); go_simp; try with_reducible rfl
          try simp only [Act.put, List.setIfInBounds_toArray, List.set_cons_zero, List.set_cons_succ]
          refine wpAnyH_take (i := 31) (oi := ({ dst := some 158, op := Op.binOp BinOp.rem 3 (Operand.tmp 155) (Operand.tmp 157) 3, type := 3, pos := "law.go:88", after := #[{ on := 28, ground := Ground.data }, { on := 30, ground := Ground.data }, { on := 13, ground := Ground.guard }], guard := some (13, false) } : Oper)) (v := ?vb31) rfl (by kernel_rfl) (by kernel_rfl) (by kernel_rfl) (fun _ _ _ h => h) (Or.inl ⟨by rfl, ?hyb31⟩) (by assumption) ?restb31
          case hyb31 => intro w0 hSw; (try dsimp only at hSw); go_simp; try with_reducible rfl
          try simp only [Act.put, List.setIfInBounds_toArray, List.set_cons_zero, List.set_cons_succ]
          refine wpAnyH_take (i := 32) (oi := ({ dst := some 159, op := Op.indexAddr 22 (Operand.tmp 153) (Operand.tmp 158), type := 0, pos := "law.go:88", after := #[{ on := 26, ground := Ground.data }, { on := 31, ground := Ground.data }, { on := 13, ground := Ground.guard }], guard := some (13, false) } : Oper)) (v := ?vb32) rfl (by kernel_rfl) (by kernel_rfl) (by kernel_rfl) (fun _ _ _ h => h) (Or.inl ⟨by rfl, ?hyb32⟩) (by assumption) ?restb32
          case hyb32 => intro w0 hSw; (try dsimp only at hSw); go_simp; try with_reducible rfl
          try simp only [Act.put, List.setIfInBounds_toArray, List.set_cons_zero, List.set_cons_succ]
          refine wpAnyH_take (i := 33) (oi := ({ dst := some 160, op := Op.load 30 (Operand.tmp 159), type := 30, pos := "law.go:88", after := #[{ on := 32, ground := Ground.data }, { on := 13, ground := Ground.guard }], guard := some (13, false) } : Oper)) (v := ?vb33) rfl (by kernel_rfl) (by kernel_rfl) (by kernel_rfl) (fun _ _ _ h => h) (Or.inl ⟨by rfl, ?hyb33⟩) (by assumption) ?restb33
          case hyb33 => intro w0 hSw; (try dsimp only at hSw); go_simp; try with_reducible rfl
          try simp only [Act.put, List.setIfInBounds_toArray, List.set_cons_zero, List.set_cons_succ]
          refine wpAnyH_ready (rs := [34]) (by kernel_rfl) (by simp) ?_
          refine AllReadyH.cons (o := ({ dst := some 161, op := Op.call { callee := Callee.value (Operand.func 41), args := #[Operand.tmp 144, Operand.tmp 152, Operand.tmp 160], argTypes := #[30, 30, 30] }, type := 3, pos := "law.go:88", after := #[{ on := 17, ground := Ground.data }, { on := 25, ground := Ground.data }, { on := 33, ground := Ground.data }, { on := 13, ground := Ground.chain }, { on := 13, ground := Ground.guard }], guard := some (13, false) } : Oper)) rfl (fun K hK => ?_) AllReadyH.nil
          go_simp
          go_at_call 41
          refine (HCC.out _).mono ?_
          rintro e w' ⟨rfl, hbq⟩
          refine hK.out _ _ ?_ (fun hHeld => ?_)
          · go_split_ands; refine ⟨below_trans (by assumption) hbq, below_trans (by assumption) hbq, ?_, ?_, ?_, ?_, ?_, ?_⟩ <;> exact cell_later hbq (by assumption)
          clear hK K
          try simp only [Act.put, List.setIfInBounds_toArray, List.set_cons_zero, List.set_cons_succ]
          refine wpAnyH_take (i := 35) (oi := ({ dst := some 162, op := Op.binOp BinOp.eql 3 (Operand.tmp 161) (Operand.const (Value.int IntKind.i64 0)) 3, type := 4, pos := "law.go:88", after := #[{ on := 34, ground := Ground.data }, { on := 13, ground := Ground.guard }], guard := some (13, false) } : Oper)) (v := ?vb35) rfl (by kernel_rfl) (by kernel_rfl) (by kernel_rfl) (fun _ _ _ h => h) (Or.inl ⟨by rfl, ?hyb35⟩) (by assumption) ?restb35
          case hyb35 => intro w0 hSw; (try dsimp only at hSw); go_simp; try with_reducible rfl
          try simp only [Act.put, List.setIfInBounds_toArray, List.set_cons_zero, List.set_cons_succ]
          refine wpAnyH_take (i := 36) (oi := ({ dst := some 163, op := Op.pick (Operand.tmp 140) (Operand.const (Value.bool true)) (Operand.tmp 162), type := 4, pos := "law.go:88", after := #[{ on := 13, ground := Ground.data }, { on := 35, ground := Ground.data }], guard := none } : Oper)) (v := ?vb36) rfl (by kernel_rfl) (by kernel_rfl) (by kernel_rfl) (fun _ _ _ h => h) (Or.inl ⟨by rfl, ?hyb36⟩) (by assumption) ?restb36
          case hyb36 => intro w0 hSw; (try dsimp only at hSw); go_simp; try with_reducible rfl
          try simp only [Act.put, List.setIfInBounds_toArray, List.set_cons_zero, List.set_cons_succ]
          refine wpAnyH_done (by kernel_rfl) ?_ _
          refine NoPanic.normal ?_
          have hH := hHeld
          try dsimp only at hH
          obtain ⟨hbr2, hbr, _⟩ := hH
          clear hHeld
          go_wp2
          go_roundw
          case rel =>
            exact ⟨k + 1, by omega, by go_num, hbr, HSN.out.later hbr2⟩
          case measure => simp [intOf]; omega
        · obtain ⟨g1, g2⟩ := hc 0 l0
          obtain ⟨g7, g8⟩ := hc k hlt
          clear hc
          have q10 : (0 : Int) < (k : Int) := by omega
          have d10 : decide ((0 : Int) < (k : Int)) = true := decide_eq_true q10
          have q11 : 0 < k := by omega
          have d11 : decide (0 < k) = true := decide_eq_true q11
          have HLC := Lib.hid (show ∀ w, Calls Try.prog 40 #[sv (pt N 0), sv (pt N k)] w fun e w' => e = .returned (.bool true) ∧ Below w.heap.size w w' from fun w => by
            have := less40 (pt N 0) (pt N k) w
            rw [HLS.out k hlt (by omega)] at this; exact this)
          simp only [Nat.zero_mul, Nat.add_zero] at g1 g2
          go_wp2_with fail
          go_region_held3 (fun w' => Below wr.heap.size wr w' ∧ w'.cell? ⟨b, off, none⟩ = some (iv (pt N 0).x) ∧ w'.cell? ⟨b, off + 1, none⟩ = some (iv (pt N 0).y) ∧ w'.cell? ⟨b, off + k * 2, none⟩ = some (iv (pt N k).x) ∧ w'.cell? ⟨b, off + k * 2 + 1, none⟩ = some (iv (pt N k).y) ∧ w'.cell? ⟨b, off + k1 * 2, none⟩ = some (iv (pt N k1).x) ∧ w'.cell? ⟨b, off + k1 * 2 + 1, none⟩ = some (iv (pt N k1).y) ∧ w'.cell? ⟨b, off + k2 * 2, none⟩ = some (iv (pt N k2).x) ∧ w'.cell? ⟨b, off + k2 * 2 + 1, none⟩ = some (iv (pt N k2).y))
            (first | exact ⟨below_drew wr, g1, g2, g7, g8, g3, g4, g5, g6⟩ | assumption | (go_split_ands; refine ⟨below_trans (by assumption) hbq, ?_, ?_, ?_, ?_, ?_, ?_, ?_, ?_⟩ <;> exact cell_later hbq (by assumption)))
            (first | (go_at_call 40; refine (HLC.out _).mono ?_; rintro e w' ⟨rfl, hbq⟩) | (go_at_call 41; refine (HCC.out _).mono ?_; rintro e w' ⟨rfl, hbq⟩))
          go_split_ands
          go_wp2
          go_roundw
          case rel =>
            refine ⟨k + 1, by omega, by go_num, ?_, ?_⟩
            · exact hB.trans (Below.mono (by assumption) hB.size)
            · exact HSN.out.later (by assumption)
          case measure => simp [intOf]; omega
      · go_wp2_with fail
        refine (awake31 _).mono ?_
        rintro e w8 ⟨rfl, hb⟩
        go_wp2
        go_ret
        exact ⟨rfl, below_trans hB hb⟩
end Go.Proofs.Ytfgeengdmbabhaa
