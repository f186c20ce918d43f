/- The walk of MimeLimits. -/
import Derived.Test.YtdjcjkpodggdpaaGreatDoorDSmall
import Derived.Deep.RegionHeld3
import Derived.Deep.DeepCutAuto
namespace Go.Proofs.YtdjcjkpodggdpaaGreatDoor
open Go.RowKit
attribute [local go_sem] Oper.semAt_some

theorem nestS_cat (j : Nat) : (⟨lineB.toArray⟩ : ByteArray) ++ ⟨(nestS j).toArray⟩ = ⟨(nestS (j + 1)).toArray⟩ := mk_append lineB (nestS j)
theorem bodyB_cat (j : Nat) : (⟨(bodyB j).toArray⟩ : ByteArray) ++ ⟨#[45, 45, 120, 10, 10, 10]⟩ = ⟨(bodyB (j + 1)).toArray⟩ := mk_append (bodyB j) secB

/-- Out of the bounds: the head's answer. -/
theorem limits_out (a c : Int) (w : World) (h : a < 0 ∨ 60 < a ∨ c < 1 ∨ 400 < c) :
    Calls Tryz.prog 3 #[.int .i64 a, .int .i64 c] w fun e w' => e = .returned (.bool true) ∧ Ext w w' := by
  have key : ∀ b1 b2 b3 b4 : Bool, decide (a < 0) = b1 → decide (60 < a) = b2 → decide (c < 1) = b3 → decide (400 < c) = b4 → (b1 || b2 || b3 || b4) = true → 
    Calls Tryz.prog 3 #[.int .i64 a, .int .i64 c] w fun e w' => e = .returned (.bool true) ∧ Ext w w' := by
    intro b1 b2 b3 b4 h1 h2 h3 h4 hb
    cases b1
    · cases b2
      · cases b3
        · cases b4
          · cases hb
          · go_enter Tryz.func3, Tryz.ntmps3
            go_wp2_with fail
            refine (small_any _).mono ?_
            rintro e w1 ⟨rfl, x1⟩
            go_wp2
            go_ret
            exact ⟨rfl, x1⟩
        · go_enter Tryz.func3, Tryz.ntmps3
          go_wp2_with fail
          refine (small_any _).mono ?_
          rintro e w1 ⟨rfl, x1⟩
          go_wp2
          go_ret
          exact ⟨rfl, x1⟩
      · go_enter Tryz.func3, Tryz.ntmps3
        go_wp2_with fail
        refine (small_any _).mono ?_
        rintro e w1 ⟨rfl, x1⟩
        go_wp2
        go_ret
        exact ⟨rfl, x1⟩
    · go_enter Tryz.func3, Tryz.ntmps3
      go_wp2_with fail
      refine (small_any _).mono ?_
      rintro e w1 ⟨rfl, x1⟩
      go_wp2
      go_ret
      exact ⟨rfl, x1⟩
  refine key _ _ _ _ rfl rfl rfl rfl ?_
  simpa [or_assoc] using h

set_option maxHeartbeats 4000000 in
set_option maxRecDepth 100000 in
theorem limits_in (k n : Nat) (w : World) (hk : k ≤ 60) (hn1 : 1 ≤ n) (hn : n ≤ 400) :
    Calls Tryz.prog 3 #[.int .i64 k, .int .i64 n] w fun e w' => e = .returned (.bool true) ∧ Ext w w' := by
  have g1 : decide ((k : Int) < 0) = false := by rw [decide_eq_false_iff_not]; omega
  have g2 : decide (60 < (k : Int)) = false := by rw [decide_eq_false_iff_not]; omega
  have g3 : decide ((n : Int) < 1) = false := by rw [decide_eq_false_iff_not]; omega
  have g4 : decide (400 < (n : Int)) = false := by rw [decide_eq_false_iff_not]; omega
  obtain ⟨k2, hq⟩ := partB_nest k (k + 1) 1 (by omega) (by omega)
  have hnl := nestS_len
  have HP := Lib.hid (mparse_any dec0 dec0_hdec (k + 1) (nestS k) _ k2 hq (by rw [hnl]; omega))
  obtain ⟨hd, hc⟩ := nest_depth k 1 (by omega) (by omega)
  have hlv := nest_leaves k 1 (by omega)
  obtain ⟨q, hqq⟩ : ∃ q, q = nestP k 1 := ⟨_, rfl⟩
  rw [← hqq] at HP hd hc hlv
  have Hd := Lib.hid hd
  have Hc := Lib.hid hc
  have Hlv := Lib.hid hlv
  have hcb : countB q ≤ 1000000 := by rw [hc]; omega
  have Hnl := Lib.hid hnl
  clear hd hc hlv hqq hq hnl
  go_enter Tryz.func3, Tryz.ntmps3
  go_wp2_with fail
  refine (small_any _).mono ?_
  rintro e w1 ⟨rfl, x1⟩
  go_wp2
  go_loop [7, 8] (fun s i => ∃ j : Nat, j ≤ k ∧ i = .int .i64 j ∧ s = vstr (nestS j)) (fun _ i => k - (intOf i).toNat)
  case atStart => exact ⟨0, Nat.zero_le _, rfl, rfl⟩
  case round =>
    obtain ⟨j, hj, rfl, rfl⟩ := hrel
    by_cases hlt : j < k
    · have hcat := nestS_cat j
      have hjl := Hnl.out j
      obtain ⟨N1, hN1⟩ : ∃ N1, N1 = nestS j := ⟨_, rfl⟩
      rw [← hN1] at hcat hjl ⊢
      have hs : 30 + N1.length ≤ 9223372036854775807 := by omega
      have Hcat := Lib.hid hcat
      clear hcat hN1 hjl
      go_wp2
      go_round
      case rel => exact ⟨j + 1, by omega, by go_num, congrArg Value.string Hcat.out⟩
      case measure => simp [intOf]; omega
    · obtain rfl : j = k := by omega
      obtain ⟨s, hs⟩ : ∃ s, s = nestS j := ⟨_, rfl⟩
      have hsl := Hnl.out j
      rw [← hs] at HP hsl ⊢
      have Hs := Lib.hid hs
      have X1 := Lib.hid x1
      clear hs x1
      go_wp2_with fail
      refine (HP.out _).mono ?_
      rintro e w2 ⟨v, rfl, hp, x2⟩
      obtain ⟨af, nf, cf, ap, np, cp, aq, nq, cq, rfl, _, _, _⟩ := hp.open
      obtain ⟨p, hpp⟩ : ∃ p, p = w2.heap.size := ⟨_, rfl⟩
      obtain ⟨W, hW⟩ : ∃ W, W = w2.alloc (.cells #[.slice af nf cf, vstr q.t, .slice ap np cp, vstr q.b, .slice aq nq cq] 27) := ⟨_, rfl⟩
      have xW : Ext w2 W := by rw [hW]; exact (Ext.refl w2).alloc _
      have FW : Five W p (.slice af nf cf) (vstr q.t) (.slice ap np cp) (vstr q.b) (.slice aq nq cq) := by rw [hW, hpp]; exact heap_new w2 _
      have hpW := PartAt.keep (Ext.keep xW) _ _ hp
      have XW := Lib.hid ((X1.out).trans (x2.trans xW))
      have HW := Lib.hid hW
      have Hpp := Lib.hid hpp
      have HpW := Lib.hid hpW
      clear hp x2 xW hW hpp hpW X1
      go_wp2_with fail
      rw [show w2.alloc (.cells #[.slice af nf cf, .string ⟨q.t.toArray⟩, .slice ap np cp, .string ⟨q.b.toArray⟩, .slice aq nq cq] 27) = W from HW.out.symm, ← Hpp.out]
      refine (leaves_any _ q _ W hcb HpW.out).mono ?_
      rintro e w3 ⟨u, rfl, hu, x3⟩
      rw [Hlv.out] at hu
      obtain ⟨lb, lo, lc, u0, u2, u4, rfl, l0, l1, l2, l3, l4, _, hlc⟩ := PartsAt.one hu
      have F3 := FW.ext x3
      have p3 := PartAt.keep (Ext.keep x3) _ _ HpW.out
      have c0 := F3.cell0
      have c1 := F3.cell1
      have c2 := F3.cell2
      have c3 := F3.cell3
      have c4 := F3.cell4
      have X3 := Lib.hid ((XW.out).trans x3)
      clear hu x3 F3 FW HpW XW l0 l2 l4
      obtain ⟨dq, hdq⟩ : ∃ dq, dq = depthB q := ⟨_, rfl⟩
      obtain ⟨cq', hcq⟩ : ∃ cq', cq' = countB q := ⟨_, rfl⟩
      have hd1 : dq = min (j + 1) 40 := by rw [hdq, Hd.out]
      have hc1 : cq' = dq := by rw [hcq, Hc.out, hd1]
      have hmn : min ((j : Int) + 1) 40 = (dq : Int) := by omega
      have HDQ := Lib.hid hdq
      have HCQ := Lib.hid hcq
      subst hc1
      clear hdq hcq hd1
      go_upto_region 12 with fail
      have hwr : IntKind.i64.wrap ((j : Int) + 1) = (j : Int) + 1 := wrap_small (by omega)
      have hmn2 : min (IntKind.i64.wrap ((j : Int) + 1)) 40 = (cq' : Int) := by rw [hwr]; exact hmn
      go_cut [59] (fun t wx => t = .bool false ∧ Ext w3 wx)
      case first =>
        go_region_held3 (fun w' => w'.cell? ⟨p, 0, none⟩ = some (.slice af nf cf) ∧ w'.cell? ⟨p, 1, none⟩ = some (vstr q.t) ∧ w'.cell? ⟨p, 2, none⟩ = some (.slice ap np cp) ∧ w'.cell? ⟨p, 3, none⟩ = some (vstr q.b) ∧ w'.cell? ⟨p, 4, none⟩ = some (.slice aq nq cq) ∧
            PartAt w' (From w1.heap.size) q (.agg #[.slice af nf cf, vstr q.t, .slice ap np cp, vstr q.b, .slice aq nq cq]) ∧ Ext w3 w')
          (first
            | exact ⟨c0, c1, c2, c3, c4, PartAt.keep (Ext.keep (Ext.drew (Ext.refl w3))) _ _ p3, Ext.drew (Ext.refl w3)⟩
            | (go_split_ands
               exact ⟨xx.holds (by assumption), xx.holds (by assumption), xx.holds (by assumption), xx.holds (by assumption), xx.holds (by assumption), PartAt.keep (Ext.keep xx) _ _ (by assumption), Ext.trans (by assumption) xx⟩))
          (first
            | (go_at_call 7; go_split_ands; refine (depth_any (From w1.heap.size) 1000000 q _ _ hcb (Nat.le_refl _) (by assumption)).mono ?_; rintro e w' ⟨rfl, xx⟩; rw [← HDQ.out])
            | (go_at_call 8; go_split_ands; refine (count_any (From w1.heap.size) q _ _ hcb (by assumption)).mono ?_; rintro e w' ⟨rfl, xx⟩; rw [← HCQ.out]))
        all_goals (go_wp2_with fail; go_meet; go_split_ands; exact ⟨rfl, by assumption⟩)
      case rest =>
        obtain ⟨rfl, x4⟩ := hcut
        have X4 := Lib.hid ((X3.out).trans x4)
        have L1 := x4.holds l1
        have L3 := x4.holds l3
        clear l1 l3 c0 c1 c2 c3 c4 p3 X3 x4 hmn hmn2 hwr HP
        go_upto_region 14 with fail
        go_cut [100] (fun t wx => t = .bool false ∧ Ext w wx)
        case first =>
          by_cases h40 : j < 40
          · have d40 : decide ((j : Int) < 40) = true := by rw [decide_eq_true_iff]; omega
            have d41 : decide (40 ≤ (j : Int)) = false := by rw [decide_eq_false_iff_not]; omega
            rw [if_pos (by omega)] at L1 L3
            simp only [PartT.t, PartT.b, plainB, endB] at L1 L3
            go_wp2_with fail
            go_meet
            exact ⟨rfl, X4.out⟩
          · have d40 : decide ((j : Int) < 40) = false := by rw [decide_eq_false_iff_not]; omega
            have d41 : decide (40 ≤ (j : Int)) = true := by rw [decide_eq_true_iff]; omega
            rw [if_neg (by omega)] at L1 L3
            simp only [PartT.t, PartT.b, octB, Nat.reduceSub] at L1 L3
            have hbl := Hnl.out (j - 40)
            obtain ⟨B1, hB1⟩ : ∃ B1, B1 = nestS (j - 40) := ⟨_, rfl⟩
            rw [← hB1] at hbl L3
            have e9 : ((B1.length : Int) != (s.length : Int) - 1200) = false := by simp only [bne_eq_false_iff_eq]; omega
            have hs1 := Nat.le_of_eq hsl
            have hs2 := Nat.le_of_eq hsl.symm
            clear hbl hB1 hsl
            go_wp2_with fail
            go_meet
            first | exact ⟨rfl, X4.out⟩ | exact ⟨congrArg Value.bool e9, X4.out⟩
        case rest =>
          obtain ⟨rfl, x5⟩ := hcut
          have X5 := Lib.hid x5
          clear x5 X4 L1 L3 Hlv hlc Hd Hc HDQ HCQ
          obtain ⟨m0, rfl⟩ : ∃ m0, n = m0 + 1 := ⟨n - 1, by omega⟩
          obtain ⟨k3, hq3⟩ := partB_many m0
          have hbl := bodyB_len
          have HP2 := Lib.hid (mparse_any dec0 dec0_hdec 2 (headB ++ bodyB (m0 + 1)) _ k3 hq3 (by rw [List.length_append, hbl]; show 43 + _ ≤ _; omega))
          have Hbl := Lib.hid hbl
          clear hq3 hbl
          go_wp2
          go_loop [11, 12] (fun b i => ∃ m : Nat, m ≤ m0 + 1 ∧ i = .int .i64 m ∧ b = vstr (bodyB m)) (fun _ i => m0 + 1 - (intOf i).toNat)
          case atStart => exact ⟨0, Nat.zero_le _, rfl, rfl⟩
          case round =>
            obtain ⟨m, hm, rfl, rfl⟩ := hrel
            by_cases hlt : m < m0 + 1
            · have hcat := bodyB_cat m
              have hjl := Hbl.out m
              obtain ⟨N1, hN1⟩ : ∃ N1, N1 = bodyB m := ⟨_, rfl⟩
              rw [← hN1] at hcat hjl ⊢
              have hs : N1.length + 6 ≤ 9223372036854775807 := by omega
              have Hcat := Lib.hid hcat
              clear hcat hN1 hjl
              go_wp2
              go_round
              case rel => exact ⟨m + 1, by omega, by go_num, congrArg Value.string Hcat.out⟩
              case measure => simp [intOf]; omega
            · obtain rfl : m = m0 + 1 := by omega
              obtain ⟨bd, hbd⟩ : ∃ bd, bd = bodyB (m0 + 1) := ⟨_, rfl⟩
              have hbl := Hbl.out (m0 + 1)
              rw [← hbd] at HP2 hbl ⊢
              have hs : 43 + bd.length ≤ 9223372036854775807 := by omega
              have hmc : ¬ 300 < m0 + 2 → countB (manyP m0) = m0 + 2 ∧ depthB (manyP m0) = 2 := many_counts m0
              have hmo : 300 < m0 + 2 → manyP m0 = .mk [] octB [] bd [] := fun h => by rw [manyP, if_pos h, hbd]
              have Hmo := Lib.hid hmo
              obtain ⟨q3, hq3⟩ : ∃ q3, q3 = manyP m0 := ⟨_, rfl⟩
              rw [← hq3] at HP2 hmc Hmo
              have Hmc := Lib.hid hmc
              clear hmc hmo hbd hq3 hbl
              go_wp2_with fail
              rw [show (⟨#[67, 111, 110, 116, 101, 110, 116, 45, 84, 121, 112, 101, 58, 32, 109, 117, 108, 116, 105, 112, 97, 114, 116, 47, 109, 105, 120, 101, 100, 59, 32, 98, 111, 117, 110, 100, 97, 114, 121, 61, 120, 10, 10]⟩ : ByteArray) ++ ⟨bd.toArray⟩ = ⟨(headB ++ bd).toArray⟩ from mk_append headB bd]
              refine (HP2.out _).mono ?_
              rintro e w6 ⟨v, rfl, hp, x6⟩
              obtain ⟨bf, mf, df, bp, mp, dp, bq, mq, dq, rfl, _, _, _⟩ := hp.open
              have xW : Ext w6 (w6.alloc (.cells #[.slice bf mf df, vstr q3.t, .slice bp mp dp, vstr q3.b, .slice bq mq dq] 27)) := (Ext.refl w6).alloc _
              have FW : Five (w6.alloc (.cells #[.slice bf mf df, vstr q3.t, .slice bp mp dp, vstr q3.b, .slice bq mq dq] 27)) w6.heap.size (.slice bf mf df) (vstr q3.t) (.slice bp mp dp) (vstr q3.b) (.slice bq mq dq) := heap_new w6 _
              have pW := PartAt.keep (Ext.keep xW) _ _ hp
              have XW := Lib.hid ((X5.out).trans (x6.trans xW))
              by_cases h300 : 300 < m0 + 2
              · have hq3 := Hmo.out h300
                subst hq3
                have c300 : decide ((m0 : Int) + 1 < 300) = false := by rw [decide_eq_false_iff_not]; omega
                have PW := Lib.hid pW
                have hFW := Lib.hid FW
                simp only [PartT.t, PartT.b] at XW PW hFW ⊢
                clear hp x6 xW pW FW X5 HP2 Hmc Hmo Hbl
                go_wp2_with fail
                refine (count_any _ _ _ _ (by simp [countB, countsB]) PW.out).mono ?_
                rintro e w7 ⟨rfl, x7⟩
                have F7 := hFW.out.ext x7
                have c1 := F7.cell1
                have c3 := F7.cell3
                have hcb1 : countB (.mk [] octB [] bd []) = 1 := by simp [countB, countsB]
                rw [hcb1]
                simp only [octB] at c1
                go_wp2
                go_ret
                exact ⟨by simp, (XW.out).trans x7⟩
              · obtain ⟨hc1, hd1⟩ := Hmc.out h300
                have c300 : decide ((m0 : Int) + 1 < 300) = true := by rw [decide_eq_true_iff]; omega
                have PW := Lib.hid pW
                have hFW := Lib.hid FW
                have hcb3 : countB q3 ≤ 1000000 := by omega
                have Hc1 := Lib.hid hc1
                have Hd1 := Lib.hid hd1
                clear hp x6 xW pW FW X5 HP2 Hmc Hmo Hbl hc1 hd1
                go_wp2_with fail
                refine (count_any _ _ _ _ hcb3 PW.out).mono ?_
                rintro e w7 ⟨rfl, x7⟩
                have F7 := hFW.out.ext x7
                have p7 := PartAt.keep (Ext.keep x7) _ _ PW.out
                have c0 := F7.cell0
                have c1 := F7.cell1
                have c2 := F7.cell2
                have c3 := F7.cell3
                have c4 := F7.cell4
                have hce : (((countB q3 : Nat) : Int) == (m0 : Int) + 1 + 1) = true := by rw [Hc1.out]; simp only [beq_iff_eq]; omega
                have P7 := Lib.hid p7
                clear p7 F7
                go_wp2_with fail
                refine (depth_any _ 1000000 _ _ _ hcb3 (Nat.le_refl _) P7.out).mono ?_
                rintro e w8 ⟨rfl, x8⟩
                rw [Hd1.out]
                go_wp2
                go_ret
                exact ⟨by simp, (XW.out).trans (x7.trans x8)⟩
theorem limits_any (a c : Int) (w : World) : Calls Tryz.prog 3 #[.int .i64 a, .int .i64 c] w fun e w' => e = .returned (.bool true) ∧ Ext w w' := by
  by_cases h : a < 0 ∨ 60 < a ∨ c < 1 ∨ 400 < c
  · exact limits_out a c w h
  · obtain ⟨k, rfl⟩ : ∃ k : Nat, a = k := ⟨a.toNat, by omega⟩
    obtain ⟨n, rfl⟩ : ∃ n : Nat, c = n := ⟨c.toNat, by omega⟩
    exact limits_in k n w (by omega) (by omega) (by omega)
end Go.Proofs.YtdjcjkpodggdpaaGreatDoor
