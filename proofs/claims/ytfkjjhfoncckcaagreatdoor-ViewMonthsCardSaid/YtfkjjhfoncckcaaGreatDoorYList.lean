/- view.List. -/
import Derived.Test.YtfkjjhfoncckcaaGreatDoorYPage
import Derived.Deep.DeepCutAuto
namespace Go.Proofs.YtfkjjhfoncckcaaGreatDoor
open Go.RowKit Go.Sort

structure ListT where
  id : Int
  into : Int
  parent : Int
  name : List UInt8
  remote : List UInt8
def listE1 (x : ListT) : List UInt8 := putL [] [[108, 105, 115, 116, 32], Lib.itoa x.id, [32], escapeB x.name]
def listE2 (x : ListT) : List UInt8 := if 0 < x.into then putL (listE1 x) [[109, 101, 114, 103, 101, 100, 32, 105, 110, 116, 111, 32], Lib.itoa x.into] else listE1 x
def listE3 (x : ListT) : List UInt8 := if x.remote = [] then listE2 x else putL (listE2 x) [[109, 111, 118, 101, 100, 32, 116, 111, 32], escapeB x.remote]
def listE4 (x : ListT) : List UInt8 := if 0 < x.parent then putL (listE3 x) [[115, 112, 108, 105, 116, 32, 102, 114, 111, 109, 32], Lib.itoa x.parent] else listE3 x
def topicB (s : SubT) : List UInt8 := if s.mode = 2 then [32] ++ escapeB s.topic else []
def modL (m : List UInt8) : List (List UInt8) := [[109, 111, 100, 101, 114, 97, 116, 111, 114, 32], escapeB m]
def subL (s : SubT) : List (List UInt8) := [[115, 117, 98, 115, 99, 114, 105, 98, 101, 114, 32], escapeB s.addr, [32], modeB s.mode, topicB s]
def listB (x : ListT) (subs : List SubT) (mods : List (List UInt8)) : List UInt8 := linesE subL (linesE modL (listE4 x) mods) subs
def listN (x : ListT) : Nat := 1 + (if 0 < x.into then 1 else 0) + (if x.remote = [] then 0 else 1) + (if 0 < x.parent then 1 else 0)
theorem Lns.list (x : ListT) (subs : List SubT) (mods : List (List UInt8)) : Lns (listB x subs mods) (listN x + mods.length + subs.length) := by
  have h1 : Lns (listE1 x) 1 := Lns.line (n := 0) .nil (cl4 (Cl.of rfl) (Cl.itoa _) (Cl.of rfl) (Cl.esc _))
  have h2 : Lns (listE2 x) (1 + (if 0 < x.into then 1 else 0)) := by
    unfold listE2
    split
    · exact h1.line (cl2 (Cl.of rfl) (Cl.itoa _))
    · exact h1
  have h3 : Lns (listE3 x) (1 + (if 0 < x.into then 1 else 0) + (if x.remote = [] then 0 else 1)) := by
    unfold listE3
    by_cases h : x.remote = []
    · rw [if_pos h, if_pos h]; exact h2
    · rw [if_neg h, if_neg h]; exact h2.line (cl2 (Cl.of rfl) (Cl.esc _))
  have h4 : Lns (listE4 x) (listN x) := by
    unfold listE4 listN
    split
    · exact h3.line (cl2 (Cl.of rfl) (Cl.itoa _))
    · exact h3
  refine Lns.lines _ _ (fun s => ?_) _ _ (Lns.lines _ _ (fun m => cl2 (Cl.of rfl) (Cl.esc _)) _ _ h4)
  refine cl5 (Cl.of rfl) (Cl.esc _) (Cl.of rfl) (Cl.mode _) ?_
  unfold topicB
  split
  · exact (Cl.of rfl).append (Cl.esc _)
  · exact Cl.nil
def I64 (n : Int) : Prop := -9223372036854775808 ≤ n ∧ n ≤ 9223372036854775807
theorem list_lens (x : ListT) : (listE1 x).length ≤ (listE2 x).length ∧ (listE2 x).length ≤ (listE3 x).length ∧ (listE3 x).length ≤ (listE4 x).length := by
  refine ⟨?_, ?_, ?_⟩
  · unfold listE2; split <;> first | (rw [putL_len]; omega) | exact Nat.le_refl _
  · unfold listE3; split <;> first | (rw [putL_len]; omega) | exact Nat.le_refl _
  · unfold listE4; split <;> first | (rw [putL_len]; omega) | exact Nat.le_refl _

set_option maxHeartbeats 2000000 in
set_option maxRecDepth 100000 in
theorem list_any (x : ListT) (subs : List SubT) (mods : List (List UInt8)) (sv mv : Value) (w : World) (hs : SubsAt w subs sv) (hm : IdsAt w mods mv) (hsl : subs.length ≤ 1073741824) (hml : mods.length ≤ 1073741824)
    (hi : I64 x.id ∧ I64 x.into ∧ I64 x.parent) (hn : x.name.length ≤ 100000000 ∧ x.remote.length ≤ 100000000) (hsq : ∀ s ∈ subs, s.addr.length ≤ 100000000 ∧ s.topic.length ≤ 100000000) (hmq : ∀ s ∈ mods, s.length ≤ 100000000)
    (ht : (listB x subs mods).length ≤ 1073741824) (hT : Tab w) :
    Calls Tryz.prog 13 #[.agg #[.int .i64 x.id, .int .i64 x.into, .int .i64 x.parent, vstr x.name, vstr x.remote], sv, mv] w fun e w' => e = .returned (vstr (listB x subs mods)) ∧ Ext w w' := by
  obtain ⟨sa, sc, rfl, hsc, hsr⟩ := hs
  obtain ⟨ma, mc, rfl, hmc, hmr⟩ := hm
  obtain ⟨wb, hwb⟩ : ∃ wb, wb = w.alloc (.cells #[.int .i64 x.id, .int .i64 x.into, .int .i64 x.parent, vstr x.name, vstr x.remote] 25) := ⟨_, rfl⟩
  have xb : Ext w wb := by rw [hwb]; exact (Ext.refl w).alloc _
  obtain ⟨W0, hW0⟩ : ∃ W0, W0 = wb.alloc (.cells #[.pointer none, .slice none 0 0] 72) := ⟨_, rfl⟩
  have x0 : Ext w W0 := by rw [hW0]; exact xb.alloc _
  have k0 := Pq.new (hT.ext xb)
  rw [← hW0] at k0
  obtain ⟨bl, hbl⟩ : ∃ bl, bl = w.heap.size := ⟨_, rfl⟩
  have hbs : wb.heap.size = bl + 1 := by rw [hwb, hbl]; simp
  rw [hbs] at k0
  have hbw : w.heap.size ≤ bl + 1 := by omega
  have cb : W0.heap[bl]? = some (.cells #[.int .i64 x.id, .int .i64 x.into, .int .i64 x.parent, vstr x.name, vstr x.remote] 25 (0, 0)) := by
    rw [hW0]
    refine ((Ext.refl wb).alloc _).heap (by omega) |>.trans ?_
    rw [hwb, hbl]
    exact heap_new w _
  have c0 : W0.cell? ⟨bl, 0, none⟩ = some (.int .i64 x.id) := by rw [Lib.cell_of_heap cb]; rfl
  have c1 : W0.cell? ⟨bl, 1, none⟩ = some (.int .i64 x.into) := by rw [Lib.cell_of_heap cb]; rfl
  have c2 : W0.cell? ⟨bl, 2, none⟩ = some (.int .i64 x.parent) := by rw [Lib.cell_of_heap cb]; rfl
  have c3 : W0.cell? ⟨bl, 3, none⟩ = some (vstr x.name) := by rw [Lib.cell_of_heap cb]; rfl
  have c4 : W0.cell? ⟨bl, 4, none⟩ = some (vstr x.remote) := by rw [Lib.cell_of_heap cb]; rfl
  obtain ⟨n1, n2, n3⟩ := list_lens x
  have n4 : (listE4 x).length ≤ 1073741824 := Nat.le_trans (Nat.le_trans (linesE_len _ _ _) (linesE_len _ _ _)) ht
  have hmt : (linesE modL (listE4 x) mods).length ≤ 1073741824 := Nat.le_trans (linesE_len subL subs _) ht
  obtain ⟨⟨i0, i1⟩, ⟨i2, i3⟩, i4, i5⟩ := hi
  obtain ⟨hn1, hn2⟩ := hn
  have C := Lib.hid (And.intro c0 (And.intro c1 (And.intro c2 (And.intro c3 c4))))
  have HW := Lib.hid hW0
  have Hwb := Lib.hid hwb
  have Hb := Lib.hid hbl
  have K0 := Lib.hid k0
  have X0 := Lib.hid x0
  have Hs := Lib.hid hsr
  have Hm := Lib.hid hmr
  have Hsq := Lib.hid hsq
  have Hmq := Lib.hid hmq
  have HT := Lib.hid ht
  have Hmt := Lib.hid hmt
  clear cb hW0 hwb hbl k0 x0 hsr hmr hsq hmq hT ht xb hmt c1 c2 c4
  go_enter Tryz.func13, Tryz.ntmps13
  go_upto_region 2 with fail
  rw [show (w.alloc (.cells #[.int .i64 x.id, .int .i64 x.into, .int .i64 x.parent, .string ⟨x.name.toArray⟩, .string ⟨x.remote.toArray⟩] 25)).alloc (.cells #[.pointer none, .slice none 0 0] 72) = W0 from by rw [HW.out, Hwb.out], ← Hb.out]
  go_cut [] (fun wx => Pq W0 wx (bl + 1) (listE1 x))
  case first =>
    go_region_with (first
      | (go_at_call 32; (with_reducible refine (decimal_any x.id i0 i1 _ (K0.out.tab.ext (Ext.refl _).drew)).mono ?_); rintro e wa ⟨rfl, ya⟩; have ya' : Ext W0 wa := ((Ext.refl W0).drew).trans ya; have e3 := ya'.holds c3)
      | (go_at_call 26; (with_reducible refine (escape_any x.name _ (by omega) (K0.out.mono ya').tab).mono ?_); rintro e wb ⟨rfl, yb⟩; have yb' : Ext W0 wb := ya'.trans yb)
      | (go_at_call 29; (refine (K0.out.line yb' [[108, 105, 115, 116, 32], Lib.itoa x.id, [32], escapeB x.name] (Nat.le_of_ble_eq_true rfl) (Nat.le_trans n1 (Nat.le_trans n2 (Nat.le_trans n3 n4)))).mono ?_); rintro e wz ⟨rfl, Pz⟩))
    all_goals
      go_wp2_with fail
      go_meet
      exact Pz
  case rest =>
    have P1 := Lib.hid hcut
    clear hcut
    have d := P1.out.cell (by omega) C.out.2.1
    go_upto_if 23 with fail
    go_cut [] (fun wx => Pq W0 wx (bl + 1) (listE2 x))
    case first =>
      by_cases h : 0 < x.into
      · have e : listE2 x = putL (listE1 x) [[109, 101, 114, 103, 101, 100, 32, 105, 110, 116, 111, 32], Lib.itoa x.into] := if_pos h
        have HE := Lib.hid e
        clear e
        go_wp2_with fail
        refine (decimal_any x.into i2 i3 _ P1.out.tab).mono ?_
        rintro e w3 ⟨rfl, x3⟩
        go_wp2_with fail
        refine (P1.out.line x3 [[109, 101, 114, 103, 101, 100, 32, 105, 110, 116, 111, 32], Lib.itoa x.into] (Nat.le_of_ble_eq_true rfl) (by rw [← HE.out]; exact (Nat.le_trans n2 (Nat.le_trans n3 n4)))).mono ?_
        rintro e w4 ⟨rfl, k⟩
        go_wp2_with fail
        go_meet
        rw [HE.out]
        exact k
      · have e : listE2 x = listE1 x := if_neg h
        go_wp2_with fail
        go_meet
        rw [e]
        exact P1.out
    case rest =>
      have P2 := Lib.hid hcut
      clear hcut
      have d := P2.out.cell (by omega) C.out.2.2.2.2
      go_upto_if 31 with fail
      go_cut [31] (fun _ wx => Pq W0 wx (bl + 1) (listE3 x))
      case first =>
        by_cases h : x.remote = []
        · have e : listE3 x = listE2 x := if_pos h
          have HH := Lib.hid h
          clear h
          go_wp2_with fail
          · exfalso
            have hc := ‹(!x.remote.isEmpty) = true›
            rw [HH.out] at hc
            exact absurd hc (by decide)
          · go_meet
            rw [e]
            exact P2.out
        · have e : listE3 x = putL (listE2 x) [[109, 111, 118, 101, 100, 32, 116, 111, 32], escapeB x.remote] := if_neg h
          have HE := Lib.hid e
          clear e
          go_wp2_with fail
          · refine (escape_any x.remote _ (by omega) P2.out.tab).mono ?_
            rintro e w3 ⟨rfl, x3⟩
            go_wp2_with fail
            refine (P2.out.line x3 [[109, 111, 118, 101, 100, 32, 116, 111, 32], escapeB x.remote] (Nat.le_of_ble_eq_true rfl) (by rw [← HE.out]; exact (Nat.le_trans n3 n4))).mono ?_
            rintro e w4 ⟨rfl, k⟩
            go_wp2_with fail
            go_meet
            rw [HE.out]
            exact k
          · exfalso
            have hc := ‹(!x.remote.isEmpty) = false›
            rw [Bool.not_eq_false'] at hc
            exact h (List.isEmpty_iff.1 hc)
      case rest =>
        have P3 := Lib.hid hcut
        clear hcut
        have d := P3.out.cell (by omega) C.out.2.2.1
        go_upto_if 39 with fail
        go_cut [] (fun wx => Pq W0 wx (bl + 1) (listE4 x))
        case first =>
          by_cases h : 0 < x.parent
          · have e : listE4 x = putL (listE3 x) [[115, 112, 108, 105, 116, 32, 102, 114, 111, 109, 32], Lib.itoa x.parent] := if_pos h
            have HE := Lib.hid e
            clear e
            go_wp2_with fail
            refine (decimal_any x.parent i4 i5 _ P3.out.tab).mono ?_
            rintro e w3 ⟨rfl, x3⟩
            go_wp2_with fail
            refine (P3.out.line x3 [[115, 112, 108, 105, 116, 32, 102, 114, 111, 109, 32], Lib.itoa x.parent] (Nat.le_of_ble_eq_true rfl) (by rw [← HE.out]; exact n4)).mono ?_
            rintro e w4 ⟨rfl, k⟩
            go_wp2_with fail
            go_meet
            rw [HE.out]
            exact k
          · have e : listE4 x = listE3 x := if_neg h
            go_wp2_with fail
            go_meet
            rw [e]
            exact P3.out
        case rest =>
          have P4 := Lib.hid hcut
          clear hcut c0 c3
          go_wp2_with fail
          go_loopw [47] (fun i wr => ∃ k : Nat, k ≤ mods.length ∧ i = .int .i64 k ∧ Pq W0 wr (bl + 1) (linesE modL (listE4 x) (mods.take k))) (fun i _ => mods.length - (intOf i).toNat)
          case atStart => exact ⟨0, Nat.zero_le _, rfl, P4.out⟩
          case round =>
            obtain ⟨k, hk, rfl, hp⟩ := hrel
            have HP := Lib.hid hp
            clear hp
            by_cases hlt : k < mods.length
            · rcases Hm.out with h0 | ⟨b, o, ha, hrow⟩
              · omega
              subst ha
              have hcell := (HP.out.ext X0.out hbw).holds (hrow k hlt hlt)
              rw [Nat.mul_one] at hcell
              have hsn := linesE_snoc modL mods (listE4 x) k hlt
              have hle := Nat.le_trans (linesE_take modL mods (listE4 x) (k + 1)) Hmt.out
              have hidk := Hmq.out mods[k] (List.getElem_mem hlt)
              obtain ⟨E, hE⟩ : ∃ E, E = linesE modL (listE4 x) (mods.take k) := ⟨_, rfl⟩
              obtain ⟨s, hs⟩ : ∃ s, s = mods[k] := ⟨_, rfl⟩
              rw [← hE, ← hs] at hsn
              rw [← hE] at HP
              rw [← hs] at hidk hcell
              rw [hsn] at hle
              have Hsn := Lib.hid hsn
              have Hle := Lib.hid hle
              clear hsn hE hs hrow hle
              go_wp2_with fail
              refine (escape_any s wr (by omega) HP.out.tab).mono ?_
              rintro e w5 ⟨rfl, x5⟩
              go_wp2_with fail
              refine (HP.out.line x5 [[109, 111, 100, 101, 114, 97, 116, 111, 114, 32], escapeB s] (Nat.le_of_ble_eq_true rfl) Hle.out).mono ?_
              rintro e w6 ⟨rfl, kq⟩
              have KQ := Lib.hid kq
              clear kq x5 hcell
              go_wp2
              go_roundw
              case rel => exact ⟨k + 1, by omega, by go_num, by rw [Hsn.out]; exact KQ.out⟩
              case measure => simp [intOf]; omega
            · obtain rfl : k = mods.length := by omega
              rw [List.take_length] at HP
              go_wp2_with fail
              go_loopw [58] (fun i wq => ∃ k : Nat, k ≤ subs.length ∧ i = .int .i64 k ∧ Pq W0 wq (bl + 1) (linesE subL (linesE modL (listE4 x) mods) (subs.take k))) (fun i _ => subs.length - (intOf i).toNat)
              case atStart => exact ⟨0, Nat.zero_le _, rfl, HP.out⟩
              case round =>
                obtain ⟨j, hj, rfl, hp⟩ := hrel
                have HQ := Lib.hid hp
                clear hp
                by_cases hjl : j < subs.length
                · rcases Hs.out with h0 | ⟨b, o, ha, hrow⟩
                  · omega
                  subst ha
                  obtain ⟨s0, s1, s2, s3, s4⟩ := (hrow j hjl hjl).ext (HQ.out.ext X0.out hbw)
                  have hsn := linesE_snoc subL subs (linesE modL (listE4 x) mods) j hjl
                  have hle := Nat.le_trans (linesE_take subL subs (linesE modL (listE4 x) mods) (j + 1)) HT.out
                  obtain ⟨hk1, hk2⟩ := Hsq.out subs[j] (List.getElem_mem hjl)
                  obtain ⟨E, hE⟩ : ∃ E, E = linesE subL (linesE modL (listE4 x) mods) (subs.take j) := ⟨_, rfl⟩
                  obtain ⟨s, hs⟩ : ∃ s, s = subs[j] := ⟨_, rfl⟩
                  rw [← hE, ← hs] at hsn
                  rw [← hE] at HQ
                  rw [← hs] at hk1 hk2 s0 s1 s2 s3 s4
                  rw [hsn] at hle
                  have Hsn := Lib.hid hsn
                  have Hle := Lib.hid hle
                  clear hsn hE hs hrow hle
                  obtain ⟨bs, hbs2⟩ : ∃ bs, bs = wr.heap.size := ⟨_, rfl⟩
                  obtain ⟨V1, hV1⟩ : ∃ V1, V1 = wr.alloc (.cells #[.int .i64 s.list, vstr s.addr, .int .i64 s.mode, vstr s.topic, .int .i64 s.since] 66) := ⟨_, rfl⟩
                  have xv : Ext wr V1 := by rw [hV1]; exact (Ext.refl wr).alloc _
                  have hc1 : V1.heap[bs]? = some (.cells #[.int .i64 s.list, vstr s.addr, .int .i64 s.mode, vstr s.topic, .int .i64 s.since] 66 (0, 0)) := by rw [hV1, hbs2]; exact heap_new wr _
                  have f1 : V1.cell? ⟨bs, 1, none⟩ = some (vstr s.addr) := by rw [Lib.cell_of_heap hc1]; rfl
                  have f2 : V1.cell? ⟨bs, 2, none⟩ = some (.int .i64 s.mode) := by rw [Lib.cell_of_heap hc1]; rfl
                  have f3 : V1.cell? ⟨bs, 3, none⟩ = some (vstr s.topic) := by rw [Lib.cell_of_heap hc1]; rfl
                  have QV := Lib.hid (HQ.out.mono xv)
                  have HV1 := Lib.hid hV1
                  have Hbs := Lib.hid hbs2
                  clear hV1 hbs2 hc1 xv
                  go_upto_if 64 with fail
                  rw [show wr.alloc (.cells #[.int .i64 s.list, .string ⟨s.addr.toArray⟩, .int .i64 s.mode, .string ⟨s.topic.toArray⟩, .int .i64 s.since] 66) = V1 from HV1.out.symm, ← Hbs.out]
                  go_cut [12, 64] (fun t _ wx => t = vstr (topicB s) ∧ Ext V1 wx)
                  case first =>
                    by_cases h2 : s.mode = 2
                    · have e : topicB s = [32] ++ escapeB s.topic := if_pos h2
                      have hE := escapeB_le s.topic
                      obtain ⟨A, hA⟩ : ∃ A, A = escapeB s.topic := ⟨_, rfl⟩
                      rw [← hA] at e hE
                      have HE := Lib.hid e
                      have HA := Lib.hid hA
                      have z : ¬ 9223372036854775807 < 1 + A.length := by omega
                      clear e hA hE
                      go_wp2_with fail
                      refine (escape_any s.topic V1 (by omega) QV.out.tab).mono ?_
                      rintro e w3 ⟨rfl, x3⟩
                      rw [← HA.out]
                      go_wp2_with fail
                      go_meet
                      exact ⟨by rw [HE.out]; exact congrArg Value.string (mk_cat [32] A), x3⟩
                    · have e : topicB s = [] := if_neg h2
                      go_wp2_with fail
                      go_meet
                      exact ⟨by rw [e], Ext.refl _⟩
                  case rest =>
                    obtain ⟨rfl, xt⟩ := hcut
                    have g1 := xt.holds f1
                    have g2 := xt.holds f2
                    have QW := Lib.hid (QV.out.mono xt)
                    clear f1 f2 f3 xt s0 s1 s2 s3 s4
                    go_upto_region 20 with fail
                    go_region_with (first
                      | (go_at_call 26; (with_reducible refine (escape_any s.addr _ (by omega) (QW.out.tab.ext (Ext.refl _).drew)).mono ?_); rintro e wa ⟨rfl, ya⟩; have ya' := ((Ext.refl _).drew).trans ya; have e2 := ya'.holds g2)
                      | (go_at_call 39; (with_reducible refine (mode_any s.mode _).mono ?_); rintro e wb ⟨rfl, yb⟩; have yb' := ya'.trans yb)
                      | (go_at_call 29; (refine (QW.out.line yb' (subL s) (Nat.le_of_ble_eq_true rfl) Hle.out).mono ?_); rintro e wz ⟨rfl, Pz⟩))
                    all_goals
                      have KQ := Lib.hid Pz
                      clear Pz ya ya' yb yb' e2 g1 g2
                      go_wp2
                      go_roundw
                      case rel => exact ⟨j + 1, by omega, by go_num, by rw [Hsn.out]; exact KQ.out⟩
                      case measure => simp [intOf]; omega
                · obtain rfl : j = subs.length := by omega
                  rw [List.take_length] at HQ
                  go_wp2_with fail
                  refine (builder_string (bl + 1) (bl + 1) _ _ HQ.out.bld (Nat.le_of_lt HQ.out.sz)).mono ?_
                  rintro e w9 ⟨rfl, _, h9, _⟩
                  have x9 : Ext w w9 := (HQ.out.ext X0.out hbw).upon (Below.mono h9 hbw)
                  go_wp2
                  go_ret
                  exact ⟨rfl, x9⟩
end Go.Proofs.YtfkjjhfoncckcaaGreatDoor
