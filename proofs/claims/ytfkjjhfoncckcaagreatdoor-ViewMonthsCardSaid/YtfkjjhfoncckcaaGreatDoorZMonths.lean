/- ViewMonths returns true. -/
import Derived.Test.YtfkjjhfoncckcaaGreatDoorZOrd
import Derived.Deep.AppendLies
import Derived.Test.YtfkjjhfoncckcaaGreatDoorYLight
import Derived.Test.YtfkjjhfoncckcaaGreatDoorYSafe0
import Derived.Test.YtfkjjhfoncckcaaGreatDoorVSmall
namespace Go.Proofs.YtfkjjhfoncckcaaGreatDoor
open Go.RowKit Go.Sort

theorem dist_of (qs : List ViewT) (h : ∀ a (ha : a < qs.length) c (hc : c < qs.length), a < qs.length → c < a → qs[c].id ≠ qs[a].id) : DistIds qs := by
  unfold DistIds
  refine List.pairwise_iff_getElem.2 fun c a hc ha hca => ?_
  rw [List.length_map] at hc ha
  rw [List.getElem_map, List.getElem_map]
  exact h a ha c hc ha hca
theorem owns_set {W : World} {base g : Nat} {v : Value} {n : Nat} {xs : List Value} {ds : List Bool} (h : W.ownsRow base 9 1 v n xs) (hb : Bools W g ds) (i : Nat) (u : Value) : (W.setCell ⟨g, i, none⟩ u).ownsRow base 9 1 v n xs := by
  rcases h with ⟨h1, h2⟩
  refine ⟨h1, ?_⟩
  rcases h2 with h | ⟨k, cap, cur, hv, hk, hg, hr⟩
  · exact .inl h
  · have hne : k ≠ g := by
      rintro rfl
      have hb' : W.heap[k]? = some (.cells (ds.map Value.bool).toArray 4 (0, 0)) := hb
      rw [hb'] at hg
      simp at hg
    exact .inr ⟨k, cap, cur, hv, hk, (Below.heap_setCell W ⟨g, i, none⟩ u k hne).trans hg, hr⟩
theorem owns_app {W w' : World} {base g : Nat} {v : Value} {n : Nat} {xs : List Value} {ds : List Bool} (h : W.ownsRow base 9 1 v n xs) (hb : Bools W g ds) (hgr : W.grownBy w' v.ownBlock) (hB : base ≤ W.heap.size) : Bools w' g ds ∧ Below base W w' := by
  have key : ∀ k, v.ownBlock = some k → base ≤ k ∧ k ≠ g := by
    intro k hk
    rcases h.2 with ⟨rfl, _⟩ | ⟨k2, cap, cur, rfl, hk2, hg, hr⟩
    · simp [Value.ownBlock] at hk
    · simp only [Value.ownBlock, Option.some.injEq] at hk
      subst hk
      refine ⟨hk2, ?_⟩
      rintro rfl
      have hb' : W.heap[k2]? = some (.cells (ds.map Value.bool).toArray 4 (0, 0)) := hb
      rw [hb'] at hg
      simp at hg
  refine ⟨?_, (Below.refl base W).grown hgr hB (fun k hk => (key k hk).1)⟩
  have e : w'.heap[g]? = W.heap[g]? := hgr.block g hb.lt (fun he => (key g he.symm).2 rfl)
  exact e.trans hb
theorem rootF_32 (f : Nat) (l : List (List UInt8)) (h : ∀ x ∈ l, x.length = 32) : (rootF f l).length = 32 := by
  cases f with
  | zero => exact sumB_len _
  | succ f =>
    rw [rootF]
    split
    · exact sumB_len _
    · split
      · rename_i h1
        cases l with
        | nil => cases h1
        | cons x l => exact h x List.mem_cons_self
      · exact sumB_len _
theorem hqq_of {qs D : List ViewT} (h : ∀ q ∈ qs, q.id.length ≤ 200 ∧ q.sender.length ≤ 200 ∧ q.subject.length ≤ 200 ∧ q.commit.length ≤ 200 ∧ q.lines.length ≤ 12 ∧ q.lists.length ≤ 12 ∧ ∀ y ∈ q.lines, y.salt.length ≤ 200 ∧ y.text.length ≤ 200 ∧ y.hash.length ≤ 200) (ho : Ord qs D) (j : Nat) (hj : j < D.length) : D[j].id.length ≤ 200 ∧ D[j].commit.length ≤ 200 := by
  obtain ⟨h1, _, _, h4, _⟩ := h D[j] (ho.perm.mem_iff.1 (List.getElem_mem hj))
  exact ⟨h1, h4⟩
def leafQ (q : ViewT) : List UInt8 := leafB (wtextB q.id ++ q.commit)
theorem ord_some (qs : List ViewT) : ∃ D, Ord qs D := by
  have h := ord_sortV (qs.map fun q => (⟨q, none, 0, none, 0⟩ : VC)).toArray
  have e : (qs.map fun q => (⟨q, none, 0, none, 0⟩ : VC)).toArray.toList.map VC.q = qs := by
    rw [List.map_map]
    exact List.map_id _
  rw [e] at h
  exact ⟨_, h⟩
set_option maxHeartbeats 4000000 in
set_option maxRecDepth 100000 in
theorem months_walk (qs : List ViewT) (x : ListT) (v0 : Value) (w : World) (hv : ViewsAt w qs v0) (hl : qs.length ≤ 9223372036854775807) (hx : I64 x.id ∧ I64 x.into ∧ I64 x.parent) (hd : ∀ q ∈ qs, I64 q.date ∧ I64 q.state ∧ ∀ n ∈ q.lists, I64 n) (hT : Tab w) (hC : Cons w) :
    Calls Tryz.prog 4 #[v0, .agg #[.int .i64 x.id, .int .i64 x.into, .int .i64 x.parent, vstr x.name, vstr x.remote]] w fun e w' => e = .returned (.bool true) ∧ Ext w w' := by
  obtain ⟨W0, hW0⟩ : ∃ W0, W0 = w.alloc (.cells #[.int .i64 x.id, .int .i64 x.into, .int .i64 x.parent, vstr x.name, vstr x.remote] 25) := ⟨_, rfl⟩
  have x0 : Ext w W0 := by rw [hW0]; exact (Ext.refl w).alloc _
  obtain ⟨bl, hbl⟩ : ∃ bl, bl = w.heap.size := ⟨_, rfl⟩
  have ca : W0.heap[bl]? = some (.cells #[.int .i64 x.id, .int .i64 x.into, .int .i64 x.parent, vstr x.name, vstr x.remote] 25 (0, 0)) := by rw [hW0, hbl]; exact heap_new w _
  obtain ⟨va, vc, rfl, hvc, hvr⟩ := hv
  have HV : Hid (ViewsAt W0 qs (.slice va qs.length vc)) := Lib.hid (ViewsAt.ext x0 ⟨va, vc, rfl, hvc, hvr⟩)
  have HW := Lib.hid hW0
  have Hb := Lib.hid hbl
  have X0 := Lib.hid x0
  have T0 := Lib.hid (hT.ext x0)
  have C0 := Lib.hid (hC.ext x0)
  have CA := Lib.hid ca
  have Hx := Lib.hid hx
  have Hd := Lib.hid hd
  clear hW0 hbl x0 hvr hT hC hx hd ca
  go_enter Tryz.func4, Tryz.ntmps4
  go_wp2_with fail
  rw [show w.alloc (.cells #[.int .i64 x.id, .int .i64 x.into, .int .i64 x.parent, .string ⟨x.name.toArray⟩, .string ⟨x.remote.toArray⟩] 25) = W0 from HW.out.symm, ← Hb.out]
  refine (small_true W0 T0.out).mono ?_
  rintro e w1 ⟨rfl, x1⟩
  have X1 := Lib.hid x1
  clear x1
  go_wp2_with fail
  refine (light_chk qs _ w1 (HV.out.ext X1.out) hl).mono ?_
  rintro e w2 ⟨rfl, x2⟩
  have X2 := Lib.hid (X1.out.trans x2)
  clear x2
  cases hL : lightOk qs with
  | false =>
    clear hL
    go_wp2
    go_ret
    exact ⟨rfl, X0.out.trans X2.out⟩
  | true =>
  obtain ⟨hq8, hq⟩ := light_good hL
  have Hq := Lib.hid hq
  clear hL hq hl
  have c3 : w2.cell? ⟨bl, 3, none⟩ = some (vstr x.name) := X2.out.holds (by rw [Lib.cell_of_heap CA.out]; rfl)
  by_cases g1 : (200 : Int) < x.name.length
  · go_wp2
    go_ret
    exact ⟨rfl, X0.out.trans X2.out⟩
  by_cases g2 : qs.length = 0
  · have g3 : (qs.length : Int) = 0 := by omega
    go_wp2
    go_ret
    exact ⟨rfl, X0.out.trans X2.out⟩
  obtain ⟨b, o, rfl, hrow⟩ : ∃ b o, va = some ⟨b, o, none⟩ ∧ ∀ i (hi : i < qs.length), ViewAt W0 qs[i] b (o + i * 8) := by
    obtain ⟨va2, vc2, hve, _, hvr⟩ := HV.out
    cases hve
    rcases hvr with h0 | ⟨b, o, ha, hrow⟩
    · exact absurd h0 g2
    · exact ⟨b, o, ha, fun i hi => hrow i hi hi⟩
  have HR := Lib.hid hrow
  have e3 : w2.cell? ⟨b, o + 3, none⟩ = some (.int .i64 (qs[0]'(by omega)).date) := by
    obtain ⟨_, _, _, _, _, _, _, _, _, h3, _⟩ := hrow 0 (by omega)
    rw [Nat.zero_mul, Nat.add_zero] at h3
    exact X2.out.holds h3
  have hn1 : x.name.length ≤ 200 := by omega
  have gz : ¬ (qs.length : Int) = 0 := by omega
  clear hrow
  go_wp2_with fail
  · exfalso
    rename_i hc
    simp only [Bool.or_eq_true, decide_eq_true_eq, beq_iff_eq] at hc
    omega
  refine (monthn_some _ _).mono ?_
  rintro e w3 ⟨⟨M, hM, rfl⟩, rfl⟩
  have HM := Lib.hid hM
  clear hM e3 g1 gz c3
  go_wp2_with fail
  go_loopw [7] (fun t wr => ∃ i : Nat, i ≤ qs.length ∧ t = .int .i64 i ∧ (∀ a (ha : a < qs.length) c (hc : c < qs.length), a < i → c < a → qs[c].id ≠ qs[a].id) ∧ Ext W0 wr) (fun t _ => qs.length - (intOf t).toNat)
  case atStart => exact ⟨0, Nat.zero_le _, rfl, fun a _ c _ h _ => absurd h (Nat.not_lt_zero _), X2.out⟩
  case round =>
    obtain ⟨i, hi, rfl, hdi, hx⟩ := hrel
    have HDI := Lib.hid hdi
    have XX := Lib.hid hx
    clear hdi hx
    by_cases hlt : i < qs.length
    · obtain ⟨_, _, _, _, _, _, h0, _, _, h3, _⟩ := (HR.out i hlt).ext XX.out
      obtain ⟨dt, hdt⟩ : ∃ dt, dt = qs[i].date := ⟨_, rfl⟩
      obtain ⟨di, hdi⟩ : ∃ di, di = qs[i].id := ⟨_, rfl⟩
      rw [← hdt] at h3
      rw [← hdi] at h0
      have HDT := Lib.hid hdi
      clear hdt hdi
      go_wp2_with fail
      refine (monthn_some dt _).mono ?_
      rintro e w4 ⟨⟨M2, _, rfl⟩, rfl⟩
      by_cases hm : M2 = M
      · by_cases hneg : M < 0
        · subst hm
          go_wp2
          go_ret
          exact ⟨rfl, X0.out.trans XX.out⟩
        · subst hm
          go_wp2_with fail
          go_loopw [8] (fun t wr => ∃ k : Nat, k ≤ i ∧ t = .int .i64 k ∧ (∀ c (hc : c < qs.length), c < k → qs[c].id ≠ di) ∧ Ext W0 wr) (fun t _ => i - (intOf t).toNat)
          case atStart => exact ⟨0, Nat.zero_le _, rfl, fun c _ h => absurd h (Nat.not_lt_zero _), XX.out⟩
          case round =>
            obtain ⟨k, hk, rfl, hck, hx⟩ := hrel
            have HCK := Lib.hid hck
            have XK := Lib.hid hx
            clear hck hx
            by_cases hki : k < i
            · obtain ⟨_, _, _, _, _, _, f0, _⟩ := (HR.out k (by omega)).ext XK.out
              obtain ⟨_, _, _, _, _, _, h0, _⟩ := (HR.out i hlt).ext XK.out
              rw [← HDT.out] at h0
              obtain ⟨ki, hkk⟩ : ∃ ki, ki = (qs[k]'(by omega)).id := ⟨_, rfl⟩
              rw [← hkk] at f0
              have HKK := Lib.hid hkk
              clear hkk
              go_upto_region 13 with fail
              go_quiet (fail)
              go_wp2_with fail
              · rename_i hq
                go_ret
                exact ⟨rfl, (X0.out.trans XK.out).drewN _⟩
              · rename_i hq
                refine ⟨⟨k + 1, by omega, by go_num, fun c hc hck => ?_, XK.out.drewN _⟩, by simp [intOf]; omega⟩
                by_cases e : c = k
                · subst e
                  rw [← HKK.out]
                  exact beq_eq_false_iff_ne.1 hq
                · exact HCK.out c hc (by omega)
            · obtain rfl : k = i := by omega
              go_wp2_with fail
              go_roundw
              case rel =>
                refine ⟨k + 1, by omega, by go_num, fun a ha c hc hak hca => ?_, XK.out⟩
                by_cases e : a = k
                · subst e
                  rw [← HDT.out]
                  exact HCK.out c hc hca
                · exact HDI.out a ha c hc (by omega) hca
              case measure => simp [intOf]; omega
      · go_wp2
        go_ret
        exact ⟨rfl, X0.out.trans XX.out⟩
    · obtain rfl : i = qs.length := by omega
      have hdist : DistIds qs := dist_of qs HDI.out
      obtain ⟨D, hD⟩ : ∃ D, Ord qs D := ord_some qs
      have hDl : D.length = qs.length := hD.perm.length_eq
      have HDist := Lib.hid hdist
      have HD := Lib.hid hD
      have HDl := Lib.hid hDl
      clear HDI hdist hD hDl
      have hmake := fun W => run_make_row' (P := Tryz.prog) 53 4 (.bool false) 1 Tryz.underlying53 infoBool rfl .i64 .i64 qs.length (by omega) (by omega) W
      obtain ⟨g, hg⟩ : ∃ g, g = wr.heap.size := ⟨_, rfl⟩
      have hB0 : Bools (wr.alloc (.cells (madeCells #[.bool false] qs.length) 4)) g (qs.map (doneQ D 0)) := by rw [doneQ_zero, hg]; exact made_bools _ _
      have HB0 := Lib.hid hB0
      have hgl : W0.heap.size ≤ g := by rw [hg]; exact XX.out.size
      clear hB0
      go_wp2_with fail
      rw [← hg]
      go_loopw [9, 11] (fun v t wq => ∃ (j : Nat) (oa : Option Addr) (oc : Nat), j ≤ qs.length ∧ t = .int .i64 j ∧ v = .slice oa j oc ∧ wq.ownsRow W0.heap.size 9 1 (.slice oa j oc) j ((D.take j).map fun q => vstr (leafQ q)) ∧ Bools wq g (qs.map (doneQ D j)) ∧ Ext W0 wq) (fun _ t _ => qs.length - (intOf t).toNat)
      case atStart => exact ⟨0, none, 0, Nat.zero_le _, rfl, rfl, ⟨rfl, .inl ⟨rfl, rfl⟩⟩, HB0.out, XX.out.alloc _⟩
      case round =>
        clear HB0 XX hmake hg
        obtain ⟨j, oa, oc, hj, rfl, rfl, hown, hbo, hx⟩ := hrel
        have HO := Lib.hid hown
        have HBo := Lib.hid hbo
        have XX := Lib.hid hx
        clear hown hbo hx
        by_cases hjl : j < qs.length
        · obtain ⟨V, hV⟩ : ∃ V, V = wr := ⟨_, rfl⟩
          rw [← hV] at HO HBo XX
          rw [← hV]
          clear hV
          go_wp2_with fail
          go_loopw [12, 13] (fun bt t wq => ∃ (i : Nat) (bi : Int), i ≤ qs.length ∧ t = .int .i64 i ∧ bt = .int .i64 bi ∧ Best qs D j i bi ∧ Ext V wq) (fun _ t _ => qs.length - (intOf t).toNat)
          case atStart => exact ⟨0, -1, Nat.zero_le _, rfl, rfl, Best.zero _ _ _, Ext.refl _⟩
          case round =>
            obtain ⟨i, bi, hi, rfl, rfl, hbest, hx⟩ := hrel
            have HBe := Lib.hid hbest
            have XV := Lib.hid hx
            clear hbest hx
            by_cases hil : i < qs.length
            · have cd := (HBo.out.ext XV.out).cell i (by rw [List.length_map]; exact hil)
              rw [List.getElem_map] at cd
              cases hdn : doneQ D j qs[i] with
              | true =>
                rw [hdn] at cd
                have HN := Lib.hid hdn
                clear hdn
                go_wp2_with fail
                exact ⟨⟨i + 1, bi, by omega, by go_num, rfl, HBe.out.done hil HN.out, XV.out⟩, by simp [intOf]; omega⟩
              | false =>
                rw [hdn] at cd
                have HN := Lib.hid hdn
                clear hdn
                by_cases hneg : bi < 0
                · go_wp2_with fail
                  exact ⟨⟨i + 1, i, by omega, by go_num, rfl, HBe.out.first hneg hil HN.out, XV.out⟩, by simp [intOf]; omega⟩
                · obtain ⟨k, rfl, hkl⟩ : ∃ k : Nat, bi = k ∧ k < qs.length := by
                    rcases HBe.out with ⟨h1, _⟩ | ⟨k, h1, _, hk, _⟩
                    · omega
                    · exact ⟨k, h1, hk⟩
                  obtain ⟨_, _, _, _, _, _, fi0, _, _, fi3, _⟩ := (HR.out i hil).ext (XX.out.trans XV.out)
                  obtain ⟨_, _, _, _, _, _, fk0, _, _, fk3, _⟩ := (HR.out k hkl).ext (XX.out.trans XV.out)
                  have hless : lessQ qs[i] qs[k] = decide (qs[i].date < qs[k].date ∨ qs[i].date = qs[k].date ∧ Op.bytesLess qs[i].id qs[k].id = true) := by
                    rw [lessQ, bless]
                    simp
                  obtain ⟨d1, hd1⟩ : ∃ d, d = qs[i].date := ⟨_, rfl⟩
                  obtain ⟨d2, hd2⟩ : ∃ d, d = qs[k].date := ⟨_, rfl⟩
                  obtain ⟨s1, hs1⟩ : ∃ d, d = qs[i].id := ⟨_, rfl⟩
                  obtain ⟨s2, hs2⟩ : ∃ d, d = qs[k].id := ⟨_, rfl⟩
                  rw [← hd1] at fi3 hless
                  rw [← hd2] at fk3 hless
                  rw [← hs1] at fi0 hless
                  rw [← hs2] at fk0 hless
                  have HL := Lib.hid hless
                  clear hd1 hd2 hs1 hs2 hless
                  have zi : (0 : Int) ≤ (i : Int) ∧ (i : Int) < qs.length := by omega
                  have zk : (0 : Int) ≤ (k : Int) ∧ (k : Int) < qs.length := by omega
                  obtain ⟨zi1, zi2⟩ := zi
                  obtain ⟨zk1, zk2⟩ := zk
                  go_upto_region 27 with fail
                  clear cd hneg
                  go_cut [138] (fun bt wx => bt = .bool (lessQ qs[i] qs[k]) ∧ Ext V wx)
                  case first =>
                    cases h1 : decide (d1 < d2) with
                    | true =>
                      have hr : lessQ qs[i] qs[k] = true := by
                        rw [HL.out, decide_eq_true_eq]
                        exact .inl (by simpa using h1)
                      have HQ := Lib.hid hr
                      clear hr
                      go_quiet (fail)
                      go_wp2_with fail
                      go_meet
                      exact ⟨by rw [HQ.out], XV.out.drewN _⟩
                    | false =>
                      have h1n : ¬ d1 < d2 := by simpa using h1
                      by_cases h2 : d1 = d2
                      · cases h3 : Op.bytesLess s1 s2 with
                        | true =>
                          have hr : lessQ qs[i] qs[k] = true := by
                            rw [HL.out, decide_eq_true_eq]
                            exact .inr ⟨h2, h3⟩
                          have HQ := Lib.hid hr
                          subst h2
                          clear hr
                          go_quiet (fail)
                          go_wp2_with fail
                          go_meet
                          exact ⟨by rw [HQ.out], XV.out.drewN _⟩
                        | false =>
                          have hr : lessQ qs[i] qs[k] = false := by
                            rw [HL.out, decide_eq_false_iff_not, h3]
                            simp [h1n]
                          have HQ := Lib.hid hr
                          subst h2
                          clear hr
                          go_quiet (fail)
                          go_wp2_with fail
                          go_meet
                          exact ⟨by rw [HQ.out], XV.out.drewN _⟩
                      · have hr : lessQ qs[i] qs[k] = false := by
                          rw [HL.out, decide_eq_false_iff_not]
                          simp [h1n, h2]
                        have HQ := Lib.hid hr
                        have h2b : (d1 == d2) = false := by rw [beq_eq_false_iff_ne]; exact h2
                        clear hr
                        go_quiet (fail)
                        go_wp2_with fail
                        go_meet
                        exact ⟨by rw [HQ.out], XV.out.drewN _⟩
                  case rest =>
                    obtain ⟨rfl, hx2⟩ := hcut
                    have X2 := Lib.hid hx2
                    clear hx2 fi0 fi3 fk0 fk3
                    cases hr : lessQ qs[i] qs[k] with
                    | true =>
                      have HQ := Lib.hid hr
                      clear hr
                      go_wp2_with fail
                      exact ⟨⟨i + 1, i, by omega, by go_num, rfl, HBe.out.less rfl hkl hil HN.out HQ.out, X2.out⟩, by simp [intOf]; omega⟩
                    | false =>
                      have HQ := Lib.hid hr
                      clear hr
                      go_wp2_with fail
                      exact ⟨⟨i + 1, k, by omega, by go_num, rfl, HBe.out.keep rfl hkl hil HQ.out, X2.out⟩, by simp [intOf]; omega⟩
            · obtain rfl : i = qs.length := by omega
              obtain ⟨k, hbk, hkl, hke⟩ := HBe.out.last HD.out HDist.out (by rw [HDl.out]; exact hjl)
              subst hbk
              have hbo := HBo.out.ext XV.out
              have hown := World.ownsRow.kept_ext HO.out XX.out XV.out
              have cd := hbo.cell k (by rw [List.length_map]; exact hkl)
              have fz := hbo.frozen k
              have hput := hbo.put k true
              rw [doneQ_set HD.out HDist.out (by rw [HDl.out]; exact hjl) hkl hke] at hput
              have hown1 := owns_set hown hbo k (.bool true)
              obtain ⟨W1, hW1⟩ : ∃ W1, W1 = wr.setCell ⟨g, k, none⟩ (.bool true) := ⟨_, rfl⟩
              rw [← hW1] at hput hown1
              have x1 : Ext W0 W1 := by rw [hW1]; exact (XX.out.trans XV.out).setCell (p := ⟨g, k, none⟩) hgl _
              obtain ⟨_, _, _, _, _, _, f0, _, _, _, _, _, f6, _⟩ := (HR.out k hkl).ext x1
              have hqq := Hq.out qs[k] (List.getElem_mem hkl)
              have hjD : j < D.length := by rw [HDl.out]; exact hjl
              have hlf : (D.take (j + 1)).map (fun q => vstr (leafQ q)) = (D.take j).map (fun q => vstr (leafQ q)) ++ [vstr (leafQ qs[k])] := by
                rw [List.take_succ_eq_append_getElem hjD, List.map_append, hke]
                rfl
              obtain ⟨sid, hsid⟩ : ∃ d, d = qs[k].id := ⟨_, rfl⟩
              obtain ⟨scm, hscm⟩ : ∃ d, d = qs[k].commit := ⟨_, rfl⟩
              obtain ⟨lf, hlq⟩ : ∃ d, d = leafQ qs[k] := ⟨_, rfl⟩
              have hlq2 : lf = leafB (wtextB sid ++ scm) := by rw [hlq, hsid, hscm]; rfl
              obtain ⟨l1, _, _, l4, _⟩ := hqq
              rw [← hsid] at f0 l1
              rw [← hscm] at f6 l4
              rw [← hlq] at hlf
              obtain ⟨xs, hxs⟩ : ∃ xs, xs = (D.take j).map (fun q => vstr (leafQ q)) := ⟨_, rfl⟩
              rw [← hxs] at hown1 hlf
              obtain ⟨tx, htx⟩ : ∃ tx, tx = wtextB sid := ⟨_, rfl⟩
              have htl : tx.length ≤ 1000 := by
                rw [htx, wtextB]
                have := Lib.itoa_length_le (sid.length : Int) (by omega) (by omega)
                simp only [List.length_append, List.length_singleton]
                omega
              rw [← htx] at hlq2
              have zc : ¬ 9223372036854775807 < tx.length + scm.length := by omega
              have HP := Lib.hid (And.intro hput (And.intro hown1 (And.intro x1 hlf)))
              have HLQ := Lib.hid hlq2
              have HTX := Lib.hid htx
              have HW1 := Lib.hid hW1
              have zk1 : (0 : Int) ≤ (k : Int) := by omega
              have zk2 : (k : Int) < qs.length := by omega
              have hNs : W0.heap.size ≤ W1.heap.size := x1.size
              clear hput hown1 hown hbo x1 hlf hsid hscm hlq hlq2 hxs htx hke
              go_upto_region 30 with fail
              rw [← HW1.out]
              clear cd fz hW1
              obtain ⟨i1, hi1, hz0, hz1, hz2⟩ := info_parts infoStr
              have mixed : Tryz.prog.follows .mixedOrders = true := by kernel_rfl
              have TA := fun (W : World) (x : Ext W1 W) => wtext_any sid W (by omega) ((T0.out.ext HP.out.2.2.1).ext x)
              rw [← HTX.out] at TA
              have LA := fun (W : World) (x : Ext W1 W) => leaf_any (tx ++ scm) W (by rw [List.length_append]; omega) ((C0.out.ext HP.out.2.2.1).ext x)
              rw [← HLQ.out] at LA
              have HTA := Lib.hid TA
              have HLA := Lib.hid LA
              clear TA LA
              go_region_law (first
                | (refine step_append_lies _ rfl (.tmp 143) (.tmp 157) 29 rfl W0.heap.size 9 i1 (.string ByteArray.empty) 1 16 Tryz.underlying29 hi1 hz0 hz1 hz2 rfl (by decide) (.slice oa j oc) j xs rfl (World.ownsRow.kept_ext HP.out.2.1 HP.out.2.2.1 (x5'.alloc _)) ⟨w5.heap.size, 0, none⟩ 1 1 [vstr lf] rfl rfl (by intro j2 u hj2; rw [addr_add0, World.cell?_alloc_mark]; simpa using hj2) (by simp [Value.oneCell']) (by decide) (by unfold maxLen; omega) (by omega) (by have := x5'.size; simp; omega) (w5.heap.size + 1) (by simp) ?_; intro g' cap' w6 hown6 hgrow hat hlt6)
                | (go_simp; go_at_call 19; refine (HTA.out _ (Ext.refl _).drew).mono ?_; rintro e w4 ⟨rfl, x4⟩; have x4' := ((Ext.refl _).drew).trans x4; have f6' := x4'.holds f6)
                | (go_simp; go_at_call 18; rw [show (⟨tx.toArray⟩ : ByteArray) ++ ⟨scm.toArray⟩ = ⟨(tx ++ scm).toArray⟩ from mk_cat tx scm]; refine (HLA.out _ x4').mono ?_; rintro e w5 ⟨rfl, x5⟩; have x5' := x4'.trans x5))
              all_goals
                obtain ⟨hbn, hbl⟩ := owns_app (World.ownsRow.kept_ext HP.out.2.1 HP.out.2.2.1 (x5'.alloc (.cells #[vstr lf] 9))) (HP.out.1.ext (x5'.alloc (.cells #[vstr lf] 9))) hgrow (by have := x5'.size; simp; omega)
                have hxn : Ext W0 w6 := (HP.out.2.2.1.trans (x5'.alloc (.cells #[vstr lf] 9))).upon hbl
                have KH := Lib.hid (And.intro hown6 (And.intro hbn hxn))
                clear hown6 hgrow hat hlt6 hbn hbl hxn x4 x4' x5 x5' f6' f0 f6
                go_wp2_with fail
                refine ⟨⟨j + 1, some ⟨g', 0, none⟩, cap', by omega, by go_num, rfl, ?_, KH.out.2.1, KH.out.2.2⟩, by simp [intOf]; omega⟩
                rw [HP.out.2.2.2]
                exact KH.out.1
        · obtain rfl : j = qs.length := by omega
          have hids : IdsAt wr (D.map leafQ) (.slice oa qs.length oc) := by
            have h := HO.out
            rw [List.take_of_length_le (Nat.le_of_eq HDl.out)] at h
            refine IdsAt.of_owns (base := W0.heap.size) ?_
            rw [List.length_map, HDl.out, List.map_map]
            exact h
          obtain ⟨R, hR⟩ : ∃ R, R = rootF qs.length (D.map leafQ) := ⟨_, rfl⟩
          have hl32 : ∀ y ∈ D.map leafQ, y.length = 32 := by
            intro y hy
            obtain ⟨q, _, rfl⟩ := List.mem_map.1 hy
            exact sumB_len _
          have hRl : R.length = 32 := by rw [hR]; exact rootF_32 _ _ hl32
          have hroot := fun (W : World) (v : Value) (x : Ext W0 W) (hi : IdsAt W (D.map leafQ) v) => root_any qs.length (D.map leafQ) v W (by rw [List.length_map, HDl.out]; exact Nat.le_refl _) (by rw [List.length_map, HDl.out]; omega) hi (fun y hy => by rw [hl32 y hy]; decide) (C0.out.ext x)
          rw [← hR] at hroot
          obtain ⟨nm, ⟨hcl, hnl⟩, hnm⟩ := name_fn M HM.out.1 HM.out.2
          have HIds := Lib.hid hids
          have HRoot := Lib.hid hroot
          have HCl := Lib.hid hcl
          have HNm := Lib.hid hnm
          have c0 : wr.cell? ⟨bl, 0, none⟩ = some (.int .i64 x.id) := XX.out.holds (by rw [Lib.cell_of_heap CA.out]; rfl)
          have c1 : wr.cell? ⟨bl, 1, none⟩ = some (.int .i64 x.into) := XX.out.holds (by rw [Lib.cell_of_heap CA.out]; rfl)
          have c2 : wr.cell? ⟨bl, 2, none⟩ = some (.int .i64 x.parent) := XX.out.holds (by rw [Lib.cell_of_heap CA.out]; rfl)
          have c3 : wr.cell? ⟨bl, 3, none⟩ = some (vstr x.name) := XX.out.holds (by rw [Lib.cell_of_heap CA.out]; rfl)
          have c4 : wr.cell? ⟨bl, 4, none⟩ = some (vstr x.remote) := XX.out.holds (by rw [Lib.cell_of_heap CA.out]; rfl)
          clear hids hroot hcl hnm hR hl32 HO HBo
          go_wp2_with fail
          refine (HRoot.out _ _ XX.out HIds.out).mono ?_
          rintro e w5 ⟨rfl, x5⟩
          have X5 := Lib.hid (XX.out.trans x5)
          have c0 := x5.holds c0
          have c1 := x5.holds c1
          have c2 := x5.holds c2
          have c3 := x5.holds c3
          have c4 := x5.holds c4
          clear x5 XX HIds
          go_wp2_with fail
          refine (month_any nm HCl.out hnl x ⟨1, M, qs.length, R⟩ HNm.out qs _ w5 (HV.out.ext X5.out) (by omega) ⟨HM.out, by show I64 (qs.length : Int); unfold I64; omega⟩ (by omega) (by show R.length ≤ _; omega) (fun q hq => by obtain ⟨h1, _, _, h4, _⟩ := Hq.out q hq; omega) (T0.out.ext X5.out)).mono ?_
          rintro e w6 ⟨⟨d, hd, rfl, hpl⟩, x6⟩
          have hDd : (sortV d).toList.map VC.q = D := by
            have h := ord_sortV d
            rw [hd] at h
            exact ord_unique h HD.out HDist.out
          rw [hDd] at hpl ⊢
          have hml := month_lines nm HCl.out x ⟨1, M, qs.length, R⟩ D
          obtain ⟨pg, hpg⟩ : ∃ pg, pg = linesE monthL (monthE3 nm x ⟨1, M, qs.length, R⟩) D := ⟨_, rfl⟩
          rw [← hpg] at hpl hml ⊢
          have HML := Lib.hid hml
          have X6 := Lib.hid (X5.out.trans x6)
          clear hd hDd hml hpg x6 X5 c0 c1 c2 c3 c4
          go_wp2_with fail
          refine (lines_any pg w6 hpl).mono ?_
          rintro e w7 ⟨lv, rfl, hli, x7⟩
          rw [HML.out] at hli
          obtain ⟨la, lc, rfl, hlc, hlr⟩ := hli
          have hll : (monthL0 nm x :: monthL1 ⟨1, M, qs.length, R⟩ :: monthL2 ⟨1, M, qs.length, R⟩ :: D.map lineQ).length = qs.length + 3 := by simp [HDl.out]
          obtain ⟨lb, lo, rfl, hlr2⟩ : ∃ b o, la = some ⟨b, o, none⟩ ∧ ∀ i, i < (monthL0 nm x :: monthL1 ⟨1, M, qs.length, R⟩ :: monthL2 ⟨1, M, qs.length, R⟩ :: D.map lineQ).length → ∀ h : i < (monthL0 nm x :: monthL1 ⟨1, M, qs.length, R⟩ :: monthL2 ⟨1, M, qs.length, R⟩ :: D.map lineQ).length, w7.cell? ⟨b, o + i * 1, none⟩ = some (vstr (monthL0 nm x :: monthL1 ⟨1, M, qs.length, R⟩ :: monthL2 ⟨1, M, qs.length, R⟩ :: D.map lineQ)[i]) := by
            rcases hlr with h | ⟨b, o, ha, hr⟩
            · rw [hll] at h; omega
            · exact ⟨b, o, ha, hr⟩
          have l0 : w7.cell? ⟨lb, lo, none⟩ = some (vstr (monthL0 nm x)) := by have h := hlr2 0 (by omega) (by omega); simpa using h
          have l2 : w7.cell? ⟨lb, lo + 2, none⟩ = some (vstr (monthL2 ⟨1, M, qs.length, R⟩)) := by have h := hlr2 2 (by omega) (by omega); simpa using h
          have lq : ∀ j (hj : j < D.length), w7.cell? ⟨lb, lo + (j + 3), none⟩ = some (vstr (lineQ D[j])) := fun j hj => by
            have h := hlr2 (j + 3) (by rw [hll, ← HDl.out]; omega) (by rw [hll, ← HDl.out]; omega)
            simpa using h
          rw [hll] at hlc ⊢
          obtain ⟨n3, hn3⟩ : ∃ n3, n3 = qs.length + 3 := ⟨_, rfl⟩
          rw [← hn3] at hlc ⊢
          have hn3i : (3 : Int) + (qs.length : Int) = (n3 : Int) := by omega
          have HL := Lib.hid (And.intro l0 (And.intro l2 lq))
          have X7 := Lib.hid (X6.out.trans x7)
          have HN3 := Lib.hid hn3
          clear hlr hlr2 l0 l2 lq x7 X6 hll hn3
          go_wp2_with fail
          go_loopw [16, 17] (fun v t wq => ∃ (m j : Nat) (oa : Option Addr) (oc : Nat), j ≤ qs.length ∧ m = j + 3 ∧ t = .int .i64 m ∧ v = .slice oa j oc ∧ wq.ownsRow w7.heap.size 9 1 (.slice oa j oc) j ((D.take j).map fun q => vstr (leafQ q)) ∧ Ext w7 wq) (fun _ t _ => n3 - (intOf t).toNat)
          case atStart => exact ⟨3, 0, none, 0, Nat.zero_le _, rfl, rfl, rfl, ⟨rfl, .inl ⟨rfl, rfl⟩⟩, Ext.refl _⟩
          case round =>
            obtain ⟨m, j, oa, oc, hj, hm, rfl, rfl, hown, hx⟩ := hrel
            have HO := Lib.hid hown
            have XX := Lib.hid hx
            have HMj := Lib.hid hm
            clear hown hx hm
            by_cases hjl : m < n3
            · have hjq : j < qs.length := by have := HMj.out; have := HN3.out; omega
              have hjD : j < D.length := by rw [HDl.out]; exact hjq
              have cl := XX.out.holds (HL.out.2.2 j hjD)
              rw [← HMj.out] at cl
              have hqm := hqq_of Hq.out HD.out j hjD
              have hun := fun W => unhex_any (hexB D[j].commit) W (by rw [hexB_len]; omega)
              have hus := fun (W : World) (xw : Ext W0 W) => unescape_any (escapeB D[j].id) W (by have := escapeB_le D[j].id; omega) (T0.out.ext xw)
              have hlf : (D.take (j + 1)).map (fun q => vstr (leafQ q)) = (D.take j).map (fun q => vstr (leafQ q)) ++ [vstr (leafQ D[j])] := by
                rw [List.take_succ_eq_append_getElem hjD, List.map_append]
                rfl
              have hlq : leafQ D[j] = leafB (wtextB D[j].id ++ D[j].commit) := rfl
              have hll : lineQ D[j] = hexB D[j].commit ++ [32] ++ escapeB D[j].id := rfl
              have hsp := hex_nospace D[j].commit
              rw [unhex_hex] at hun
              simp only [unescB_esc] at hus
              have hlen1 := hexB_len D[j].commit
              have hlen2 := escapeB_le D[j].id
              obtain ⟨sid, hsid⟩ : ∃ d, d = D[j].id := ⟨_, rfl⟩
              obtain ⟨scm, hscm⟩ : ∃ d, d = D[j].commit := ⟨_, rfl⟩
              rw [← hsid] at hus hlq hll hlen2 hqm
              rw [← hscm] at hun hlq hll hsp hlen1 hqm
              obtain ⟨hx, hhx⟩ : ∃ d, d = hexB scm := ⟨_, rfl⟩
              obtain ⟨es, hes⟩ : ∃ d, d = escapeB sid := ⟨_, rfl⟩
              rw [← hhx] at hun hll hsp hlen1
              rw [← hes] at hus hll hlen2
              obtain ⟨L, hL⟩ : ∃ L, L = lineQ D[j] := ⟨_, rfl⟩
              rw [← hL] at cl hll
              have hLl : L.length = hx.length + 1 + es.length := by rw [hll]; simp; omega
              obtain ⟨lf, hlf2⟩ : ∃ lf, lf = leafQ D[j] := ⟨_, rfl⟩
              rw [← hlf2] at hlf hlq
              have HUn : Hid (∀ W, Calls Tryz.prog 22 #[vstr hx] W fun e w' => e = .returned (.tuple #[vstr scm, .bool true]) ∧ Ext W w') := Lib.hid hun
              have HUs : Hid (∀ W, Ext W0 W → Calls Tryz.prog 23 #[vstr es] W fun e w' => e = .returned (.tuple #[vstr sid, .bool true]) ∧ Ext W w') := Lib.hid hus
              have HLf := Lib.hid hlf
              have HLq := Lib.hid hlq
              have HLL := Lib.hid hll
              have HSp := Lib.hid hsp
              have HLl := Lib.hid hLl
              have zm : (0 : Int) ≤ (m : Int) ∧ (m : Int) < n3 := by omega
              obtain ⟨zm1, zm2⟩ := zm
              obtain ⟨V, hV⟩ : ∃ V, V = wr := ⟨_, rfl⟩
              rw [← hV] at HO XX cl
              rw [← hV]
              have hxl : hx.length ≤ 400 := by omega
              have hesl : es.length ≤ 100000 := by omega
              have HUB := Lib.hid (And.intro hqm.1 hqm.2)
              clear hun hus hlf hlq hll hsp hsid hscm hhx hes hL hlf2 hV hLl hlen1 hlen2 hqm
              go_wp2_with fail
              go_loopw [18] (fun t wq => ∃ k : Nat, k ≤ hx.length ∧ t = .int .i64 k ∧ wq = V) (fun t _ => L.length - (intOf t).toNat)
              case atStart => exact ⟨0, Nat.zero_le _, rfl, rfl⟩
              case round =>
                obtain ⟨k, hk, rfl, rfl⟩ := hrel
                have hkL : k < L.length := by rw [HLl.out]; omega
                have hgb : ((⟨L.toArray⟩ : ByteArray)[k]'hkL) = L[k] := rfl
                have hkL2 : (k : Int) < (L.length : Int) := by omega
                by_cases hkh : k < hx.length
                · have hc : L[k] = hx[k] := by
                    have h := List.getElem_of_eq HLL.out hkL
                    rw [h, List.getElem_append_left (by rw [List.length_append]; omega), List.getElem_append_left hkh]
                  have hne := HSp.out hx[k] (List.getElem_mem hkh)
                  obtain ⟨c, hcc⟩ : ∃ c, c = L[k] := ⟨_, rfl⟩
                  rw [← hcc] at hgb hc
                  have hci : ¬ (c.toNat : Int) = 32 := by
                    intro h
                    refine hne ?_
                    rw [← hc]
                    have h2 : c.toNat = 32 := by omega
                    exact UInt8.toNat_inj.1 h2
                  clear hcc hc hne
                  go_wp2_with fail
                  exact ⟨⟨k + 1, by omega, by go_num, trivial⟩, by simp [intOf]; omega⟩
                · obtain rfl : k = hx.length := by omega
                  have hc : L[hx.length] = 32 := by
                    have h := List.getElem_of_eq HLL.out hkL
                    rw [h, List.getElem_append_left (by rw [List.length_append, List.length_singleton]; omega), List.getElem_append_right (Nat.le_refl _)]
                    simp
                  rw [hc] at hgb
                  have z32 : ((32 : UInt8).toNat : Int) = 32 := rfl
                  clear hc
                  have e1 : (⟨L.toArray⟩ : ByteArray).extract 0 hx.length = ⟨hx.toArray⟩ := by
                    have h : (⟨L.toArray⟩ : ByteArray).extract 0 hx.length = ⟨(L.take hx.length).toArray⟩ := extract_take ⟨L.toArray⟩ hx.length
                    rw [h, HLL.out, List.append_assoc, List.take_left' rfl]
                  have e2 : (⟨L.toArray⟩ : ByteArray).extract (hx.length + 1) L.length = ⟨es.toArray⟩ := by
                    rw [Lib.extract_eq]
                    show (⟨((L.drop (hx.length + 1)).take (L.length - (hx.length + 1))).toArray⟩ : ByteArray) = _
                    rw [List.take_of_length_le (by rw [List.length_drop]; exact Nat.le_refl _), HLL.out]
                    rw [show hx.length + 1 = (hx ++ [32]).length by simp, List.drop_left' rfl]
                  go_wp2_with fail
                  refine (HUn.out _).mono ?_
                  rintro e w8 ⟨rfl, x8⟩
                  have X8 := Lib.hid (XX.out.trans x8)
                  have V8 := Lib.hid x8
                  have cl8 := x8.holds cl
                  clear x8 cl e1
                  go_wp2_with fail
                  refine (HUs.out _ (X7.out.trans X8.out)).mono ?_
                  rintro e w9 ⟨rfl, x9⟩
                  have X9 := Lib.hid (X8.out.trans x9)
                  have V9 := Lib.hid (V8.out.trans x9)
                  clear x9 cl8 e2
                  obtain ⟨tx, htx⟩ : ∃ tx, tx = wtextB sid := ⟨_, rfl⟩
                  have htl : tx.length ≤ 1000 := by
                    rw [htx, wtextB]
                    have h1 := HUB.out.1
                    have := Lib.itoa_length_le (sid.length : Int) (by omega) (by omega)
                    simp only [List.length_append, List.length_singleton]
                    omega
                  have hcm := HUB.out.2
                  have hlq2 := HLq.out
                  rw [← htx] at hlq2
                  have TA := fun (W : World) (x : Ext W0 W) => wtext_any sid W (by have := HUB.out.1; omega) (T0.out.ext x)
                  rw [← htx] at TA
                  have LA := fun (W : World) (x : Ext W0 W) => leaf_any (tx ++ scm) W (by rw [List.length_append]; omega) (C0.out.ext x)
                  rw [← hlq2] at LA
                  have zc : ¬ 9223372036854775807 < tx.length + scm.length := by omega
                  have HTA := Lib.hid TA
                  have HLA := Lib.hid LA
                  obtain ⟨xs, hxs⟩ : ∃ xs, xs = (D.take j).map (fun q => vstr (leafQ q)) := ⟨_, rfl⟩
                  have hlf := HLf.out
                  rw [← hxs] at HO hlf
                  have HLf2 := Lib.hid hlf
                  obtain ⟨i1, hi1, hz0, hz1, hz2⟩ := info_parts infoStr
                  clear TA LA htx hlq2 hxs hlf
                  go_wp2_with fail
                  refine (HTA.out _ (X7.out.trans X9.out)).mono ?_
                  rintro e w10 ⟨rfl, x10⟩
                  have X10 := Lib.hid (X9.out.trans x10)
                  have V10 := Lib.hid (V9.out.trans x10)
                  clear x10
                  go_wp2_with fail
                  rw [show (⟨tx.toArray⟩ : ByteArray) ++ ⟨scm.toArray⟩ = ⟨(tx ++ scm).toArray⟩ from mk_cat tx scm]
                  refine (HLA.out _ (X7.out.trans X10.out)).mono ?_
                  rintro e w11 ⟨rfl, x11⟩
                  have X11 := Lib.hid (X10.out.trans x11)
                  have V11 := Lib.hid (V10.out.trans x11)
                  clear x11
                  have hown := World.ownsRow.kept_ext HO.out (X7.out.trans XX.out) V11.out
                  have HX11 := Lib.hid (X7.out.trans X11.out)
                  go_wp2_with (at_builtin; refine wpList_append1 w11 9 [vstr lf] rfl (.tmp 234) (.tmp 240) 29 rfl w7.heap.size i1 (.string ByteArray.empty) 1 16 Tryz.underlying29 hi1 hz0 hz1 hz2 rfl (by decide) (.slice oa j oc) j xs rfl hown _ rfl rfl (by simp [Value.oneCell']) (by omega) (by omega) X11.out.size ?_; intro g' cap' w12 hown1 hb1 _)
                  refine ⟨⟨m + 1, j + 1, _, _, by omega, by have := HMj.out; omega, by go_num, rfl, ?_, X11.out.upon hb1⟩, by simp [intOf]; omega⟩
                  rw [HLf2.out]
                  exact hown1
            · obtain rfl : m = n3 := by have := HMj.out; have := HN3.out; omega
              obtain rfl : j = qs.length := by have := HMj.out; have := HN3.out; omega
              have hids : IdsAt wr (D.map leafQ) (.slice oa qs.length oc) := by
                have h := HO.out
                rw [List.take_of_length_le (Nat.le_of_eq HDl.out)] at h
                refine IdsAt.of_owns (base := w7.heap.size) ?_
                rw [List.length_map, HDl.out, List.map_map]
                exact h
              have hl0 := XX.out.holds HL.out.1
              have hl2 := XX.out.holds HL.out.2.1
              have XW := Lib.hid (X7.out.trans XX.out)
              have c3 : wr.cell? ⟨bl, 3, none⟩ = some (vstr x.name) := XW.out.holds (by rw [Lib.cell_of_heap CA.out]; rfl)
              obtain ⟨hr, hhr⟩ : ∃ d, d = hexB R := ⟨_, rfl⟩
              obtain ⟨en, hen⟩ : ∃ d, d = escapeB x.name := ⟨_, rfl⟩
              have hhl := hexB_len R
              have hel := escapeB_le x.name
              have HX := fun W => hex_any R W (by omega)
              have EX := fun (W : World) (xw : Ext wr W) => escape_any x.name W (by omega) (T0.out.ext (XW.out.trans xw))
              have RT := fun (W : World) (xw : Ext wr W) => HRoot.out W _ (XW.out.trans xw) (hids.ext xw)
              have NM := fun (W : World) (xw : Ext wr W) => HNm.out W (T0.out.ext (XW.out.trans xw))
              rw [← hhr] at HX hhl
              rw [← hen] at EX hel
              obtain ⟨L0, hL0⟩ : ∃ d, d = monthL0 nm x := ⟨_, rfl⟩
              obtain ⟨L2, hL2⟩ : ∃ d, d = monthL2 ⟨1, M, qs.length, R⟩ := ⟨_, rfl⟩
              rw [← hL0] at hl0
              rw [← hL2] at hl2
              have e2 : (⟨#[114, 111, 111, 116, 32]⟩ : ByteArray) ++ ⟨hr.toArray⟩ = ⟨L2.toArray⟩ := by
                rw [hL2, monthL2, ← hhr]
                exact mk_cat [114, 111, 111, 116, 32] hr
              have e0 : (⟨#[109, 111, 110, 116, 104, 32]⟩ : ByteArray) ++ ⟨nm.toArray⟩ ++ ⟨#[32, 111, 102, 32]⟩ ++ ⟨en.toArray⟩ = ⟨L0.toArray⟩ := by
                rw [hL0, monthL0, ← hen]
                have a1 : (⟨#[109, 111, 110, 116, 104, 32]⟩ : ByteArray) ++ ⟨nm.toArray⟩ = ⟨([109, 111, 110, 116, 104, 32] ++ nm).toArray⟩ := mk_cat _ nm
                have a2 : (⟨([109, 111, 110, 116, 104, 32] ++ nm).toArray⟩ : ByteArray) ++ ⟨#[32, 111, 102, 32]⟩ = ⟨([109, 111, 110, 116, 104, 32] ++ nm ++ [32, 111, 102, 32]).toArray⟩ := mk_cat _ [32, 111, 102, 32]
                rw [a1, a2]
                exact mk_cat _ en
              have HHX := Lib.hid HX
              have HEX := Lib.hid EX
              have HRT := Lib.hid RT
              have HNM := Lib.hid NM
              have y1 : ¬ 9223372036854775807 < 5 + hr.length := by omega
              have y2 : ¬ 9223372036854775807 < 6 + nm.length := by omega
              have y3 : ¬ 9223372036854775807 < 6 + nm.length + 4 := by omega
              have y4 : ¬ 9223372036854775807 < 6 + nm.length + 4 + en.length := by omega
              clear HX EX RT NM hhr hen hL0 hL2 hids
              have z2 : (2 : Int) < (m : Int) := by have := HN3.out; omega
              have z0 : (0 : Int) < (m : Int) := by omega
              have z0n : 0 < m := by omega
              have z0m : ¬ m = 0 := by omega
              have E0 := Lib.hid e0
              have E2 := Lib.hid e2
              go_upto_region 49 with fail
              go_region_held3 (fun w' => w'.cell? ⟨lb, lo + 2, none⟩ = some (vstr L2) ∧ w'.cell? ⟨lb, lo, none⟩ = some (vstr L0) ∧ w'.cell? ⟨bl, 3, none⟩ = some (vstr x.name) ∧ Ext wr w')
                (first
                  | exact ⟨hl2, hl0, c3, Ext.drew (Ext.refl _)⟩
                  | (go_split_ands
                     exact ⟨xx.holds (by assumption), xx.holds (by assumption), xx.holds (by assumption), Ext.trans (by assumption) xx⟩))
                (first
                  | (go_at_call 20; go_split_ands; ((with_reducible refine (HRT.out _ (by assumption)).mono ?_); rintro e w' ⟨rfl, xx⟩))
                  | (go_at_call 24; go_split_ands; ((with_reducible refine (HHX.out _).mono ?_); rintro e w' ⟨rfl, xx⟩))
                  | (go_at_call 25; go_split_ands; ((with_reducible refine (HNM.out _ (by assumption)).mono ?_); rintro e w' ⟨rfl, xx⟩))
                  | (go_at_call 26; go_split_ands; ((with_reducible refine (HEX.out _ (by assumption)).mono ?_); rintro e w' ⟨rfl, xx⟩)))
              all_goals
                go_split_ands
                go_wp2_with fail
                go_ret
                exact ⟨rfl, X0.out.trans (XW.out.trans (by assumption))⟩
end Go.Proofs.YtfkjjhfoncckcaaGreatDoor
