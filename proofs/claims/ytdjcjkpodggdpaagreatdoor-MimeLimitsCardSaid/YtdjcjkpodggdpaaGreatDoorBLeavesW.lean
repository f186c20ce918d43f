/- The walk of mime.Leaves. -/
import Derived.Test.YtdjcjkpodggdpaaGreatDoorBLeaves
import Derived.Deep.AppendLies
namespace Go.Proofs.YtdjcjkpodggdpaaGreatDoor
open Go.RowKit
attribute [local go_sem] Oper.semAt_some
attribute [local go_sem ↓ high] builtin_append_s

set_option maxHeartbeats 4000000 in
set_option maxRecDepth 100000 in
/-- mime.Leaves. -/
theorem leaves_any (S : Nat → Prop) (q : PartT) (v : Value) (w : World) (hc : countB q ≤ 1000000) (hq : PartAt w S q v) :
    Calls Tryz.prog 6 #[v] w fun e w' => ∃ u, e = .returned u ∧ PartsAt w' (From w.heap.size) (leavesB q) u ∧ Ext w w' := by
  obtain ⟨i0, hi, hz0, hz1, hz2⟩ := info_parts Tryz.info27
  obtain ⟨af, nf, cf, ap, np, cp, aq, nq, cq, rfl, _, _, _⟩ := hq.open
  refine callsIn_wide (n := 12).1 ?_
  refine callsIn_of_wp_marks Tryz.func6 rfl trivial ?_ rfl
  simp only [Tryz.ntmps6, List.size_toArray, List.length_cons, List.length_nil, Nat.reduceAdd, Nat.reduceSub, Array.replicate_succ, Array.replicate_zero, List.push_toArray, List.append_toArray, List.nil_append, List.cons_append]
  have Hq := Lib.hid hq
  clear hq
  gi_wp2
  refine ⟨trivial, (inW _ (all_any af ap aq nf cf np cp nq cq q.t q.b _)).mono ?_⟩
  rintro e w1 ⟨rfl, rfl⟩
  gi_wp2
  obtain ⟨b, hb⟩ : ∃ b, b = w.heap.size := ⟨_, rfl⟩
  obtain ⟨W0, hW0⟩ : ∃ W0, W0 = ((w.alloc (.cells #[.slice af nf cf, vstr q.t, .slice ap np cp, vstr q.b, .slice aq nq cq] 27)).alloc (.cells #[.slice none 0 0] 25)).alloc (.cells #[.slice af nf cf, vstr q.t, .slice ap np cp, vstr q.b, .slice aq nq cq] 27) := ⟨_, rfl⟩
  have hsz0 : W0.heap.size = b + 1 + 1 + 1 := by rw [hW0, hb]; simp
  have x0 : Ext w W0 := by rw [hW0]; exact ((((Ext.refl w).alloc _).alloc _).alloc _)
  have f1 : Boxed W0 (b + 1) 25 (.slice none 0 0) := by
    rw [hW0, hb]
    have := Boxed.new (w.alloc (.cells #[.slice af nf cf, vstr q.t, .slice ap np cp, vstr q.b, .slice aq nq cq] 27)) 25 (.slice none 0 0)
    rw [World.size_alloc] at this
    exact this.alloc _
  have f2 : Five W0 (b + 1 + 1) (.slice af nf cf) (vstr q.t) (.slice ap np cp) (vstr q.b) (.slice aq nq cq) := by
    rw [hW0, hb]
    have := heap_new ((w.alloc (.cells #[.slice af nf cf, vstr q.t, .slice ap np cp, vstr q.b, .slice aq nq cq] 27)).alloc (.cells #[.slice none 0 0] 25)) (.cells #[.slice af nf cf, vstr q.t, .slice ap np cp, vstr q.b, .slice aq nq cq] 27)
    rw [World.size_alloc, World.size_alloc] at this
    exact this
  have hok : OkB (b + 1) W0 := OkB.plain f1 rfl (fun l h => by cases h)
  have hq0 : PartAt W0 (GoodB (b + 1 + 1 + 1) (b + 1) W0) q (.agg #[.slice af nf cf, vstr q.t, .slice ap np cp, vstr q.b, .slice aq nq cq]) := by
    have h1 := PartAt.mono (T := fun k => k < w.heap.size) (fun k hlt _ => hlt) _ _ Hq.out
    refine PartAt.mono (fun k _ hk => ⟨?_, ?_, .inl ?_⟩) _ _ (PartAt.keep (Ext.keep x0) _ _ h1)
    · omega
    · rw [ownAt, f1.cell]; simp [Value.ownBlock]
    · omega
  have C := cares_b (b + 1 + 1 + 1) (b + 1)
  have hit := all_iter C q af ap aq nf cf np cp nq cq (b + 1 + 1) W0 hc f2 hq0 hok
  have hl := flatV_len W0 _ q (.agg #[.slice af nf cf, vstr q.t, .slice ap np cp, vstr q.b, .slice aq nq cq]) (Nat.le_refl _)
  have hfst := flatV_fst W0 q (.agg #[.slice af nf cf, vstr q.t, .slice ap np cp, vstr q.b, .slice aq nq cq])
  have hpa := flatV_at q (.agg #[.slice af nf cf, vstr q.t, .slice ap np cp, vstr q.b, .slice aq nq cq]) hq0
  have hbw : b ≤ w.heap.size := by omega
  rw [← hW0, ← hb]
  have Hb := Lib.hid hb
  have Hpa := Lib.hid hpa
  clear hW0 hb hq0 hpa
  refine wpIn_rangeFunc_ownH (F := Fence.wide) (n := 12) rfl (by omega) (gf := 23) (lb := #[.pointer (some ⟨b + 1 + 1, 0, none⟩)]) rfl trivial (enters_of Tryz.func23 (by kernel_rfl) rfl) (hit 11 (by omega))
    C.trans (fun W l' o o' h1 h2 h3 _ hk => KpB.putObj (by omega) h2 h3 hk) (Below.refl _ _) (fun _ => rfl)
    (LvInv (b + 1 + 1 + 1) (b + 1) W0) (fun _ _ _ => False) (ownFrom_of (LvInv.abides (by omega))) (fun c => ownFrom_of (fun _ _ _ _ h => h))
    ⟨_, [], f1, World.ownsRow_nil _ _ _ _, rfl, fun _ => rfl, Old.refl _ _ _, Ext.keep (Ext.refl _)⟩
    (fun x a' W => ∃ Bx bf mf df bp mp dp bq mq dq, b + 1 + 1 + 1 ≤ Bx ∧ x.1.2 = .agg #[.slice bf mf df, vstr x.1.1.t, .slice bp mp dp, vstr x.1.1.b, .slice bq mq dq] ∧ mq = x.1.1.ps.length ∧ Five W Bx (.slice bf mf df) (vstr x.1.1.t) (.slice bp mp dp) (vstr x.1.1.b) (.slice bq mq dq) ∧ a' = { tmps := #[.agg #[.slice af nf cf, vstr q.t, .slice ap np cp, vstr q.b, .slice aq nq cq], .pointer (some ⟨b, 0, none⟩), .slice none 0 0, .pointer (some ⟨b + 1, 0, none⟩), .pointer (some ⟨Bx, 0, none⟩), .agg #[.slice af nf cf, vstr q.t, .slice ap np cp, vstr q.b, .slice aq nq cq], .func (.func 23) #[] #[.pointer (some ⟨b + 1 + 1, 0, none⟩)], x.1.2, undef, undef, undef, undef, undef, undef, undef, undef, undef, undef, undef], defers := [] })
    (fun x a' => ownFrom_of (by rintro _ W W' h ⟨Bx, bf, mf, df, bp, mp, dp, bq, mq, dq, h1, h2, h3, h4, h5⟩; exact ⟨Bx, bf, mf, df, bp, mp, dp, bq, mq, dq, h1, h2, h3, h.cells _ _ h4 rfl, h5⟩)) ?assign ?body ?done ?stop
  case assign =>
    intro ll pre x W K hI hK
    obtain ⟨⟨q1, v1⟩, hx⟩ := x
    obtain ⟨bf, mf, df, bp, mp, dp, bq, mq, dq, hv, _, _, hps⟩ := (Hpa.out _ hx).open
    obtain ⟨_, _, _, he, hmq, _⟩ := hps
    cases he
    dsimp only at hv
    subst hv
    have Hmq := Lib.hid hmq
    clear hmq
    have hIsz : b + 1 + 1 + 1 ≤ W.heap.size := by
      obtain ⟨v, xs, _, _, _, _, h5, _⟩ := hI
      have := h5.size
      omega
    clear hit hl hfst
    dsimp only [encP]
    gi_wp2
    exact hK _ _ ((KeepsOthers.alloc _ _).from _) (fun hk => KpB.of_ext ((Ext.refl W).alloc _) hk) (hI.ext ((Ext.refl W).alloc _)) ⟨W.heap.size, bf, mf, df, bp, mp, dp, bq, mq, dq, hIsz, rfl, Hmq.out, heap_new _ _, by simp⟩
  case body =>
    rintro ll pre x a' W hll ⟨r, hr⟩ hI ⟨Bx, bf, mf, df, bp, mp, dp, bq, mq, dq, hBx, hxv, hmq, hX, rfl⟩ hlt
    obtain ⟨⟨q1, v1⟩, hx⟩ := x
    dsimp only at hxv hmq hX hlt
    have X0 := hX.cell0
    have X1 := hX.cell1
    have X2 := hX.cell2
    have X3 := hX.cell3
    have X4 := hX.cell4
    cases hleaf : isLeaf q1
    · have hz : ((mq : Int) == 0) = false := by
        have h1 : q1.ps ≠ [] := by intro e; simp [isLeaf, e] at hleaf
        have h2 := List.length_pos_iff.2 h1
        simp only [beq_eq_false_iff_ne, ne_eq]
        omega
      have hI2 : LvInv (b + 1 + 1 + 1) (b + 1) W0 (pre ++ [⟨(q1, v1), hx⟩]) W := by
        obtain ⟨v, xs, h1, h2, h3, h4, h5, h6⟩ := hI
        have e := lvOf_no pre ⟨(q1, v1), hx⟩ hleaf
        exact ⟨v, xs, h1, by rw [e]; exact h2, by rw [e]; exact h3, by rw [e]; exact h4, h5, h6⟩
      clear hit hl hfst hmq hI hxv
      dsimp only
      gi_wp2
      exact ⟨(KeepsOthers.refl _).from _, fun hk => KpB.of_ext (Ext.refl _) hk, hI2⟩
    · have hz : ((mq : Int) == 0) = true := by
        have h1 : q1.ps = [] := by simpa [isLeaf] using hleaf
        rw [h1] at hmq
        simp [hmq]
      obtain ⟨v, xs, h1, h2, h3, h4, h5, h6⟩ := hI
      obtain ⟨ao, cap, rfl⟩ := ownsRow_slice h2
      have hpl := lvOf_len pre
      have hpN : pre.length < 1000000 := by omega
      have hp0 : PartAt W0 NoB q1 (.agg #[.slice bf mf df, vstr q1.t, .slice bp mp dp, vstr q1.b, .slice bq mq dq]) := by rw [← hxv]; exact PartAt.leaf (Hpa.out _ hx) hleaf
      have hsz : b + 1 + 1 + 1 ≤ W.heap.size := by have := h5.size; omega
      have Bo := h1.cell
      have Bf := h1.frozen
      obtain ⟨g', cap', w5, hrun, hown5, hgrow, hat, hlt5⟩ := run_append_lies (P := Tryz.prog) (W.alloc (.cells #[.slice none 0 0, .string ⟨#[]⟩, .slice none 0 0, .string ⟨#[]⟩, .slice none 0 0] 27)).drew 25 25 (b + 1 + 1 + 1) 27 i0 _ 5 104 Tryz.underlying25 hi hz0 hz1 hz2 rfl (by decide) _ _ _ (ownsRow_ext (((Ext.refl W).alloc _).drew) h2) ⟨W.heap.size, 0, none⟩ 1 1 [.slice none 0 0, .string ⟨#[]⟩, .slice none 0 0, .string ⟨#[]⟩, .slice none 0 0] rfl (by intro j u hj; rw [addr_add0, World.cell?_drew]; exact (World.cell?_alloc_mark W _ _ _ j).trans (by simpa using hj)) (by simp [Value.oneCell']) (by omega) (by unfold maxLen; omega) (by omega) (by simp; omega) _ rfl
      replace hrun : (appendS #[25, 25] 25 _).run Tryz.prog _ = _ := hrun
      have Hmq := Lib.hid hmq
      obtain ⟨hgb, Zc, Zf, B5, hA, hB⟩ := leaf_round (x := ⟨(q1, v1), hx⟩) h1 h2 h3 h4 h5 h6 (by omega) (by omega) hleaf hp0 (((Ext.refl W).alloc _).drew) hgrow (by rcases hat with h | h; exact .inl h; exact .inr (by rw [h]; simp)) hown5 W0.heap.size
      have HA : Hid (∀ a : Act, ownPostG W0.heap.size (fun W W' => OkB (b + 1) W → KpB (b + 1 + 1 + 1) (b + 1) W W') (LvInv (b + 1 + 1 + 1) (b + 1) W0) (fun _ _ _ => False) (pre ++ [⟨(q1, v1), hx⟩]) W .normal a
          ((((((w5.setCell ⟨g', (lvOf pre).length * 5, none⟩ (.slice bf mf df)).setCell ⟨g', (lvOf pre).length * 5 + 1, none⟩ (vstr q1.t)).setCell ⟨g', (lvOf pre).length * 5 + 2, none⟩ (.slice bp mp dp)).setCell ⟨g', (lvOf pre).length * 5 + 3, none⟩ (vstr q1.b)).setCell ⟨g', (lvOf pre).length * 5 + 4, none⟩ (.slice bq mq dq)).setCell ⟨b + 1, 0, none⟩ (.slice (some ⟨g', 0, none⟩) ((lvOf pre).length + 1) cap'))) := Lib.hid (fun _ => hA)
      have HB : Hid (∀ a : Act, ownPostG W0.heap.size (fun W W' => OkB (b + 1) W → KpB (b + 1 + 1 + 1) (b + 1) W W') (LvInv (b + 1 + 1 + 1) (b + 1) W0) (fun _ _ _ => False) (pre ++ [⟨(q1, v1), hx⟩]) W .normal a
          ((((((w5.setCell ⟨b + 1, 0, none⟩ (.slice (some ⟨g', 0, none⟩) ((lvOf pre).length + 1) cap')).setCell ⟨g', (lvOf pre).length * 5, none⟩ (.slice bf mf df)).setCell ⟨g', (lvOf pre).length * 5 + 1, none⟩ (vstr q1.t)).setCell ⟨g', (lvOf pre).length * 5 + 2, none⟩ (.slice bp mp dp)).setCell ⟨g', (lvOf pre).length * 5 + 3, none⟩ (vstr q1.b)).setCell ⟨g', (lvOf pre).length * 5 + 4, none⟩ (.slice bq mq dq))) := Lib.hid (fun _ => hB)
      clear hA hB hgrow hown5 hat h1 h2 h3 h4 h5 h6 hp0 hX hlt5
      have hgne : ¬ g' = b + 1 := by omega
      have hgne2 : ¬ b + 1 = g' := by omega
      have Z0 : w5.cell? ⟨g', (lvOf pre).length * 5, none⟩ = some (.slice none 0 0) := Zc 0 _ rfl
      have Z1 := Zc 1 _ rfl
      have Z2 := Zc 2 _ rfl
      have Z3 := Zc 3 _ rfl
      have Z4 := Zc 4 _ rfl
      have F0 := Zf ((lvOf pre).length * 5)
      have F1 := Zf ((lvOf pre).length * 5 + 1)
      have F2 := Zf ((lvOf pre).length * 5 + 2)
      have F3 := Zf ((lvOf pre).length * 5 + 3)
      have F4 := Zf ((lvOf pre).length * 5 + 4)
      have Bo5 := B5.cell
      have Bf5 := B5.frozen
      have xal : Ext W (W.alloc (.cells #[.slice none 0 0, .string ⟨#[]⟩, .slice none 0 0, .string ⟨#[]⟩, .slice none 0 0] 27)) := (Ext.refl W).alloc _
      have XA0 := xal.holds X0
      have XA1 := xal.holds X1
      have XA2 := xal.holds X2
      have XA3 := xal.holds X3
      have XA4 := xal.holds X4
      have BoA := xal.holds Bo
      clear Zc Zf xal B5 hi hz0 hz1 hz2
      clear hit hl hfst hxv hmq
      have mixed : Tryz.prog.follows .mixedOrders = true := by kernel_rfl
      dsimp only
      gi_wp2
      gi_region_with_o (fail)
      all_goals gi_wp2
      all_goals (first | with_reducible exact HA.out _ | with_reducible exact HB.out _)
  case done =>
    rintro D ys W hD hS ⟨v, xs, bo, ho, hcs, h4, hold, _⟩ hK
    have hlv : lvOf ys = leavesB q := by
      have h1 : ys.map (·.1.1) = preB q := by
        have := congrArg (List.map Prod.fst) hS
        rw [List.map_map, hfst] at this
        exact this
      rw [lvOf, h1]; rfl
    rw [hlv] at ho hcs
    have Bo := bo.cell
    clear hit hl hS
    gi_wp2
    refine ⟨by simp, .inl ⟨_, _, rfl, run_takeDeferred hK, ?_⟩⟩
    have hDb : b + 1 + 1 + 1 ≤ D := by omega
    have hold2 := hold.trans (Old.putObj _ D (.deferred none) hDb)
    have ho2 := ownsRow_putObj ho (.deferred none) hK rfl
    have hb := Hb.out
    have hag : Ag 0 W (W.putObj D (.deferred none)) := ⟨rfl, rfl, rfl, by simp, fun k h => by omega, fun k o h h2 => (World.putObj_heap_other (by rintro rfl; rw [hK] at h; cases h; cases h2)).trans h⟩
    have hcs2 : CellsAt (W.putObj D (.deferred none)) (From w.heap.size) (leavesB q) xs := CellsAt.mono (fun _ _ (h : NoB _) => h.elim) _ _ (CellsAt.keep hag.keep _ _ hcs)
    exact ⟨_, results_tmp rfl _ _ _, _, rfl, PartsAt.of_owns ho2 hcs2 (fun k hk => by show w.heap.size ≤ k; omega), x0.upon (hold2.below (by omega) (by omega) (by simp; omega))⟩
  case stop =>
    rintro D c pre W hD hS h hK
    exact h.elim
end Go.Proofs.YtdjcjkpodggdpaaGreatDoor
