/- mime.Count. -/
import Derived.Test.YtdjcjkpodggdpaaGreatDoorBCare
namespace Go.Proofs.YtdjcjkpodggdpaaGreatDoor
open Go.RowKit
attribute [local go_sem] Oper.semAt_some

theorem KpB.putObj {N0 b1 : Nat} {W : World} {l : Nat} {o o' : Obj} (hl : N0 ≤ l) (ho : W.heap[l]? = some o) (hc : o.isCells = false) (hok : OkB b1 W) : KpB N0 b1 W (W.putObj l o') where
  os := rfl
  tape := rfl
  output := rfl
  size := by simp
  block := fun k ob _ _ h h2 => (World.putObj_heap_other (fun e => by
    subst e
    rw [ho] at h
    cases h
    rcases h2 with h2 | h2
    · rw [hc] at h2; cases h2
    · omega)).trans h
  own := by
    obtain ⟨t, v, hb, _⟩ := hok
    have hne : b1 ≠ l := by
      rintro rfl
      rw [show W.heap[b1]? = _ from hb] at ho
      cases ho
      simp [Obj.isCells] at hc
    refine .inl ?_
    rw [ownAt, ownAt, World.cell?_of_block (w := W) (a := ⟨b1, 0, none⟩) (World.putObj_heap_other hne)]
  ok := by
    rintro ⟨t, v, hb, h1, h2⟩
    have hne : ∀ k p u, W.cell? ⟨k, p, none⟩ = some u → k ≠ l := by
      rintro k p u hk rfl
      obtain ⟨ob, hob, hcl⟩ := cells_of_cell hk
      rw [ho] at hob
      cases hob
      rw [hc] at hcl
      cases hcl
    refine ⟨t, v, (World.putObj_heap_other (hne _ _ _ hb.cell)).trans hb, h1, fun g hg => ?_⟩
    obtain ⟨⟨ob, h3, h5⟩, h4⟩ := h2 g hg
    have hgl : g ≠ l := by
      rintro rfl
      rw [ho] at h3
      cases h3
      rw [hc] at h5
      cases h5
    refine ⟨⟨ob, (World.putObj_heap_other hgl).trans h3, h5⟩, fun s hs => h4 s ?_⟩
    rwa [World.cell?_of_block (w := W) (a := ⟨g, 0, none⟩) (World.putObj_heap_other hgl)] at hs

/-- Between two rounds of Count. -/
def CInv (N b1 : Nat) (W0 : World) {α : Type} (pre : List α) (W : World) : Prop := Boxed W b1 3 (.int .i64 (pre.length : Nat)) ∧ Old N [b1] W0 W
theorem CInv.abides {N b1 B : Nat} {W0 : World} {α : Type} (hB : N ≤ B) : ∀ (pre : List α) W W', Ag B W W' → CInv N b1 W0 pre W → CInv N b1 W0 pre W' := by
  rintro pre W W' h ⟨h1, h3⟩
  exact ⟨h.boxed h1, h.old h3 hB⟩
theorem OkB.plain {b1 : Nat} {W : World} {t : TypeId} {v : Value} (h : Boxed W b1 t v) (h1 : v.ownBlock = none) (h2 : ∀ l, v ≠ vstr l) : OkB b1 W := ⟨t, v, h, h2, fun g hg => by rw [h1] at hg; cases hg⟩
theorem KpB.plain {N0 b1 : Nat} {W : World} {t : TypeId} {v u : Value} (h : Boxed W b1 t v) (h1 : v.ownBlock = none) (h2 : u.ownBlock = none) (h3 : ∀ l, u ≠ vstr l) : KpB N0 b1 W (W.setCell ⟨b1, 0, none⟩ u) where
  os := rfl
  tape := rfl
  output := rfl
  size := by simp [World.setCell]
  block := fun k o hk _ ho _ => (Below.heap_setCell W ⟨b1, 0, none⟩ u k hk).trans ho
  own := .inl (by rw [ownAt, ownAt, h.cell, (Boxed.set u h).cell]; dsimp only; rw [h1, h2])
  ok := fun _ => OkB.plain (Boxed.set u h) h2 h3

set_option maxHeartbeats 2000000 in
set_option maxRecDepth 100000 in
/-- mime.Count. -/
theorem count_any (S : Nat → Prop) (q : PartT) (v : Value) (w : World) (hc : countB q ≤ 1000000) (hq : PartAt w S q v) :
    Calls Tryz.prog 8 #[v] w fun e w' => e = .returned (.int .i64 (countB q : Nat)) ∧ Ext w w' := by
  obtain ⟨af, nf, cf, ap, np, cp, aq, nq, cq, rfl, _, _, _⟩ := hq.open
  refine callsIn_wide (n := 12).1 ?_
  refine callsIn_of_wp_marks Tryz.func8 rfl trivial ?_ rfl
  simp only [Tryz.ntmps8, List.size_toArray, List.length_cons, List.length_nil, Nat.reduceAdd, Nat.reduceSub, Array.replicate_succ, Array.replicate_zero, List.push_toArray, List.append_toArray, List.nil_append, List.cons_append]
  have Hq := Lib.hid hq
  clear hq
  gi_wp2
  refine ⟨trivial, (inW _ (all_any af ap aq nf cf np cp nq cq q.t q.b _)).mono ?_⟩
  rintro e w1 ⟨rfl, rfl⟩
  gi_wp2
  obtain ⟨b, hb⟩ : ∃ b, b = w.heap.size := ⟨_, rfl⟩
  obtain ⟨W0, hW0⟩ : ∃ W0, W0 = ((w.alloc (.cells #[.slice af nf cf, vstr q.t, .slice ap np cp, vstr q.b, .slice aq nq cq] 27)).alloc (.cells #[.int .i64 0] 3)).alloc (.cells #[.slice af nf cf, vstr q.t, .slice ap np cp, vstr q.b, .slice aq nq cq] 27) := ⟨_, rfl⟩
  have hsz0 : W0.heap.size = b + 1 + 1 + 1 := by rw [hW0, hb]; simp
  have x0 : Ext w W0 := by rw [hW0]; exact ((((Ext.refl w).alloc _).alloc _).alloc _)
  have f1 : Boxed W0 (b + 1) 3 (.int .i64 ((0 : Nat) : Int)) := by
    rw [hW0, hb]
    have := Boxed.new (w.alloc (.cells #[.slice af nf cf, vstr q.t, .slice ap np cp, vstr q.b, .slice aq nq cq] 27)) 3 (.int .i64 0)
    rw [World.size_alloc] at this
    exact this.alloc _
  have f2 : Five W0 (b + 1 + 1) (.slice af nf cf) (vstr q.t) (.slice ap np cp) (vstr q.b) (.slice aq nq cq) := by
    rw [hW0, hb]
    have := heap_new ((w.alloc (.cells #[.slice af nf cf, vstr q.t, .slice ap np cp, vstr q.b, .slice aq nq cq] 27)).alloc (.cells #[.int .i64 0] 3)) (.cells #[.slice af nf cf, vstr q.t, .slice ap np cp, vstr q.b, .slice aq nq cq] 27)
    rw [World.size_alloc, World.size_alloc] at this
    exact this
  have hok : OkB (b + 1) W0 := OkB.plain f1 rfl (fun l h => by cases h)
  have hq0 : PartAt W0 (GoodB (b + 1 + 1 + 1) (b + 1) W0) q (.agg #[.slice af nf cf, vstr q.t, .slice ap np cp, vstr q.b, .slice aq nq cq]) := by
    have h1 := PartAt.mono (T := fun k => k < w.heap.size) (fun k hlt _ => hlt) _ _ Hq.out
    refine PartAt.mono (fun k _ hk => ⟨?_, ?_, .inl ?_⟩) _ _ (PartAt.keep (Ext.keep x0) _ _ h1)
    · omega
    · rw [ownAt, f1.cell]; simp [Value.ownBlock]
    · omega
  have C := cares_b (b + 1 + 1 + 1) (b + 1)
  have hit := all_iter C q af ap aq nf cf np cp nq cq (b + 1 + 1) W0 hc f2 hq0 hok
  have hl := flatV_len W0 _ q (.agg #[.slice af nf cf, vstr q.t, .slice ap np cp, vstr q.b, .slice aq nq cq]) (Nat.le_refl _)
  have hbw : b ≤ w.heap.size := by omega
  rw [← hW0, ← hb]
  have Hb := Lib.hid hb
  clear hW0 hb hq0
  refine wpIn_rangeFunc_ownH (F := Fence.wide) (n := 12) rfl (by omega) (gf := 23) (lb := #[.pointer (some ⟨b + 1 + 1, 0, none⟩)]) rfl trivial (enters_of Tryz.func23 (by kernel_rfl) rfl) (hit 11 (by omega))
    C.trans (fun W l' o o' h1 h2 h3 _ hk => KpB.putObj (by omega) h2 h3 hk) (Below.refl _ _) (fun _ => rfl)
    (CInv (b + 1 + 1 + 1) (b + 1) W0) (fun _ _ _ => False) (ownFrom_of (CInv.abides (by omega))) (fun c => ownFrom_of (fun _ _ _ _ h => h))
    ⟨f1, Old.refl _ _ _⟩
    (fun x a' _ => a' = { tmps := #[.agg #[.slice af nf cf, vstr q.t, .slice ap np cp, vstr q.b, .slice aq nq cq], .pointer (some ⟨b, 0, none⟩), .int .i64 0, .pointer (some ⟨b + 1, 0, none⟩), .agg #[.slice af nf cf, vstr q.t, .slice ap np cp, vstr q.b, .slice aq nq cq], .func (.func 23) #[] #[.pointer (some ⟨b + 1 + 1, 0, none⟩)], x.1.2, undef, undef, undef], defers := [] })
    (fun x a' => ownFrom_of (by rintro _ W W' _ h; exact h)) ?assign ?body ?done ?stop
  case assign =>
    intro ll pre x W K hI hK
    dsimp only [encP]
    gi_wp2
    exact hK _ _ (KeepsOthers.from (KeepsOthers.refl _) _) (fun hk => KpB.of_ext (Ext.refl _) hk) hI (by simp)
  case body =>
    rintro ll pre x a' W hll ⟨r, hr⟩ ⟨bo, hold⟩ rfl hlt
    have Bo := bo.cell
    have Bf := bo.frozen
    have hpl : pre.length < 1000000 := by omega
    clear hit hl
    gi_wp2
    refine ⟨(KeepsOthers.setCell _ _ _).from _, fun _ => KpB.plain bo rfl rfl (fun l h => by cases h), ?_, hold.setCell (by simp) _⟩
    have e : ((pre ++ [x]).length : Int) = (pre.length : Int) + 1 := by simp
    rw [e]
    exact Boxed.set _ bo
  case done =>
    rintro D ys W hD hS ⟨bo, hold⟩ hK
    have hyl : ys.length = countB q := by have := congrArg List.length hS; rw [hl] at this; simpa using this
    rw [hyl] at bo
    have Bo := bo.cell
    clear hit hl hS
    gi_wp2
    refine ⟨by simp, .inl ⟨_, _, rfl, run_takeDeferred hK, ?_⟩⟩
    have hDb : b + 1 + 1 + 1 ≤ D := by omega
    have hold2 := hold.trans (Old.putObj _ D (.deferred none) hDb)
    have hb := Hb.out
    exact ⟨_, results_tmp rfl _ _ _, rfl, x0.upon (hold2.below (by omega) (by omega) (by simp; omega))⟩
  case stop =>
    rintro D c pre W hD hS h hK
    exact h.elim
end Go.Proofs.YtdjcjkpodggdpaaGreatDoor
