/- mime.Parse; the functions over a tree of parts. -/
import Derived.Test.YtdjcjkpodggdpaaGreatDoorBPartW
namespace Go.Proofs.YtdjcjkpodggdpaaGreatDoor
open Go.RowKit
attribute [local go_sem] Oper.semAt_some

set_option maxHeartbeats 1000000 in
/-- mime.Parse. -/
theorem mparse_any (dec : List UInt8 → List UInt8 → Option (List UInt8))
    (hdec : ∀ l e c w, l.length ≤ 16777216 → e.length ≤ 16777216 → dec l e = some c → c.length ≤ l.length ∧ Calls Tryz.prog 20 #[vstr l, vstr e] w fun r w' => r = .returned (vstr c) ∧ Ext w w')
    (n : Nat) (s : List UInt8) (q : PartT) (k2 : Nat) (hq : partB dec n s 1 1 = some (q, k2)) (hs : s.length ≤ 16777216) (w : World) :
    Calls Tryz.prog 5 #[vstr s] w fun e w' => ∃ v, e = .returned v ∧ PartAt w' (From w.heap.size) q v ∧ Ext w w' := by
  obtain ⟨W1, hW1⟩ : ∃ W1, W1 = (w.alloc (.cells #[.slice none 0 0, vstr [], .slice none 0 0, vstr [], .slice none 0 0] 27)).alloc (.cells #[.int .i64 1] 37) := ⟨_, rfl⟩
  have x1 : Ext w W1 := by rw [hW1]; exact ((Ext.refl w).alloc _).alloc _
  have b1 : Boxed W1 (w.heap.size + 1) 37 (.int .i64 (1 : Nat)) := by
    rw [hW1]
    have := Boxed.new (w.alloc (.cells #[.slice none 0 0, vstr [], .slice none 0 0, vstr [], .slice none 0 0] 27)) 37 (.int .i64 1)
    rwa [World.size_alloc] at this
  have f1 : Five W1 w.heap.size (.slice none 0 0) (vstr []) (.slice none 0 0) (vstr []) (.slice none 0 0) := by
    rw [hW1]
    exact (((Ext.refl (w.alloc (.cells #[.slice none 0 0, vstr [], .slice none 0 0, vstr [], .slice none 0 0] 27))).alloc _).heap (by simp)).trans (heap_new w _)
  have sz : W1.heap.size = w.heap.size + 2 := by rw [hW1]; simp
  have h := part_any dec hdec n s 1 1 q k2 hq hs (by omega) (by omega) (w.heap.size + 1) W1 b1
  have H := Lib.hid h
  have HW := Lib.hid hW1
  clear h hdec hq
  go_enter Tryz.func5, Tryz.ntmps5
  go_wp2_with fail
  rw [show (w.alloc (.cells #[.slice none 0 0, .string { data := #[] }, .slice none 0 0, .string { data := #[] }, .slice none 0 0] 27)).alloc (.cells #[.int .i64 1] 37) = W1 from HW.out.symm]
  refine (H.out).mono ?_
  rintro e w2 ⟨v, rfl, hp, hb, hk, ho⟩
  obtain ⟨af, nf, cf, ap, np, cp, aq, nq, cq, rfl, hf, hpp, hqs⟩ := hp.open
  have F2 : Five w2 w.heap.size (.slice none 0 0) (vstr []) (.slice none 0 0) (vstr []) (.slice none 0 0) := (ho.block _ (by omega) (by simp) (by omega)).trans f1
  have a0 := F2.cell0
  have a1 := F2.cell1
  have a2 := F2.cell2
  have a3 := F2.cell3
  have a4 := F2.cell4
  have af0 := F2.frozen 0
  have af1 := F2.frozen 1
  have af2 := F2.frozen 2
  have af3 := F2.frozen 3
  have af4 := F2.frozen 4
  obtain ⟨W15, hW15⟩ : ∃ W15, W15 = put5 w2 w.heap.size (.slice af nf cf) (vstr q.t) (.slice ap np cp) (vstr q.b) (.slice aq nq cq) := ⟨_, rfl⟩
  have F15 : Five W15 w.heap.size (.slice af nf cf) (vstr q.t) (.slice ap np cp) (vstr q.b) (.slice aq nq cq) := by rw [hW15]; exact put5_five F2 _ _ _ _ _
  have k1 : Keep (From (w.heap.size + 2)) w2 W15 := by rw [hW15]; exact put5_keep F2 (notFrom2 (by omega))
  have x15 : Ext w W15 := by
    have o1 : Old w.heap.size [] w W1 := (Old.refl _ _ w).ext x1
    have o2 : Old w.heap.size [] w w2 := o1.trans ⟨ho.os, ho.tape, ho.output, ho.size, fun k h1 _ h3 => ho.block k (by omega) (by simp; omega) h3⟩
    have o3 : Old w.heap.size [] w W15 := by rw [hW15]; exact put5_old _ _ _ _ _ o2 (Nat.le_refl _)
    exact o3.below (Nat.le_refl _) (Nat.le_refl _) (by simp)
  have p15 : PartAt W15 (From w.heap.size) q (.agg #[.slice af nf cf, vstr q.t, .slice ap np cp, vstr q.b, .slice aq nq cq]) := by
    have h1 := PartAt.keep (k1.mono (T := From W1.heap.size) (fun b hb => by rw [sz] at hb; exact hb)) _ _ hp
    exact PartAt.mono (fun b _ hb => by have : W1.heap.size ≤ b := hb; show w.heap.size ≤ b; omega) _ _ h1
  have e0 := F15.cell0
  have e1 := F15.cell1
  have e2 := F15.cell2
  have e3 := F15.cell3
  have e4 := F15.cell4
  have PartEnd : ∀ tm : Array Value, tm[2]? = some (.pointer (some ⟨w.heap.size, 0, none⟩)) → bodyPost Tryz.prog Tryz.f5 (fun e w' => ∃ v, e = .returned v ∧ PartAt w' (From w.heap.size) q v ∧ Ext w w') .ret { tmps := tm, defers := [] } W15 := by
    intro tm ht
    refine bodyPost_ret (v := .agg #[.slice af nf cf, vstr q.t, .slice ap np cp, vstr q.b, .slice aq nq cq]) ?_ rfl ⟨_, rfl, p15, x15⟩
    simp [results, Tryz.results5, go_sem, e0, e1, e2, e3, e4, ht]
  rw [hW15] at PartEnd
  clear hW15 e0 e1 e2 e3 e4 F15 k1 x15 p15 hp hb ho F2 hf hpp hqs
  go_wp2
  exact PartEnd _ rfl
end Go.Proofs.YtdjcjkpodggdpaaGreatDoor
