/- decoded at a shown line; (*reader).shown. -/
import Derived.Test.YtfkjjhfoncckcaaGreatDoorVNumber
namespace Go.Proofs.YtfkjjhfoncckcaaGreatDoor
open Go.RowKit Go.Sort

theorem But.above {p : Nat} {w W : World} (h : But p w W) {k : Nat} (hk : w.heap.size ≤ k) (o : Nat) (v : Value) : But p w (W.setCell ⟨k, o, none⟩ v) :=
  ⟨h.os, h.tape, h.output, by rw [show (W.setCell ⟨k, o, none⟩ v).heap.size = W.heap.size by simp [World.setCell]]; exact h.size, fun i hi hp => (Below.heap_setCell W ⟨k, o, none⟩ v i (by show i ≠ k; omega)).trans (h.block i hi hp)⟩
def shownV (x : ShownT) : Value := .agg #[.bool x.hid, vstr x.salt, vstr x.text, vstr x.hash]
def put4 (W : World) (B : Nat) (u0 u1 u2 u3 : Value) : World := (((W.setCell ⟨B, 0, none⟩ u0).setCell ⟨B, 1, none⟩ u1).setCell ⟨B, 2, none⟩ u2).setCell ⟨B, 3, none⟩ u3
def FourS (W : World) (B : Nat) (v0 v1 v2 v3 : Value) : Prop := W.heap[B]? = some (.cells #[v0, v1, v2, v3] 45 (0, 0))
theorem FourS.cells {W : World} {B : Nat} {v0 v1 v2 v3 : Value} (h : FourS W B v0 v1 v2 v3) : W.cell? ⟨B, 0, none⟩ = some v0 ∧ W.cell? ⟨B, 1, none⟩ = some v1 ∧ W.cell? ⟨B, 2, none⟩ = some v2 ∧ W.cell? ⟨B, 3, none⟩ = some v3 := by
  refine ⟨?_, ?_, ?_, ?_⟩ <;> (rw [Lib.cell_of_heap h]; rfl)
theorem FourS.frozen {W : World} {B : Nat} {v0 v1 v2 v3 : Value} (h : FourS W B v0 v1 v2 v3) (o : Nat) : W.frozen? ⟨B, o, none⟩ = false := by
  have h' : W.heap[B]? = _ := h
  simp [World.frozen?, h']
theorem put4_four {W : World} {B : Nat} {v0 v1 v2 v3 : Value} (h : FourS W B v0 v1 v2 v3) (u0 u1 u2 u3 : Value) : FourS (put4 W B u0 u1 u2 u3) B u0 u1 u2 u3 := by
  have h0 : FourS (W.setCell ⟨B, 0, none⟩ u0) B u0 v1 v2 v3 := setCell_cs W B 0 u0 h
  have h1 : FourS ((W.setCell ⟨B, 0, none⟩ u0).setCell ⟨B, 1, none⟩ u1) B u0 u1 v2 v3 := setCell_cs _ B 1 u1 h0
  have h2 : FourS (((W.setCell ⟨B, 0, none⟩ u0).setCell ⟨B, 1, none⟩ u1).setCell ⟨B, 2, none⟩ u2) B u0 u1 u2 v3 := setCell_cs _ B 2 u2 h1
  exact setCell_cs _ B 3 u3 h2
theorem put4_but {p : Nat} {w W : World} (h : But p w W) {B : Nat} (hB : w.heap.size ≤ B) (u0 u1 u2 u3 : Value) : But p w (put4 W B u0 u1 u2 u3) := (((h.above hB 0 u0).above hB 1 u1).above hB 2 u2).above hB 3 u3
theorem put4_other (W : World) (B : Nat) (u0 u1 u2 u3 : Value) (k : Nat) (hk : k ≠ B) : (put4 W B u0 u1 u2 u3).heap[k]? = W.heap[k]? := by
  rw [put4, Below.heap_setCell _ ⟨B, 3, none⟩ u3 k hk, Below.heap_setCell _ ⟨B, 2, none⟩ u2 k hk, Below.heap_setCell _ ⟨B, 1, none⟩ u1 k hk, Below.heap_setCell _ ⟨B, 0, none⟩ u0 k hk]

set_option maxHeartbeats 1000000 in
set_option maxRecDepth 100000 in
theorem decoded_sh (p : Nat) (rest : List UInt8) (bad ok : Bool) (x : ShownT) (w : World) (h : Rd w p rest bad) :
    Calls Tryz.prog 90 #[.pointer (some ⟨p, 0, none⟩), shownV x, .bool ok] w fun e w' => e = .returned (shownV x) ∧ Rd w' p rest (bad || !ok) ∧ But p w w' := by
  obtain ⟨a, s, t, g⟩ := x
  unfold shownV
  have hlt : p < w.heap.size := (Array.getElem?_eq_some_iff.1 h).1
  obtain ⟨bx, hbx⟩ : ∃ bx, bx = w.heap.size := ⟨_, rfl⟩
  obtain ⟨W1, hW1⟩ : ∃ W1, W1 = (w.alloc (.cells #[.bool a, vstr s, vstr t, vstr g] 45)).alloc (.cells #[.bool false, vstr [], vstr [], vstr []] 45) := ⟨_, rfl⟩
  have x1 : Ext w W1 := by rw [hW1]; exact ((Ext.refl w).alloc _).alloc _
  have r1 := h.ext x1
  have k1 : FourS W1 bx (.bool a) (vstr s) (vstr t) (vstr g) := by
    rw [hW1, hbx, FourS, Below.heap_alloc _ _ _ (by simp)]
    exact heap_new w _
  have k2 : FourS W1 (bx + 1) (.bool false) (vstr []) (vstr []) (vstr []) := by
    rw [hW1, hbx]
    have := heap_new (w.alloc (.cells #[.bool a, vstr s, vstr t, vstr g] 45)) (.cells #[.bool false, vstr [], vstr [], vstr []] 45)
    rwa [World.size_alloc] at this
  obtain ⟨W2, hW2⟩ : ∃ W2, W2 = W1.setCell ⟨p, 1, none⟩ (.bool (bad || !ok)) := ⟨_, rfl⟩
  have r2 : Rd W2 p rest (bad || !ok) := by rw [hW2]; exact r1.set1 _
  have b2 : But p w W2 := by rw [hW2]; exact (But.of_ext x1).trans (But.setCell p 1 W1 _)
  have e1 : FourS W2 bx (.bool a) (vstr s) (vstr t) (vstr g) := by rw [hW2]; exact (Below.heap_setCell W1 ⟨p, 1, none⟩ _ bx (by show bx ≠ p; omega)).trans k1
  have e2 : FourS W2 (bx + 1) (.bool false) (vstr []) (vstr []) (vstr []) := by rw [hW2]; exact (Below.heap_setCell W1 ⟨p, 1, none⟩ _ (bx + 1) (by show bx + 1 ≠ p; omega)).trans k2
  have f4 := put4_four e2 (.bool a) (vstr s) (vstr t) (vstr g)
  have F := Lib.hid (And.intro ((put4_other W2 (bx + 1) (.bool a) (vstr s) (vstr t) (vstr g) p (by omega)).trans r2) (put4_but b2 (by omega : w.heap.size ≤ bx + 1) (.bool a) (vstr s) (vstr t) (vstr g)))
  have c1 := r1.cell1
  have fr := r1.frozen 1
  have E1 := Lib.hid e1
  have E2 := Lib.hid e2
  have F4 := Lib.hid f4
  have HW1 := Lib.hid hW1
  have HW2 := Lib.hid hW2
  have Hbx := Lib.hid hbx
  clear hW1 hW2 hbx h r1 r2 b2 e1 e2 k1 k2 x1 f4 hlt
  go_enter Tryz.func90, Tryz.ntmps90
  go_upto_region 1 with fail
  rw [show (w.alloc (.cells #[.bool a, vstr s, vstr t, vstr g] 45)).alloc (.cells #[.bool false, .string ⟨#[]⟩, .string ⟨#[]⟩, .string ⟨#[]⟩] 45) = W1 from HW1.out.symm, ← Hbx.out]
  cases bad <;> cases ok <;>
  · go_upto_region 2 with fail
    first
      | rw [show W1.setCell ⟨p, 1, none⟩ (.bool true) = W2 from HW2.out.symm]
      | rw [show W1.setCell ⟨p, 1, none⟩ (.bool false) = W2 from HW2.out.symm]
    clear c1 fr
    obtain ⟨d0, d1, d2, d3⟩ := E1.out.cells
    obtain ⟨g0, g1, g2, g3⟩ := E2.out.cells
    have z0 := E2.out.frozen 0
    have z1 := E2.out.frozen 1
    have z2 := E2.out.frozen 2
    have z3 := E2.out.frozen 3
    go_wp2
    obtain ⟨r0, r1, r2, r3⟩ := F4.out.cells
    have FF := F.out
    unfold put4 at r0 r1 r2 r3 FF
    have HF := Lib.hid FF
    clear FF d0 d1 d2 d3 g0 g1 g2 g3 z0 z1 z2 z3
    refine bodyPost_ret (v := .agg #[.bool a, vstr s, vstr t, vstr g]) (by simp [results, Tryz.results90, go_sem, r0, r1, r2, r3]) rfl ?_
    exact ⟨rfl, HF.out⟩
end Go.Proofs.YtfkjjhfoncckcaaGreatDoor
