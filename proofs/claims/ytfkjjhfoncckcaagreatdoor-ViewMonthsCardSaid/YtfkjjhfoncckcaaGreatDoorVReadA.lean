/- view.Read: what lies between its steps. -/
import Derived.Test.YtfkjjhfoncckcaaGreatDoorVSmallP
import Derived.Deep.AppendLies
import Derived.Deep.RegionHeldLaw
namespace Go.Proofs.YtfkjjhfoncckcaaGreatDoor
open Go.RowKit Go.Sort

theorem own_same {W W' : World} {base : Nat} {e : TypeId} {size : Nat} {v : Value} {k : Nat} {xs : List Value} (h : W.ownsRow base e size v k xs) (hb : ∀ g cur, base ≤ g → W.heap[g]? = some (.cells cur e (0, 0)) → W'.heap[g]? = W.heap[g]?) : W'.ownsRow base e size v k xs := by
  obtain ⟨h1, h2⟩ := h
  refine ⟨h1, ?_⟩
  rcases h2 with h2 | ⟨g, cap, cur, hv, hg, hh, r⟩
  · exact .inl h2
  · exact .inr ⟨g, cap, cur, hv, hg, (hb g cur hg hh).trans hh, r⟩
theorem own_but {p base : Nat} {W W' : World} {e : TypeId} {size n : Nat} {v : Value} {xs : List Value} (h : But p W W') (hp : p < base) (k : W.ownsRow base e size v n xs) : W'.ownsRow base e size v n xs :=
  own_same k fun _ _ hg hh => h.block _ (Array.getElem?_eq_some_iff.1 hh).1 (by omega)
theorem own_apart {W : World} {b1 b2 : Nat} {e1 e2 : TypeId} {s1 s2 n1 n2 : Nat} {v1 v2 : Value} {xs ys : List Value} (h1 : W.ownsRow b1 e1 s1 v1 n1 xs) (h2 : W.ownsRow b2 e2 s2 v2 n2 ys) (hne : e1 ≠ e2) : v1.ownBlock = none ∨ v1.ownBlock ≠ v2.ownBlock := by
  rcases h1.2 with ⟨rfl, _⟩ | ⟨g, cap, cur, rfl, _, hh, _⟩
  · exact .inl rfl
  · refine .inr fun e => ?_
    rcases h2.2 with ⟨rfl, _⟩ | ⟨g2, cap2, cur2, rfl, _, hh2, _⟩
    · simp [Value.ownBlock] at e
    · simp only [Value.ownBlock, Option.some.injEq] at e
      subst e
      rw [hh] at hh2
      simp only [Option.some.injEq, Obj.cells.injEq] at hh2
      exact hne hh2.2.1
/-- Where Read stands: its result's block, its reader, its view in block V with its lists and lines. -/
structure RSt (w : World) (V : Nat) (la : Option Addr) (nl lc : Nat) (xs : List Value) (na : Option Addr) (nn nc : Nat) (ys : List Value) (rest : List UInt8) (W : World) : Prop where
  rv : Eight W w.heap.size (vstr []) (vstr []) (vstr []) (.int .i64 0) (.int .i64 0) (.slice none 0 0) (vstr []) (.slice none 0 0)
  rd : Rd W (w.heap.size + 1) rest false
  v : Eight W V (vstr [105]) (vstr []) (vstr []) (.int .i64 0) (.int .i64 0) (.slice na nn nc) (vstr []) (.slice la nl lc)
  hV : w.heap.size + 1 < V
  o1 : W.ownsRow (V + 1) 3 1 (.slice la nl lc) nl xs
  o2 : W.ownsRow (V + 1) 45 4 (.slice na nn nc) nn ys
  ext : Ext w W
  t : Tab w
section
variable {w W : World} {V : Nat} {la na : Option Addr} {nl lc nn nc : Nat} {xs ys : List Value} {rest : List UInt8}
theorem Eight.lt {B : Nat} {v0 v1 v2 v3 v4 v5 v6 v7 : Value} (h : Eight W B v0 v1 v2 v3 v4 v5 v6 v7) : B < W.heap.size := (Array.getElem?_eq_some_iff.1 h).1
theorem Eight.ext {W' : World} (x : Ext W W') {B : Nat} {v0 v1 v2 v3 v4 v5 v6 v7 : Value} (h : Eight W B v0 v1 v2 v3 v4 v5 v6 v7) : Eight W' B v0 v1 v2 v3 v4 v5 v6 v7 := (x.heap h.lt).trans h
theorem Eight.other {B B' : Nat} (o : Nat) (u : Value) {v0 v1 v2 v3 v4 v5 v6 v7 : Value} (h : Eight W B v0 v1 v2 v3 v4 v5 v6 v7) (hne : B ≠ B') : Eight (W.setCell ⟨B', o, none⟩ u) B v0 v1 v2 v3 v4 v5 v6 v7 := (Below.heap_setCell W ⟨B', o, none⟩ u B hne).trans h
theorem Eight.frozen {B : Nat} {v0 v1 v2 v3 v4 v5 v6 v7 : Value} (h : Eight W B v0 v1 v2 v3 v4 v5 v6 v7) (o : Nat) : W.frozen? ⟨B, o, none⟩ = false := by
  have h' : W.heap[B]? = _ := h
  simp [World.frozen?, h']
theorem Eight.cell5 {B : Nat} {v0 v1 v2 v3 v4 v5 v6 v7 : Value} (h : Eight W B v0 v1 v2 v3 v4 v5 v6 v7) : W.cell? ⟨B, 5, none⟩ = some v5 := by rw [Lib.cell_of_heap h]; rfl
theorem Eight.cells {B : Nat} {v0 v1 v2 v3 v4 v5 v6 v7 : Value} (h : Eight W B v0 v1 v2 v3 v4 v5 v6 v7) : W.cell? ⟨B, 3, none⟩ = some v3 ∧ W.cell? ⟨B, 4, none⟩ = some v4 ∧ W.cell? ⟨B, 5, none⟩ = some v5 ∧ W.cell? ⟨B, 6, none⟩ = some v6 ∧ W.cell? ⟨B, 7, none⟩ = some v7 := by
  refine ⟨?_, ?_, ?_, ?_, ?_⟩ <;> (rw [Lib.cell_of_heap h]; rfl)
/-- A method of the reader was called. -/
theorem RSt.called (h : RSt w V la nl lc xs na nn nc ys rest W) {W' : World} {rest' : List UInt8} (b : But (w.heap.size + 1) W W') (r : Rd W' (w.heap.size + 1) rest' false) : RSt w V la nl lc xs na nn nc ys rest' W' := by
  have hV := h.hV
  exact ⟨(b.block _ h.rv.lt (by omega)).trans h.rv, r, (b.block _ h.v.lt (by omega)).trans h.v, hV, own_but b (by omega) h.o1, own_but b (by omega) h.o2, b.ext h.ext (by omega), h.t⟩
theorem RSt.upon (h : RSt w V la nl lc xs na nn nc ys rest W) {W' : World} (x : Ext W W') : RSt w V la nl lc xs na nn nc ys rest W' :=
  ⟨h.rv.ext x, h.rd.ext x, h.v.ext x, h.hV, own_same h.o1 fun _ _ _ hh => x.heap (Array.getElem?_eq_some_iff.1 hh).1, own_same h.o2 fun _ _ _ hh => x.heap (Array.getElem?_eq_some_iff.1 hh).1, h.ext.trans x, h.t⟩
theorem RSt.tab (h : RSt w V la nl lc xs na nn nc ys rest W) : Tab W := h.t.ext h.ext
theorem RSt.app1 (h : RSt w V la nl lc xs na nn nc ys rest W) (o : Obj) {g cap : Nat} {w5 : World} {x : Value} (hown : w5.ownsRow (V + 1) 3 1 (.slice (some ⟨g, 0, none⟩) (nl + 1) cap) (nl + 1) (xs ++ [x])) (hg : (W.alloc o).grownBy w5 (Value.slice la nl lc).ownBlock) :
    Eight w5 V (vstr [105]) (vstr []) (vstr []) (.int .i64 0) (.int .i64 0) (.slice na nn nc) (vstr []) (.slice la nl lc) ∧ RSt w V (some ⟨g, 0, none⟩) (nl + 1) cap (xs ++ [x]) na nn nc ys rest (w5.setCell ⟨V, 7, none⟩ (.slice (some ⟨g, 0, none⟩) (nl + 1) cap)) := by
  have hV := h.hV
  have x4 : Ext W (W.alloc o) := (Ext.refl W).alloc _
  have h4 := h.upon x4
  have hlt := h4.o1.lt
  have hne : ∀ b, b < V + 1 → (some b : Option Nat) ≠ (Value.slice la nl lc).ownBlock := fun b hb e => by
    have := (hlt b e.symm).1
    omega
  have x5 : Ext w w5 := h4.ext.upon ⟨hg.os, hg.tape, hg.output, hg.size, fun k hk => hg.block k (Nat.lt_of_lt_of_le hk h4.ext.size) (hne k (by omega))⟩
  have v5 : Eight w5 V (vstr [105]) (vstr []) (vstr []) (.int .i64 0) (.int .i64 0) (.slice na nn nc) (vstr []) (.slice la nl lc) := (hg.block V h4.v.lt (hne V (by omega))).trans h4.v
  refine ⟨v5, ?_, ?_, v5.set7 _, hV, ownsRow_setCell_below hown (by show V < _; omega) _, ownsRow_setCell_below (h4.o2.kept hg (own_apart h4.o2 h4.o1 (by decide))) (by show V < _; omega) _, x5.setCell (p := ⟨V, 7, none⟩) (by show _ ≤ V; omega) _, h.t⟩
  · exact Eight.other _ _ ((hg.block _ h4.rv.lt (hne _ (by omega))).trans h4.rv) (by omega)
  · exact (Below.heap_setCell _ _ _ _ (by show _ ≠ V; omega)).trans ((hg.block _ (Array.getElem?_eq_some_iff.1 h4.rd).1 (hne _ (by omega))).trans h4.rd)
theorem RSt.app2 (h : RSt w V la nl lc xs na nn nc ys rest W) (o : Obj) {g cap : Nat} {w5 : World} {x : List Value} (hown : w5.ownsRow (V + 1) 45 4 (.slice (some ⟨g, 0, none⟩) (nn + 1) cap) (nn + 1) (ys ++ x)) (hg : (W.alloc o).grownBy w5 (Value.slice na nn nc).ownBlock) :
    Eight w5 V (vstr [105]) (vstr []) (vstr []) (.int .i64 0) (.int .i64 0) (.slice na nn nc) (vstr []) (.slice la nl lc) ∧ RSt w V la nl lc xs (some ⟨g, 0, none⟩) (nn + 1) cap (ys ++ x) rest (w5.setCell ⟨V, 5, none⟩ (.slice (some ⟨g, 0, none⟩) (nn + 1) cap)) := by
  have hV := h.hV
  have x4 : Ext W (W.alloc o) := (Ext.refl W).alloc _
  have h4 := h.upon x4
  have hlt := h4.o2.lt
  have hne : ∀ b, b < V + 1 → (some b : Option Nat) ≠ (Value.slice na nn nc).ownBlock := fun b hb e => by
    have := (hlt b e.symm).1
    omega
  have x5 : Ext w w5 := h4.ext.upon ⟨hg.os, hg.tape, hg.output, hg.size, fun k hk => hg.block k (Nat.lt_of_lt_of_le hk h4.ext.size) (hne k (by omega))⟩
  have v5 : Eight w5 V (vstr [105]) (vstr []) (vstr []) (.int .i64 0) (.int .i64 0) (.slice na nn nc) (vstr []) (.slice la nl lc) := (hg.block V h4.v.lt (hne V (by omega))).trans h4.v
  refine ⟨v5, ?_, ?_, v5.set5 _, hV, ownsRow_setCell_below (h4.o1.kept hg (own_apart h4.o1 h4.o2 (by decide))) (by show V < _; omega) _, ownsRow_setCell_below hown (by show V < _; omega) _, x5.setCell (p := ⟨V, 5, none⟩) (by show _ ≤ V; omega) _, h.t⟩
  · exact Eight.other _ _ ((hg.block _ h4.rv.lt (hne _ (by omega))).trans h4.rv) (by omega)
  · exact (Below.heap_setCell _ _ _ _ (by show _ ≠ V; omega)).trans ((hg.block _ (Array.getElem?_eq_some_iff.1 h4.rd).1 (hne _ (by omega))).trans h4.rd)
theorem RSt.put6 (h : RSt w V la nl lc xs na nn nc ys rest W) : RSt w V la nl lc xs na nn nc ys rest (W.setCell ⟨V, 6, none⟩ (vstr [])) := by
  have hV := h.hV
  exact ⟨h.rv.other _ _ (by omega), (Below.heap_setCell _ _ _ _ (by show _ ≠ V; omega)).trans h.rd, h.v.set6 _, hV, ownsRow_setCell_below h.o1 (by show V < _; omega) _, ownsRow_setCell_below h.o2 (by show V < _; omega) _, h.ext.setCell (p := ⟨V, 6, none⟩) (by show _ ≤ V; omega) _, h.t⟩
theorem RSt.bad (h : RSt w V la nl lc xs na nn nc ys rest W) : RSt w V la nl lc xs na nn nc ys rest (W.setCell ⟨w.heap.size + 1, 1, none⟩ (.bool false)) :=
  h.called (But.setCell _ 1 W _) (h.rd.set1 false)
end
end Go.Proofs.YtfkjjhfoncckcaaGreatDoor
