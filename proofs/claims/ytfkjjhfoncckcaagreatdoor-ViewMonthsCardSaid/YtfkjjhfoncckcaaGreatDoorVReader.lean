/- The reader of a page. -/
import Derived.Test.YtfkjjhfoncckcaaGreatDoorVCut
namespace Go.Proofs.YtfkjjhfoncckcaaGreatDoor
open Go.RowKit Go.Sort

/-- Of what lay in w, only block p may have changed. -/
structure But (p : Nat) (w w' : World) : Prop where
  os : w'.os = w.os
  tape : w'.tape = w.tape
  output : w'.output = w.output
  size : w.heap.size ≤ w'.heap.size
  block : ∀ k, k < w.heap.size → k ≠ p → w'.heap[k]? = w.heap[k]?
theorem But.of_ext {p : Nat} {w w' : World} (x : Ext w w') : But p w w' := ⟨x.os, x.tape, x.output, x.size, fun _ hk _ => x.heap hk⟩
theorem But.trans {p : Nat} {a b c : World} (h : But p a b) (k : But p b c) : But p a c :=
  ⟨k.os.trans h.os, k.tape.trans h.tape, k.output.trans h.output, Nat.le_trans h.size k.size, fun i hi hp => (k.block i (Nat.lt_of_lt_of_le hi h.size) hp).trans (h.block i hi hp)⟩
theorem But.setCell (p o : Nat) (w : World) (v : Value) : But p w (w.setCell ⟨p, o, none⟩ v) :=
  ⟨rfl, rfl, rfl, Nat.le_of_eq (by simp [World.setCell]), fun k _ hk => Below.heap_setCell w ⟨p, o, none⟩ v k hk⟩
theorem But.ext {p : Nat} {a b c : World} (h : But p b c) (x : Ext a b) (hp : a.heap.size ≤ p) : Ext a c :=
  x.upon ⟨h.os, h.tape, h.output, h.size, fun k hk => h.block k (Nat.lt_of_lt_of_le hk x.size) (by omega)⟩
theorem But.tab {p : Nat} {w w' : World} (h : But p w w') (hT : Tab w) (hp : 2 ≠ p) : Tab w' := hT.of_block (h.block _ hT.lt hp)

/-- The reader in block p. -/
def Rd (W : World) (p : Nat) (rest : List UInt8) (bad : Bool) : Prop := W.heap[p]? = some (.cells #[vstr rest, .bool bad] 107 (0, 0))
theorem Rd.cell0 {W : World} {p : Nat} {rest : List UInt8} {bad : Bool} (h : Rd W p rest bad) : W.cell? ⟨p, 0, none⟩ = some (vstr rest) := by rw [Lib.cell_of_heap h]; rfl
theorem Rd.cell1 {W : World} {p : Nat} {rest : List UInt8} {bad : Bool} (h : Rd W p rest bad) : W.cell? ⟨p, 1, none⟩ = some (.bool bad) := by rw [Lib.cell_of_heap h]; rfl
theorem Rd.frozen {W : World} {p : Nat} {rest : List UInt8} {bad : Bool} (h : Rd W p rest bad) (o : Nat) : W.frozen? ⟨p, o, none⟩ = false := by
  have h' : W.heap[p]? = _ := h
  simp [World.frozen?, h']
theorem Rd.ext {W W' : World} {p : Nat} {rest : List UInt8} {bad : Bool} (h : Rd W p rest bad) (x : Ext W W') : Rd W' p rest bad := (x.heap (Array.getElem?_eq_some_iff.1 h).1).trans h
theorem Rd.set0 {W : World} {p : Nat} {rest : List UInt8} {bad : Bool} (h : Rd W p rest bad) (r : List UInt8) : Rd (W.setCell ⟨p, 0, none⟩ (vstr r)) p r bad := setCell_cs W p 0 _ h
theorem Rd.set1 {W : World} {p : Nat} {rest : List UInt8} {bad : Bool} (h : Rd W p rest bad) (b : Bool) : Rd (W.setCell ⟨p, 1, none⟩ (.bool b)) p rest b := setCell_cs W p 1 _ h

set_option maxHeartbeats 1000000 in
set_option maxRecDepth 100000 in
theorem decoded_s (p : Nat) (rest : List UInt8) (bad ok : Bool) (x : List UInt8) (w : World) (h : Rd w p rest bad) :
    Calls Tryz.prog 86 #[.pointer (some ⟨p, 0, none⟩), vstr x, .bool ok] w fun e w' => e = .returned (vstr x) ∧ Rd w' p rest (bad || !ok) ∧ But p w w' := by
  have c1 := h.cell1
  have f1 := h.frozen 1
  have R := Lib.hid (And.intro (h.set1 (bad || !ok)) (But.setCell p 1 w (.bool (bad || !ok))))
  clear h
  cases bad <;> cases ok <;>
  · go_enter Tryz.func86, Tryz.ntmps86
    go_wp2
    go_ret
    exact ⟨rfl, R.out⟩
set_option maxHeartbeats 1000000 in
set_option maxRecDepth 100000 in
theorem decoded_i (p : Nat) (rest : List UInt8) (bad ok : Bool) (x : Int) (w : World) (h : Rd w p rest bad) :
    Calls Tryz.prog 88 #[.pointer (some ⟨p, 0, none⟩), .int .i64 x, .bool ok] w fun e w' => e = .returned (.int .i64 x) ∧ Rd w' p rest (bad || !ok) ∧ But p w w' := by
  have c1 := h.cell1
  have f1 := h.frozen 1
  have R := Lib.hid (And.intro (h.set1 (bad || !ok)) (But.setCell p 1 w (.bool (bad || !ok))))
  clear h
  cases bad <;> cases ok <;>
  · go_enter Tryz.func88, Tryz.ntmps88
    go_wp2
    go_ret
    exact ⟨rfl, R.out⟩
end Go.Proofs.YtfkjjhfoncckcaaGreatDoor
