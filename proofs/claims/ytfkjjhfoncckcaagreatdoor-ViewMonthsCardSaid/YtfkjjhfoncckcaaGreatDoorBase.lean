/- Words for the contracts: 'Ext w w'': nothing that lay in w has changed in w'; a block that holds bytes; strings of bytes as values. -/
import Derived.Test.YtfkjjhfoncckcaaGreatDoorProg
import Derived.WalkKit
import Derived.Lib.Hide
import Derived.OneCell
import Derived.Deep.Draws
import Derived.RangeFuncBox
namespace Go.Proofs.YtfkjjhfoncckcaaGreatDoor
open Go.RowKit

/-- Nothing that lay in w has changed in w'; w' may hold new blocks. -/
def Ext (w w' : World) : Prop := Below w.heap.size w w'
theorem Ext.refl (w : World) : Ext w w := Below.refl _ _
theorem Ext.of_eq {w w' : World} (h : w' = w) : Ext w w' := h ▸ Ext.refl w
theorem Ext.size {a b : World} (h : Ext a b) : a.heap.size ≤ b.heap.size := Below.size h
theorem Ext.trans {a b c : World} (h : Ext a b) (k : Ext b c) : Ext a c := Below.trans h (Below.mono k (Below.size h))
theorem Ext.upon {a b c : World} (h : Ext a b) (k : Below a.heap.size b c) : Ext a c := Below.trans h k
theorem Ext.drew {a b : World} (h : Ext a b) : Ext a b.drew := Below.drew h
theorem Ext.drewN {a b : World} (h : Ext a b) (n : Nat) : Ext a (b.drewN n) := ⟨h.os, h.tape, h.output, h.size, h.block⟩
theorem Ext.alloc {a b : World} (h : Ext a b) (o : Obj) : Ext a (b.alloc o) := Below.alloc h h.size o
theorem Ext.setCell {a b : World} (h : Ext a b) {p : Addr} (hp : a.heap.size ≤ p.block) (u : Value) : Ext a (b.setCell p u) := Below.setCell h hp u
theorem Ext.below {B : Nat} {a b : World} (h : Ext a b) (hB : B ≤ a.heap.size) : Below B a b := Below.mono h hB
theorem Ext.cell {a b : World} (h : Ext a b) {k o : Nat} (hk : k < a.heap.size) : b.cell? ⟨k, o, none⟩ = a.cell? ⟨k, o, none⟩ := Below.cell h (p := ⟨k, o, none⟩) hk
theorem Ext.frozen {a b : World} (h : Ext a b) {k o : Nat} (hk : k < a.heap.size) : b.frozen? ⟨k, o, none⟩ = a.frozen? ⟨k, o, none⟩ := Below.frozen h (p := ⟨k, o, none⟩) hk
theorem Ext.heap {a b : World} (h : Ext a b) {k : Nat} (hk : k < a.heap.size) : b.heap[k]? = a.heap[k]? := Below.block h k hk
/-- A cell that holds something lies in the heap. -/
theorem lt_of_cell {w : World} {k o : Nat} {v : Value} (h : w.cell? ⟨k, o, none⟩ = some v) : k < w.heap.size := by
  refine Nat.lt_of_not_le fun hn => ?_
  simp [World.cell?, Array.getElem?_eq_none hn] at h
theorem Ext.holds {a b : World} (h : Ext a b) {k o : Nat} {v : Value} (hc : a.cell? ⟨k, o, none⟩ = some v) : b.cell? ⟨k, o, none⟩ = some v :=
  (h.cell (lt_of_cell hc)).trans hc

theorem heap_new (w : World) (o : Obj) : (w.alloc o).heap[w.heap.size]? = some o := by show (w.heap.push o)[w.heap.size]? = _; simp
/-- A block that holds bytes. -/
def BufAt (W : World) (b : Nat) (l : List UInt8) : Prop :=
  b < W.heap.size ∧ ∀ j (hj : j < l.length), W.cell? ⟨b, j, none⟩ = some (.int .u8 (l[j].toNat : Int)) ∧ W.frozen? ⟨b, j, none⟩ = false

theorem addr_add0 (b j : Nat) : (⟨b, 0, none⟩ : Addr).add j = ⟨b, j, none⟩ := by unfold Addr.add; split <;> simp_all
theorem BufAt.set {W : World} {b : Nat} {l : List UInt8} (h : BufAt W b l) (k : Nat) (c : UInt8) :
    BufAt (W.setCell ⟨b, k, none⟩ (.int .u8 (c.toNat : Int))) b (l.set k c) := by
  refine ⟨by simpa [World.setCell] using h.1, fun j hj => ?_⟩
  rw [List.length_set] at hj
  obtain ⟨h1, h2⟩ := h.2 j hj
  refine ⟨?_, by rw [World.frozen?_setCell]; exact h2⟩
  by_cases e : k = j
  · subst e
    rw [World.cell?_setCell_same' _ _ _ (by rw [h1]; rfl)]
    simp
  · rw [World.cell?_setCell_other _ _ _ _ (by intro he; cases he; exact e rfl), h1]
    simp [List.getElem_set, e]

/-- A string of bytes as a value. -/
abbrev vstr (l : List UInt8) : Value := .string ⟨l.toArray⟩
theorem ret_str {a b : List UInt8} (h : a = b) : Ending.returned (vstr a) = .returned (vstr b) := by rw [h]
theorem ret_int {k : IntKind} {a b : Int} (h : a = b) : Ending.returned (.int k a) = .returned (.int k b) := by rw [h]
theorem ret_bool {a b : Bool} (h : a = b) : Ending.returned (.bool a) = .returned (.bool b) := by rw [h]
theorem size_mk (l : List UInt8) : (⟨l.toArray⟩ : ByteArray).size = l.length := rfl
theorem toList_mk (l : List UInt8) : (⟨l.toArray⟩ : ByteArray).data.toList = l := rfl
theorem len_toList (s : ByteArray) : s.data.toList.length = s.size := by rw [Array.length_toList]; rfl
theorem mk_toList (s : ByteArray) : (⟨s.data.toList.toArray⟩ : ByteArray) = s := rfl

/-- 'out = append(out, x)' of ONE element of whatever width: the element lies in a new block; what the call owned, it owns with one element more. -/
theorem wpList_append1 {P : Program} {ops : Array Oper} {rest : List Oper} {o : Oper} {a : Act} {Q : Exit → Act → World → Prop} (w0 : World) (e : TypeId) (news : List Value) (hgd : o.guard = none) (s x : Operand) (t : TypeId)
    (ho : o.op = .call { callee := .builtin .append, args := #[s, x], argTypes := #[t, t] })
    (base : Nat) (i : TypeInfo) (z : Value) (size bytes : Nat) (ht : P.underlying t = some (.slice e)) (hi : P.info? e = some i) (hz : i.zero = some z)
    (hsize : i.size = size) (hby : i.bytes = bytes) (hzs : z.cells.size = size) (hsz : 0 < size)
    (v : Value) (n : Nat) (xs : List Value) (hs : a.eval s = v) (hown : w0.ownsRow base e size v n xs)
    (c : Nat) (hx : a.eval x = .slice (some ⟨w0.heap.size, 0, none⟩) 1 c) (hl : news.length = size) (h1 : ∀ u ∈ news, u.oneCell' = true)
    (h63 : n + 1 ≤ 1099511627776) (hbytes : (n + 1) * bytes ≤ 140737488355328) (hbase : base ≤ w0.heap.size)
    (h : ∀ g cap w', w'.ownsRow base e size (.slice (some ⟨g, 0, none⟩) (n + 1) cap) (n + 1) (xs ++ news) → Below base w0 w' → (w0.alloc (.cells news.toArray e)).grownBy w' v.ownBlock →
      wpList P ops Q rest (a.put o.dst (.slice (some ⟨g, 0, none⟩) (n + 1) cap)) w') : wpList P ops Q (o :: rest) a (w0.alloc (.cells news.toArray e)) := by
  refine wpList_append_own _ hgd s x t ho base e i z size bytes ht hi hz hsize hby hzs hsz v n xs hs (hown.alloc _) ⟨w0.heap.size, 0, none⟩ 1 c news hx (by omega) ?_ h1 (by unfold maxLen; omega) hbytes (by simp; omega) ?_
  · intro j u hj
    rw [addr_add0, World.cell?_alloc_mark]
    simpa using hj
  · intro v' w' hown' hgrow _
    obtain ⟨g', cap', rfl⟩ := ownsRow_succ hown'
    refine h g' cap' w' hown' ?_ hgrow
    refine ((Below.refl base w0).alloc hbase _).grown hgrow (by simp; omega) ?_
    intro k hk
    rcases hown.2 with ⟨rfl, _⟩ | ⟨g, cap, cur, rfl, hb, _⟩
    · simp [Value.ownBlock] at hk
    · simp [Value.ownBlock] at hk
      omega

/-- A slice of strings. -/
def StrsAt (W : World) (v : Value) (l : List (List UInt8)) : Prop :=
  (l = [] ∧ ∃ a c, v = .slice a 0 c) ∨ (l ≠ [] ∧ ∃ b o c, v = .slice (some ⟨b, o, none⟩) l.length c ∧ l.length ≤ c ∧ ∀ i (hi : i < l.length), W.cell? ⟨b, o + i, none⟩ = some (vstr l[i]))
theorem StrsAt.of_owns {W : World} {base : Nat} {e : TypeId} {v : Value} {l : List (List UInt8)} (h : W.ownsRow base e 1 v l.length (l.map vstr)) : StrsAt W v l := by
  by_cases hl : l = []
  · subst hl
    rcases h.2 with ⟨rfl, _⟩ | ⟨g, cap, cur, rfl, _⟩
    · exact .inl ⟨rfl, _, _, rfl⟩
    · exact .inl ⟨rfl, _, _, rfl⟩
  · rcases h.2 with ⟨_, h0⟩ | ⟨g, cap, cur, hv, hb, hg, hn, _⟩
    · exact absurd (List.length_eq_zero_iff.1 h0) hl
    · subst hv
      refine .inr ⟨hl, g, 0, cap, rfl, hn, fun i hi => ?_⟩
      rw [Nat.zero_add, World.ownsRow.cellAt h i (by omega)]
      simp [hi]
theorem StrsAt.ext {a b : World} (h : Ext a b) {v : Value} {l : List (List UInt8)} (k : StrsAt a v l) : StrsAt b v l := by
  rcases k with k | ⟨hne, bl, o, c, rfl, hc, hcells⟩
  · exact .inl k
  · exact .inr ⟨hne, bl, o, c, rfl, hc, fun i hi => h.holds (hcells i hi)⟩

/-- A slice of pairs of strings (fields, params). -/
def PairsAt (W : World) (v : Value) (l : List (List UInt8 × List UInt8)) : Prop :=
  (l = [] ∧ ∃ a c, v = .slice a 0 c) ∨ (l ≠ [] ∧ ∃ b o c, v = .slice (some ⟨b, o, none⟩) l.length c ∧ l.length ≤ c ∧
    ∀ i (hi : i < l.length), W.cell? ⟨b, o + i * 2, none⟩ = some (vstr l[i].1) ∧ W.cell? ⟨b, o + i * 2 + 1, none⟩ = some (vstr l[i].2))
theorem PairsAt.ext {a b : World} (h : Ext a b) {v : Value} {l : List (List UInt8 × List UInt8)} (k : PairsAt a v l) : PairsAt b v l := by
  rcases k with k | ⟨hne, bl, o, c, rfl, hc, hcells⟩
  · exact .inl k
  · exact .inr ⟨hne, bl, o, c, rfl, hc, fun i hi => ⟨h.holds (hcells i hi).1, h.holds (hcells i hi).2⟩⟩
/-- The cells of pairs. -/
def pairCells (l : List (List UInt8 × List UInt8)) : List Value := (l.map fun x => [vstr x.1, vstr x.2]).flatten
theorem pairCells_snoc (l : List (List UInt8 × List UInt8)) (x : List UInt8 × List UInt8) : pairCells (l ++ [x]) = pairCells l ++ [vstr x.1, vstr x.2] := by simp [pairCells]
theorem pairCells_length (l : List (List UInt8 × List UInt8)) : (pairCells l).length = l.length * 2 := by
  induction l with
  | nil => rfl
  | cons x l ih => simp only [pairCells, List.map_cons, List.flatten_cons, List.length_append, List.length_cons, List.length_nil] at ih ⊢; omega
theorem pairCells_at (l : List (List UInt8 × List UInt8)) : ∀ i (hi : i < l.length), (pairCells l)[i * 2]? = some (vstr l[i].1) ∧ (pairCells l)[i * 2 + 1]? = some (vstr l[i].2) := by
  induction l with
  | nil => intro i hi; simp at hi
  | cons x l ih =>
    intro i hi
    cases i with
    | zero => simp [pairCells]
    | succ i =>
      have := ih i (by simpa using hi)
      have e1 : (i + 1) * 2 = i * 2 + 1 + 1 := by omega
      have e : pairCells (x :: l) = vstr x.1 :: vstr x.2 :: pairCells l := by simp [pairCells]
      rw [e, e1]
      simpa using this
theorem PairsAt.of_owns {W : World} {base : Nat} {e : TypeId} {v : Value} {l : List (List UInt8 × List UInt8)} (h : W.ownsRow base e 2 v l.length (pairCells l)) : PairsAt W v l := by
  by_cases hl : l = []
  · subst hl
    rcases h.2 with ⟨rfl, _⟩ | ⟨g, cap, cur, rfl, _⟩
    · exact .inl ⟨rfl, _, _, rfl⟩
    · exact .inl ⟨rfl, _, _, rfl⟩
  · rcases h.2 with ⟨_, h0⟩ | ⟨g, cap, cur, hv, hb, hg, hn, _⟩
    · exact absurd (List.length_eq_zero_iff.1 h0) hl
    · subst hv
      refine .inr ⟨hl, g, 0, cap, rfl, hn, fun i hi => ?_⟩
      obtain ⟨h1, h2⟩ := pairCells_at l i hi
      rw [Nat.zero_add, World.ownsRow.cellAt h (i * 2) (by omega), World.ownsRow.cellAt h (i * 2 + 1) (by omega)]
      exact ⟨h1, h2⟩
end Go.Proofs.YtfkjjhfoncckcaaGreatDoor
