/- Words for loops over iterators: what a round keeps; an invariant that abides what the loop's own bookkeeping writes. -/
import Derived.Test.YtdjcjkpodggdpaaGreatDoorBase
import Derived.RangeFuncNested
import Derived.RangeFuncBound
import Derived.RangeFuncCalls
import Derived.RangeFuncLeaves
import Derived.RangeFuncBox
import Derived.Shelf.Abstract
import Derived.Shelf.RegionOpen
import Derived.OwnWalkIn
import Derived.TacticsInMore
import Derived.LoopNIn
import Derived.LoopIn
namespace Go.Proofs.YtdjcjkpodggdpaaGreatDoor
open Go.RowKit

/-- Of the blocks below N only those in bs may change. -/
structure Old (N : Nat) (bs : List Nat) (W W' : World) : Prop where
  os : W'.os = W.os
  tape : W'.tape = W.tape
  output : W'.output = W.output
  size : W.heap.size ≤ W'.heap.size
  block : ∀ k, k < N → k ∉ bs → k < W.heap.size → W'.heap[k]? = W.heap[k]?
theorem Old.refl (N : Nat) (bs : List Nat) (W : World) : Old N bs W W := ⟨rfl, rfl, rfl, Nat.le_refl _, fun _ _ _ _ => rfl⟩
theorem Old.trans {N : Nat} {bs : List Nat} {A B C : World} (h : Old N bs A B) (k : Old N bs B C) : Old N bs A C :=
  ⟨k.os.trans h.os, k.tape.trans h.tape, k.output.trans h.output, Nat.le_trans h.size k.size, fun i h1 h2 h3 => (k.block i h1 h2 (Nat.lt_of_lt_of_le h3 h.size)).trans (h.block i h1 h2 h3)⟩
theorem Old.ext {N : Nat} {bs : List Nat} {A B C : World} (h : Old N bs A B) (k : Ext B C) : Old N bs A C :=
  h.trans ⟨k.os, k.tape, k.output, k.size, fun i _ _ h3 => k.heap h3⟩
theorem Old.setCell {N : Nat} {bs : List Nat} {A B : World} (h : Old N bs A B) {p : Addr} (hp : p.block ∈ bs ∨ N ≤ p.block) (u : Value) : Old N bs A (B.setCell p u) :=
  h.trans ⟨rfl, rfl, rfl, by simp [World.setCell], fun i h1 h2 _ => Below.heap_setCell _ _ _ _ (by rintro rfl; rcases hp with hp | hp; exact h2 hp; omega)⟩
theorem Old.grown {N : Nat} {bs : List Nat} {A B C : World} {row : Option Nat} (h : Old N bs A B) (hg : B.grownBy C row) (hr : ∀ r, row = some r → N ≤ r) : Old N bs A C :=
  h.trans ⟨hg.os, hg.tape, hg.output, hg.size, fun i h1 _ h3 => hg.block i h3 (fun e => by have := hr i e.symm; omega)⟩
theorem Old.below {N : Nat} {bs : List Nat} {A B : World} (h : Old N bs A B) {M : Nat} (hM : M ≤ N) (hA : M ≤ A.heap.size) (hbs : ∀ b ∈ bs, M ≤ b) : Below M A B :=
  ⟨h.os, h.tape, h.output, h.size, fun k hk => h.block k (by omega) (fun hb => by have := hbs k hb; omega) (by omega)⟩
theorem Old.cell {N : Nat} {bs : List Nat} {A B : World} (h : Old N bs A B) {k o : Nat} {v : Value} (h1 : k < N) (h2 : k ∉ bs) (hc : A.cell? ⟨k, o, none⟩ = some v) : B.cell? ⟨k, o, none⟩ = some v :=
  (World.cell?_of_block (w := A) (a := ⟨k, o, none⟩) (h.block k h1 h2 (lt_of_cell hc))).trans hc
theorem Old.boxed {N : Nat} {bs : List Nat} {A B : World} (h : Old N bs A B) {k : Nat} {t : TypeId} {v : Value} (h1 : k < N) (h2 : k ∉ bs) (hc : Boxed A k t v) : Boxed B k t v :=
  (h.block k h1 h2 hc.lt).trans hc
theorem Old.putObj {N : Nat} {bs : List Nat} (W : World) (l : Nat) (o : Obj) (h : N ≤ l) : Old N bs W (W.putObj l o) :=
  ⟨rfl, rfl, rfl, by simp, fun k h1 _ _ => World.putObj_heap_other (by omega)⟩

/-- What a block of bookkeeping's change leaves: blocks of cells, and all below B. -/
structure Ag (B : Nat) (W W' : World) : Prop where
  os : W'.os = W.os
  tape : W'.tape = W.tape
  output : W'.output = W.output
  size : W.heap.size ≤ W'.heap.size
  low : ∀ k, k < B → k < W.heap.size → W'.heap[k]? = W.heap[k]?
  cells : ∀ (k : Nat) (o : Obj), W.heap[k]? = some o → o.isCells = true → W'.heap[k]? = some o
theorem ownFrom_of {β : Type} {B : Nat} {I : β → World → Prop} (h : ∀ s W W', Ag B W W' → I s W → I s W') : OwnFrom B I := by
  intro s W W' row hs hg hr
  refine h s W W' ⟨hg.os, hg.tape, hg.output, hg.size, fun k hk hlt => hg.block k hlt (fun e => by have := (hr k e.symm).1; omega), fun k o ho hc => ?_⟩ hs
  rw [hg.block k (Array.getElem?_eq_some_iff.1 ho).1 (fun e => by
    obtain ⟨_, o', ho', hc'⟩ := hr k e.symm
    rw [ho] at ho'
    cases ho'
    rw [hc] at hc'
    cases hc')]
  exact ho
theorem Ag.boxed {B : Nat} {W W' : World} (h : Ag B W W') {k : Nat} {t : TypeId} {v : Value} (hc : Boxed W k t v) : Boxed W' k t v := h.cells k _ hc rfl
theorem Ag.ownsRow {B : Nat} {W W' : World} (h : Ag B W W') {base : Nat} {e : TypeId} {size : Nat} {v : Value} {n : Nat} {xs : List Value} (k : W.ownsRow base e size v n xs) : W'.ownsRow base e size v n xs := by
  obtain ⟨h1, h2⟩ := k
  refine ⟨h1, ?_⟩
  rcases h2 with h2 | ⟨g, cap, cur, hv, hg, hh, r⟩
  · exact .inl h2
  · exact .inr ⟨g, cap, cur, hv, hg, h.cells g _ hh rfl, r⟩
theorem Ag.old {B N : Nat} {bs : List Nat} {A W W' : World} (h : Ag B W W') (k : Old N bs A W) (hN : N ≤ B) : Old N bs A W' :=
  k.trans ⟨h.os, h.tape, h.output, h.size, fun i h1 _ h3 => h.low i (by omega) h3⟩
theorem KeepsOthers.of_ext {W W' : World} (h : Ext W W') : KeepsOthers W W' := ⟨h.size, fun k o hk _ => (h.heap (Array.getElem?_eq_some_iff.1 hk).1).trans hk⟩
theorem grownBy_of_ext {W W' : World} (h : Ext W W') : W.grownBy W' none := ⟨h.os, h.tape, h.output, h.size, fun k hk _ => h.heap hk⟩
theorem Boxed.ext {W W' : World} (h : Ext W W') {k : Nat} {t : TypeId} {v : Value} (hc : Boxed W k t v) : Boxed W' k t v := (h.heap hc.lt).trans hc
theorem ownsRow_ext {a b : World} (h : Ext a b) {base : Nat} {e : TypeId} {size : Nat} {v : Value} {n : Nat} {xs : List Value} (k : a.ownsRow base e size v n xs) : b.ownsRow base e size v n xs := by
  obtain ⟨h1, h2⟩ := k
  refine ⟨h1, ?_⟩
  rcases h2 with h2 | ⟨g, cap, cur, hv, hg, hh, r⟩
  · exact .inl h2
  · exact .inr ⟨g, cap, cur, hv, hg, by rw [h.heap (Array.getElem?_eq_some_iff.1 hh).1]; exact hh, r⟩

/-- A contract is a contract inside every wide fence. -/
theorem inW {P : Program} {f : FuncId} {args : Array Value} {w : World} {R : Ending → World → Prop} (n : Nat) (h : Calls P f args w R) : CallsIn Fence.wide n P f args w R := callsIn_wide.2 h
theorem inR {P : Program} {f : FuncId} {args : Array Value} {w : World} {R : Ending → World → Prop} (l n : Nat) (h : Calls P f args w R) : CallsIn (Fence.wide.inRound l) n P f args w R := CallsIn.inRound l (callsIn_wide.2 h)

/-- A function value that yields the elements of a list, at whatever fence is wide: all of them, or a beginning, where a round says that it wants no more. The loop's body may know that what it is handed is an element of the list. -/
def Iter {α : Type} (P : Program) (gf : Nat) (lb : Array Value) (encs : α → Array Value) (Kp : World → World → Prop) (xs : List α) (w0 : World) : Prop :=
  ∀ n, 6 ≤ n → SeqStopsK Fence.wide n P gf lb (fun x : {x : α // x ∈ xs} => encs x.1) Kp (fun ys => ys.map (·.1) = xs) (fun pre => pre.map (·.1) <+: xs) xs.length w0

theorem wpListIn_append1 {F : Fence} {n : Nat} {P : Program} {ops : Array Oper} {rest : List Oper} {o : Oper} {a : Act} {Q : Exit → Act → World → Prop} (w0 : World) (e : TypeId) (news : List Value) (hgd : o.guard = none) (s x : Operand) (t : TypeId)
    (ho : o.op = .call { callee := .builtin .append, args := #[s, x], argTypes := #[t, t] })
    (base : Nat) (i : TypeInfo) (z : Value) (size bytes : Nat) (ht : P.underlying t = some (.slice e)) (hi : P.info? e = some i) (hz : i.zero = some z)
    (hsize : i.size = size) (hby : i.bytes = bytes) (hzs : z.cells.size = size) (hsz : 0 < size)
    (v : Value) (k : Nat) (xs : List Value) (hs : a.eval s = v) (hown : w0.ownsRow base e size v k xs)
    (c : Nat) (hx : a.eval x = .slice (some ⟨w0.heap.size, 0, none⟩) 1 c) (hl : news.length = size) (h1 : ∀ u ∈ news, u.oneCell' = true)
    (h63 : k + 1 ≤ 1099511627776) (hbytes : (k + 1) * bytes ≤ 140737488355328) (hbase : base ≤ w0.heap.size)
    (h : ∀ g cap w', w'.ownsRow base e size (.slice (some ⟨g, 0, none⟩) (k + 1) cap) (k + 1) (xs ++ news) → (w0.alloc (.cells news.toArray e)).grownBy w' v.ownBlock → (∀ r, v.ownBlock = some r → base ≤ r ∧ ∃ cur, w0.heap[r]? = some (.cells cur e (0, 0))) →
      wpListIn F n P ops Q rest (a.put o.dst (.slice (some ⟨g, 0, none⟩) (k + 1) cap)) w') : wpListIn F n P ops Q (o :: rest) a (w0.alloc (.cells news.toArray e)) := by
  refine wpListIn_append_own _ hgd s x t ho base e i z size bytes ht hi hz hsize hby hzs hsz v k xs hs (hown.alloc _) ⟨w0.heap.size, 0, none⟩ 1 c news hx (by omega) ?_ h1 (by unfold maxLen; omega) hbytes (by simp; omega) ?_
  · intro j u hj
    rw [addr_add0, World.cell?_alloc_mark]
    simpa using hj
  · intro v' w' hown' hgrow _
    obtain ⟨g', cap', rfl⟩ := ownsRow_succ hown'
    refine h g' cap' w' hown' hgrow ?_
    intro r hr
    rcases hown.2 with ⟨rfl, _⟩ | ⟨g, cap, cur, rfl, hb, hh, _⟩
    · simp [Value.ownBlock] at hr
    · simp [Value.ownBlock] at hr
      subst hr
      exact ⟨hb, cur, hh⟩
end Go.Proofs.YtdjcjkpodggdpaaGreatDoor
