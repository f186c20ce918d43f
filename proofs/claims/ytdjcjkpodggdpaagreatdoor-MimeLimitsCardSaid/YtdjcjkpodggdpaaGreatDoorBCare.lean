/- What a loop over the parts keeps whose body changes one box, and the row that the slice in the box owns. -/
import Derived.Test.YtdjcjkpodggdpaaGreatDoorBAll
namespace Go.Proofs.YtdjcjkpodggdpaaGreatDoor
open Go.RowKit

/-- The row of the slice in a box. -/
def ownAt (W : World) (b1 : Nat) : Option Nat := match W.cell? ⟨b1, 0, none⟩ with | some v => v.ownBlock | none => none
def OkB (b1 : Nat) (W : World) : Prop := ∃ t v, Boxed W b1 t v ∧ (∀ l, v ≠ vstr l) ∧ ∀ g, v.ownBlock = some g → (∃ ob, W.heap[g]? = some ob ∧ ob.isCells = true) ∧ ∀ s, W.cell? ⟨g, 0, none⟩ ≠ some (vstr s)
def GoodB (N0 b1 : Nat) (W : World) (k : Nat) : Prop := k ≠ b1 ∧ ownAt W b1 ≠ some k ∧ (k < N0 ∨ ∃ o, W.heap[k]? = some o ∧ o.isCells = true)
structure KpB (N0 b1 : Nat) (W W' : World) : Prop where
  os : W'.os = W.os
  tape : W'.tape = W.tape
  output : W'.output = W.output
  size : W.heap.size ≤ W'.heap.size
  block : ∀ k o, k ≠ b1 → ownAt W b1 ≠ some k → W.heap[k]? = some o → (o.isCells = true ∨ k < N0) → W'.heap[k]? = some o
  own : ownAt W' b1 = ownAt W b1 ∨ ∃ g, ownAt W' b1 = some g ∧ W.heap.size ≤ g
  ok : OkB b1 W → OkB b1 W'
theorem OkB.lt {b1 : Nat} {W : World} (h : OkB b1 W) : b1 < W.heap.size := by obtain ⟨t, v, hb, _⟩ := h; exact hb.lt
theorem OkB.own {b1 : Nat} {W : World} (h : OkB b1 W) {g : Nat} (hg : ownAt W b1 = some g) : g < W.heap.size ∧ ∀ s, W.cell? ⟨g, 0, none⟩ ≠ some (vstr s) := by
  obtain ⟨t, v, hb, _, h2⟩ := h
  obtain ⟨⟨ob, h3, _⟩, h4⟩ := h2 g (by simpa [ownAt, hb.cell] using hg)
  exact ⟨(Array.getElem?_eq_some_iff.1 h3).1, h4⟩
theorem ownAt_ext {b1 : Nat} {W W' : World} (x : Ext W W') (h : b1 < W.heap.size) : ownAt W' b1 = ownAt W b1 := by rw [ownAt, ownAt, x.cell h]
theorem OkB.ext {b1 : Nat} {W W' : World} (x : Ext W W') (h : OkB b1 W) : OkB b1 W' := by
  obtain ⟨t, v, hb, h1, h2⟩ := h
  refine ⟨t, v, Boxed.ext x hb, h1, fun g hg => ?_⟩
  obtain ⟨⟨ob, h3, h5⟩, h4⟩ := h2 g hg
  have hlt := (Array.getElem?_eq_some_iff.1 h3).1
  exact ⟨⟨ob, (x.heap hlt).trans h3, h5⟩, fun s hs => h4 s (by rwa [x.cell hlt] at hs)⟩
theorem cells_of_cell {W : World} {k o : Nat} {v : Value} (h : W.cell? ⟨k, o, none⟩ = some v) : ∃ ob, W.heap[k]? = some ob ∧ ob.isCells = true := by
  simp only [World.cell?] at h
  cases hk : W.heap[k]? with
  | none => rw [hk] at h; simp at h
  | some ob =>
    rw [hk] at h
    refine ⟨ob, rfl, ?_⟩
    cases ob <;> simp_all [Obj.isCells]
theorem KpB.trans {N0 b1 : Nat} {A B C : World} (h : KpB N0 b1 A B) (k : KpB N0 b1 B C) (hA : OkB b1 A) : KpB N0 b1 A C where
  os := k.os.trans h.os
  tape := k.tape.trans h.tape
  output := k.output.trans h.output
  size := Nat.le_trans h.size k.size
  block := fun j o h1 h2 h3 h4 => k.block j o h1 (by
    have hj := (Array.getElem?_eq_some_iff.1 h3).1
    rcases h.own with e | ⟨g, e, hg⟩
    · rw [e]; exact h2
    · rw [e]; intro e2; cases e2; omega) (h.block j o h1 h2 h3 h4) h4
  own := by
    rcases k.own with e | ⟨g, e, hg⟩
    · rw [e]; exact h.own
    · exact .inr ⟨g, e, Nat.le_trans h.size hg⟩
  ok := fun hok => k.ok (h.ok hok)
theorem KpB.of_ext {N0 b1 : Nat} {W W' : World} (x : Ext W W') (hok : OkB b1 W) : KpB N0 b1 W W' where
  os := x.os
  tape := x.tape
  output := x.output
  size := x.size
  block := fun j o _ _ h _ => (x.heap (Array.getElem?_eq_some_iff.1 h).1).trans h
  own := .inl (ownAt_ext x hok.lt)
  ok := fun h => h.ext x
/-- A relation that asks its own premise. -/
theorem cares_b (N0 b1 : Nat) : Cares (OkB b1) (GoodB N0 b1) (fun W W' => OkB b1 W → KpB N0 b1 W W') where
  trans := fun h k hA => (h hA).trans (k ((h hA).ok hA)) hA
  ext := fun x hok => KpB.of_ext x hok
  ok := fun h hok => (h hok).ok hok
  good := by
    intro W W' k h hok hg hk
    have hK := h hok
    obtain ⟨h1, h2, h3⟩ := hg
    obtain ⟨o, ho⟩ : ∃ o, W.heap[k]? = some o := ⟨_, Array.getElem?_eq_getElem hk⟩
    have hs := hK.block k o h1 h2 ho (by
      rcases h3 with h3 | ⟨o', ho', hc⟩
      · exact .inr h3
      · rw [ho] at ho'; cases ho'; exact .inl hc)
    refine ⟨⟨h1, ?_, ?_⟩, by rw [hs, ho]⟩
    · rcases hK.own with e | ⟨g, e, hg⟩
      · rw [e]; exact h2
      · rw [e]; intro e2; cases e2; omega
    · rcases h3 with h3 | ⟨o', ho', hc⟩
      · exact .inl h3
      · rw [ho] at ho'; cases ho'; exact .inr ⟨_, hs, hc⟩
  fresh := by
    intro W W' k cs t z hok x hk hc
    refine ⟨fun e => by have := hok.lt; omega, ?_, .inr ⟨_, hc, rfl⟩⟩
    rw [ownAt_ext x hok.lt]
    intro e
    have := (hok.own e).1
    omega
  keep := by
    intro W W' h hok
    have hK := h hok
    refine ⟨fun k o v hg _ hc => ?_, fun k s h1 o v hc => ?_⟩
    · obtain ⟨ob, hob, hcl⟩ := cells_of_cell hc
      exact (World.cell?_of_block (w := W) (a := ⟨k, o, none⟩) ((hK.block k ob hg.1 hg.2.1 hob (.inl hcl)).trans hob.symm)).trans hc
    · obtain ⟨ob, hob, hcl⟩ := cells_of_cell hc
      refine (World.cell?_of_block (w := W) (a := ⟨k, o, none⟩) ((hK.block k ob ?_ ?_ hob (.inl hcl)).trans hob.symm)).trans hc
      · rintro rfl
        obtain ⟨t, v', hb, hn, _⟩ := hok
        rw [hb.cell] at h1
        cases h1
        exact hn _ rfl
      · intro e
        exact (hok.own e).2 s h1
end Go.Proofs.YtdjcjkpodggdpaaGreatDoor
