/- The parts of a tree in the order of mime.all, with their values. -/
import Derived.Test.YtdjcjkpodggdpaaGreatDoorBDepth
namespace Go.Proofs.YtdjcjkpodggdpaaGreatDoor
open Go.RowKit

/-- The value of five cells. -/
def aggAt (W : World) (b o : Nat) : Value :=
  .agg #[(W.cell? ⟨b, o, none⟩).getD undef, (W.cell? ⟨b, o + 1, none⟩).getD undef, (W.cell? ⟨b, o + 2, none⟩).getD undef, (W.cell? ⟨b, o + 3, none⟩).getD undef, (W.cell? ⟨b, o + 4, none⟩).getD undef]
/-- Where a part's row of parts begins. -/
def rowOf : Value → Nat × Nat
  | .agg a => match (a[4]? : Option Value) with
    | some (.slice (some p) _ _) => (p.block, p.off)
    | _ => (0, 0)
  | _ => (0, 0)
mutual
def flatV (W : World) : PartT → Value → List (PartT × Value)
  | .mk f t p b ps, v => (.mk f t p b ps, v) :: flatsV W ps (rowOf v).1 (rowOf v).2
def flatsV (W : World) : List PartT → Nat → Nat → List (PartT × Value)
  | [], _, _ => []
  | q :: qs, b, o => flatV W q (aggAt W b o) ++ flatsV W qs b (o + 5)
end
theorem flatV_ps (W : World) (q : PartT) (v : Value) : flatV W q v = (q, v) :: flatsV W q.ps (rowOf v).1 (rowOf v).2 := by cases q; simp only [flatV, PartT.ps]
theorem flatV_len (W : World) : ∀ (n : Nat) (q : PartT) (v : Value), countB q ≤ n → (flatV W q v).length = countB q := by
  intro n
  induction n with
  | zero => intro q v h; rw [countB_ps] at h; omega
  | succ n ih =>
    intro q v h
    rw [flatV_ps, countB_ps, List.length_cons]
    have : ∀ (qs : List PartT) (b o : Nat), (∀ x ∈ qs, x ∈ q.ps) → (flatsV W qs b o).length = countsB qs := by
      intro qs
      induction qs with
      | nil => intro b o _; simp only [flatsV, countsB, List.length_nil]
      | cons x qs ih2 =>
        intro b o hm
        simp only [flatsV, countsB, List.length_append]
        rw [ih x _ (by have := countB_mem (hm x (by simp)); omega), ih2 _ _ (fun y hy => hm y (by simp [hy]))]
    rw [this q.ps _ _ (fun x hx => hx)]
theorem flatsV_snoc (W : World) (q : PartT) : ∀ (qs : List PartT) (b o : Nat), flatsV W (qs ++ [q]) b o = flatsV W qs b o ++ flatV W q (aggAt W b (o + qs.length * 5)) := by
  intro qs
  induction qs with
  | nil => intro b o; simp [flatsV]
  | cons x qs ih =>
    intro b o
    simp only [List.cons_append, flatsV, ih, List.append_assoc, List.length_cons]
    rw [show o + 5 + qs.length * 5 = o + (qs.length + 1) * 5 by omega]
/-- The value of a child. -/
theorem CellsAt.agg {W : World} {S : Nat → Prop} {qs : List PartT} {xs : List Value} (h : CellsAt W S qs xs) {b o : Nat} (hc : ∀ i (hi : i < xs.length), W.cell? ⟨b, o + i, none⟩ = some (xs[i]'hi)) (k : Nat) (hk : k < qs.length) :
    ∃ v0 v1 v2 v3 v4, aggAt W b (o + k * 5) = .agg #[v0, v1, v2, v3, v4] ∧ W.cell? ⟨b, o + k * 5, none⟩ = some v0 ∧ W.cell? ⟨b, o + k * 5 + 1, none⟩ = some v1 ∧ W.cell? ⟨b, o + k * 5 + 2, none⟩ = some v2 ∧ W.cell? ⟨b, o + k * 5 + 3, none⟩ = some v3 ∧ W.cell? ⟨b, o + k * 5 + 4, none⟩ = some v4 ∧ PartAt W S qs[k] (.agg #[v0, v1, v2, v3, v4]) := by
  obtain ⟨v0, v1, v2, v3, v4, e0, e1, e2, e3, e4, hq⟩ := CellsAt.at h k hk
  have key : ∀ i u, xs[i]? = some u → W.cell? ⟨b, o + i, none⟩ = some u := by
    intro i u hu
    obtain ⟨hi, rfl⟩ := List.getElem?_eq_some_iff.1 hu
    exact hc i hi
  have c0 := key _ _ e0
  have c1 : W.cell? ⟨b, o + k * 5 + 1, none⟩ = some v1 := by rw [Nat.add_assoc]; exact key _ _ e1
  have c2 : W.cell? ⟨b, o + k * 5 + 2, none⟩ = some v2 := by rw [Nat.add_assoc]; exact key _ _ e2
  have c3 : W.cell? ⟨b, o + k * 5 + 3, none⟩ = some v3 := by rw [Nat.add_assoc]; exact key _ _ e3
  have c4 : W.cell? ⟨b, o + k * 5 + 4, none⟩ = some v4 := by rw [Nat.add_assoc]; exact key _ _ e4
  exact ⟨v0, v1, v2, v3, v4, by rw [aggAt, c0, c1, c2, c3, c4]; rfl, c0, c1, c2, c3, c4, hq⟩
end Go.Proofs.YtdjcjkpodggdpaaGreatDoor
