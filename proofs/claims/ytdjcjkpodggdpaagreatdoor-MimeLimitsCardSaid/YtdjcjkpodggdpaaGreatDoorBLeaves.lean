/- mime.Leaves. -/
import Derived.Test.YtdjcjkpodggdpaaGreatDoorBCount
import Derived.Test.YtdjcjkpodggdpaaGreatDoorBPre
import Derived.Laws.OwnMore
namespace Go.Proofs.YtdjcjkpodggdpaaGreatDoor
open Go.RowKit
attribute [local go_sem] Oper.semAt_some

theorem PartAt.leaf {W : World} {S T : Nat → Prop} {q : PartT} {v : Value} (h : PartAt W S q v) (hl : isLeaf q = true) : PartAt W T q v := by
  cases q
  simp only [isLeaf, PartT.ps, List.isEmpty_iff] at hl
  subst hl
  simp only [PartAt] at h ⊢
  obtain ⟨af, nf, cf, ap, np, cp, aq, nq, cq, hv, hf, hp, hn, _⟩ := h
  exact ⟨af, nf, cf, ap, np, cp, aq, nq, cq, hv, hf, hp, hn, by simp⟩
mutual
theorem flatV_at {W : World} {S : Nat → Prop} : ∀ (q : PartT) (v : Value), PartAt W S q v → ∀ x ∈ flatV W q v, PartAt W S x.1 x.2
  | .mk f t p b ps, v, hq => by
    intro x hx
    simp only [flatV] at hx
    rcases List.mem_cons.1 hx with rfl | hx
    · exact hq
    · simp only [PartAt] at hq
      obtain ⟨af, nf, cf, ap, np, cp, aq, nq, cq, rfl, _, _, _, hq⟩ := hq
      rcases hq with rfl | ⟨b', o, xs, rfl, hb, _, hcells, hat⟩
      · simp only [flatsV] at hx
        cases hx
      · exact flatsV_at ps xs b' o hcells hat x hx
theorem flatsV_at {W : World} {S : Nat → Prop} : ∀ (qs : List PartT) (xs : List Value) (b o : Nat), (∀ i (hi : i < xs.length), W.cell? ⟨b, o + i, none⟩ = some (xs[i]'hi)) → CellsAt W S qs xs → ∀ x ∈ flatsV W qs b o, PartAt W S x.1 x.2
  | [], _, _, _, _, _ => by intro x hx; simp only [flatsV] at hx; cases hx
  | q :: qs, xs, b, o, hc, hq => by
    intro x hx
    simp only [CellsAt] at hq
    obtain ⟨v0, v1, v2, v3, v4, t, rfl, h1, h2⟩ := hq
    have c0 : W.cell? ⟨b, o, none⟩ = some v0 := hc 0 (by simp)
    have c1 : W.cell? ⟨b, o + 1, none⟩ = some v1 := hc 1 (by simp)
    have c2 : W.cell? ⟨b, o + 2, none⟩ = some v2 := hc 2 (by simp)
    have c3 : W.cell? ⟨b, o + 3, none⟩ = some v3 := hc 3 (by simp)
    have c4 : W.cell? ⟨b, o + 4, none⟩ = some v4 := hc 4 (by simp)
    have e2 : aggAt W b o = .agg #[v0, v1, v2, v3, v4] := by rw [aggAt, c0, c1, c2, c3, c4]; rfl
    simp only [flatsV, e2] at hx
    rcases List.mem_append.1 hx with hx | hx
    · exact flatV_at q _ h1 x hx
    · exact flatsV_at qs t b (o + 5) (fun i hi => by
        have := hc (i + 5) (by simp; omega)
        rw [show o + 5 + i = o + (i + 5) by omega, this]
        rfl) h2 x hx
end
mutual
theorem flatV_fst (W : World) : ∀ (q : PartT) (v : Value), (flatV W q v).map (·.1) = preB q
  | .mk f t p b ps, v => by simp only [flatV, preB, List.map_cons]; rw [flatsV_fst W ps]
theorem flatsV_fst (W : World) : ∀ (qs : List PartT) (b o : Nat), (flatsV W qs b o).map (·.1) = presB qs
  | [], _, _ => by simp only [flatsV, presB, List.map_nil]
  | q :: qs, b, o => by simp only [flatsV, presB, List.map_append]; rw [flatV_fst W q, flatsV_fst W qs]
end
theorem CellsAt.head {W : World} {S : Nat → Prop} {qs : List PartT} {xs : List Value} (h : CellsAt W S qs xs) (hne : qs ≠ []) : ∃ a n c, xs[0]? = some (.slice a n c) := by
  cases qs with
  | nil => exact absurd rfl hne
  | cons q qs =>
    simp only [CellsAt] at h
    obtain ⟨v0, v1, v2, v3, v4, tl, hx, hq0, _⟩ := h
    obtain ⟨af, nf, cf, ap, np, cp, aq, nq, cq, hv, _⟩ := hq0.open
    have hv0 : v0 = .slice af nf cf := by
      have := congrArg (fun v => match v with | Value.agg a => a[0]? | _ => none) hv
      simpa using this
    exact ⟨af, nf, cf, by rw [hx, hv0]; rfl⟩

/-- No block. -/
def NoB (_ : Nat) : Prop := False
/-- The leaves among what has come. -/
def lvOf {XS : List (PartT × Value)} (pre : List {x : PartT × Value // x ∈ XS}) : List PartT := (pre.map (·.1.1)).filter isLeaf
theorem lvOf_leaf {XS : List (PartT × Value)} (pre : List {x : PartT × Value // x ∈ XS}) (x : {x : PartT × Value // x ∈ XS}) (h : isLeaf x.1.1 = true) : lvOf (pre ++ [x]) = lvOf pre ++ [x.1.1] := by simp [lvOf, List.filter_cons, h]
theorem lvOf_no {XS : List (PartT × Value)} (pre : List {x : PartT × Value // x ∈ XS}) (x : {x : PartT × Value // x ∈ XS}) (h : isLeaf x.1.1 = false) : lvOf (pre ++ [x]) = lvOf pre := by simp [lvOf, List.filter_cons, h]
theorem lvOf_len {XS : List (PartT × Value)} (pre : List {x : PartT × Value // x ∈ XS}) : (lvOf pre).length ≤ pre.length := by
  unfold lvOf
  exact Nat.le_trans (List.length_filter_le _ _) (by simp)
/-- Between two rounds of Leaves. -/
def LvInv (N b1 : Nat) (W0 : World) {XS : List (PartT × Value)} (pre : List {x : PartT × Value // x ∈ XS}) (W : World) : Prop :=
  ∃ v xs, Boxed W b1 25 v ∧ W.ownsRow N 27 5 v (lvOf pre).length xs ∧ CellsAt W NoB (lvOf pre) xs ∧ (lvOf pre = [] → v = .slice none 0 0) ∧ Old N [b1] W0 W ∧ Keep NoB W0 W
theorem Ag.keep {B : Nat} {W W' : World} {S : Nat → Prop} (h : Ag B W W') : Keep S W W' := by
  have key : ∀ k o v, W.cell? ⟨k, o, none⟩ = some v → W'.cell? ⟨k, o, none⟩ = some v := by
    intro k o v hc
    obtain ⟨ob, hob, hcl⟩ := cells_of_cell hc
    exact (World.cell?_of_block (w := W) (a := ⟨k, o, none⟩) ((h.cells k ob hob hcl).trans hob.symm)).trans hc
  exact ⟨fun k o v _ _ hc => key k o v hc, fun k s _ o v hc => key k o v hc⟩
theorem LvInv.abides {N b1 B : Nat} {W0 : World} {XS : List (PartT × Value)} (hB : N ≤ B) : ∀ (pre : List {x : PartT × Value // x ∈ XS}) W W', Ag B W W' → LvInv N b1 W0 pre W → LvInv N b1 W0 pre W' := by
  rintro pre W W' h ⟨v, xs, h1, h2, h3, h4, h5, h6⟩
  exact ⟨v, xs, h.boxed h1, h.ownsRow h2, CellsAt.keep h.keep _ _ h3, h4, h.old h5 hB, h6.trans h.keep⟩
theorem LvInv.ext {N b1 : Nat} {W0 W W' : World} {XS : List (PartT × Value)} {pre : List {x : PartT × Value // x ∈ XS}} (x : Ext W W') (h : LvInv N b1 W0 pre W) : LvInv N b1 W0 pre W' := by
  obtain ⟨v, xs, h1, h2, h3, h4, h5, h6⟩ := h
  exact ⟨v, xs, Boxed.ext x h1, ownsRow_ext x h2, CellsAt.keep (Ext.keep x) _ _ h3, h4, h5.ext x, h6.trans (Ext.keep x)⟩
/-- What lies in the box and in its row. -/
theorem OkB.row {N b1 : Nat} {W : World} {t : TypeId} {v : Value} {S : Nat → Prop} {qs : List PartT} {xs : List Value} (h : Boxed W b1 t v) (ho : W.ownsRow N 27 5 v qs.length xs) (hc : CellsAt W S qs xs) (h0 : qs = [] → v = .slice none 0 0) : OkB b1 W := by
  refine ⟨t, v, h, ?_, fun g hg => ?_⟩
  · obtain ⟨a, c, rfl⟩ := ownsRow_slice ho
    intro l e
    cases e
  · have hne : qs ≠ [] := by
      intro e
      rw [h0 e] at hg
      simp [Value.ownBlock] at hg
    obtain ⟨a, n, c, hx⟩ := hc.head hne
    have hcell := ho.cells hg 0 _ hx
    rw [addr_add0] at hcell
    exact ⟨cells_of_cell hcell, fun s e => by rw [hcell] at e; cases e⟩
/-- A leaf has been appended: the box and the row are stored, in whatever order. -/
theorem LvInv.step {N b1 : Nat} {W0 W w5 w6 : World} {XS : List (PartT × Value)} {pre : List {x : PartT × Value // x ∈ XS}} {v : Value} {xs : List Value} {x : {x : PartT × Value // x ∈ XS}} {v0 v1 v2 v3 v4 : Value} {g cap : Nat} {Wa : World}
    (h1 : Boxed W b1 25 v) (h2 : W.ownsRow N 27 5 v (lvOf pre).length xs) (h3 : CellsAt W NoB (lvOf pre) xs) (h4 : lvOf pre = [] → v = .slice none 0 0) (h5 : Old N [b1] W0 W) (h6 : Keep NoB W0 W) (hW0 : N ≤ W0.heap.size)
    (hl : isLeaf x.1.1 = true) (hp : PartAt W0 NoB x.1.1 (.agg #[v0, v1, v2, v3, v4]))
    (xa : Ext W Wa) (hgrow : Wa.grownBy w5 v.ownBlock) (hat : v.ownBlock = some g ∨ W.heap.size ≤ g)
    (hsz : w6.heap.size = w5.heap.size) (hos : w6.os = w5.os) (htp : w6.tape = w5.tape) (hout : w6.output = w5.output) (hblk : ∀ k, k ≠ b1 → k ≠ g → w6.heap[k]? = w5.heap[k]?)
    (hbox : Boxed w6 b1 25 (.slice (some ⟨g, 0, none⟩) ((lvOf pre).length + 1) cap)) (hown : w6.ownsRow N 27 5 (.slice (some ⟨g, 0, none⟩) ((lvOf pre).length + 1) cap) ((lvOf pre).length + 1) (xs ++ [v0, v1, v2, v3, v4])) (B : Nat) :
    KeepsFrom B W w6 ∧ (OkB b1 W → KpB N b1 W w6) ∧ LvInv N b1 W0 (pre ++ [x]) w6 := by
  have hxs := xa.size
  have hgs := hgrow.size
  have same : ∀ k, k < W.heap.size → k ≠ b1 → v.ownBlock ≠ some k → w6.heap[k]? = W.heap[k]? := by
    intro k hk hne hno
    have hkg : k ≠ g := by
      rintro rfl
      rcases hat with hat | hat
      · exact hno hat
      · omega
    exact (hblk k hne hkg).trans ((hgrow.block k (by omega) (fun e => hno e.symm)).trans (xa.heap hk))
  have hokW : OkB b1 W := OkB.row h1 h2 h3 h4
  have hcs : KeepsOthers W w6 := by
    refine ⟨by omega, fun k o hk hc => ?_⟩
    refine (same k (Array.getElem?_eq_some_iff.1 hk).1 ?_ ?_).trans hk
    · rintro rfl
      rw [show W.heap[k]? = _ from h1] at hk
      cases hk
      simp [Obj.isCells] at hc
    · intro e
      obtain ⟨t, v', hb, _, hg2⟩ := hokW
      have hvv : v' = v := by have := hb.cell; rw [h1.cell] at this; cases this; rfl
      subst hvv
      obtain ⟨⟨ob, hob, hcl⟩, _⟩ := hg2 k e
      rw [hk] at hob
      cases hob
      rw [hc] at hcl
      cases hcl
  have K : Keep NoB W w6 := by
    refine ⟨fun _ _ _ hf => hf.elim, fun k s hs o u hc => ?_⟩
    have hk := lt_of_cell hs
    refine (World.cell?_of_block (w := W) (a := ⟨k, o, none⟩) (same k hk ?_ ?_)).trans hc
    · rintro rfl
      rw [h1.cell] at hs
      cases hs
      obtain ⟨a, c, hv⟩ := ownsRow_slice h2
      cases hv
    · intro e
      have := hokW.own (g := k) (by rw [ownAt, h1.cell]; exact e)
      exact this.2 s hs
  have hcells : CellsAt w6 NoB (lvOf (pre ++ [x])) (xs ++ [v0, v1, v2, v3, v4]) := by
    rw [lvOf_leaf pre x hl]
    exact CellsAt.snoc (PartAt.keep (h6.trans K) _ _ hp) (CellsAt.keep K _ _ h3)
  have hown2 : w6.ownsRow N 27 5 (.slice (some ⟨g, 0, none⟩) ((lvOf pre).length + 1) cap) (lvOf (pre ++ [x])).length (xs ++ [v0, v1, v2, v3, v4]) := by
    rw [lvOf_leaf pre x hl, List.length_append]; exact hown
  have hne : lvOf (pre ++ [x]) ≠ [] := by rw [lvOf_leaf pre x hl]; simp
  have hos1 : w6.os = W.os := hos.trans (hgrow.os.trans xa.os)
  have htp1 : w6.tape = W.tape := htp.trans (hgrow.tape.trans xa.tape)
  have hout1 : w6.output = W.output := hout.trans (hgrow.output.trans xa.output)
  refine ⟨hcs.from _, fun _ => ⟨hos1, htp1, hout1, by omega, fun k o hk hno ho _ => ?_, ?_, fun _ => OkB.row hbox hown2 hcells (fun e => absurd e hne)⟩, _, _, hbox, hown2, hcells, fun e => absurd e hne, ?_, h6.trans K⟩
  · rw [ownAt, h1.cell] at hno
    exact (same k (Array.getElem?_eq_some_iff.1 ho).1 hk hno).trans ho
  · rw [ownAt, ownAt, h1.cell, hbox.cell]
    rcases hat with hat | hat
    · exact .inl hat.symm
    · exact .inr ⟨g, rfl, hat⟩
  · refine h5.trans ⟨hos1, htp1, hout1, by omega, fun k hk hb hlt => same k hlt (by simpa using hb) (fun e => ?_)⟩
    have := (h2.lt k e).1
    omega
/-- Five cells are stored from a place on. -/
def put5a (W : World) (A o : Nat) (v0 v1 v2 v3 v4 : Value) : World := ((((W.setCell ⟨A, o, none⟩ v0).setCell ⟨A, o + 1, none⟩ v1).setCell ⟨A, o + 2, none⟩ v2).setCell ⟨A, o + 3, none⟩ v3).setCell ⟨A, o + 4, none⟩ v4
theorem put5a_other (W : World) (A o : Nat) (v0 v1 v2 v3 v4 : Value) (k : Nat) (hk : k ≠ A) : (put5a W A o v0 v1 v2 v3 v4).heap[k]? = W.heap[k]? :=
  (Below.heap_setCell _ ⟨A, o + 4, none⟩ v4 k hk).trans ((Below.heap_setCell _ ⟨A, o + 3, none⟩ v3 k hk).trans ((Below.heap_setCell _ ⟨A, o + 2, none⟩ v2 k hk).trans ((Below.heap_setCell _ ⟨A, o + 1, none⟩ v1 k hk).trans (Below.heap_setCell _ ⟨A, o, none⟩ v0 k hk))))

theorem setCell_os (W : World) (p : Addr) (u : Value) : (W.setCell p u).os = W.os := rfl
theorem setCell_tape (W : World) (p : Addr) (u : Value) : (W.setCell p u).tape = W.tape := rfl
theorem setCell_output (W : World) (p : Addr) (u : Value) : (W.setCell p u).output = W.output := rfl
theorem setCell_size (W : World) (p : Addr) (u : Value) : (W.setCell p u).heap.size = W.heap.size := by simp [World.setCell]
theorem put5a_os (W : World) (A o : Nat) (v0 v1 v2 v3 v4 : Value) : (put5a W A o v0 v1 v2 v3 v4).os = W.os := by rw [put5a, setCell_os, setCell_os, setCell_os, setCell_os, setCell_os]
theorem put5a_tape (W : World) (A o : Nat) (v0 v1 v2 v3 v4 : Value) : (put5a W A o v0 v1 v2 v3 v4).tape = W.tape := by rw [put5a, setCell_tape, setCell_tape, setCell_tape, setCell_tape, setCell_tape]
theorem put5a_output (W : World) (A o : Nat) (v0 v1 v2 v3 v4 : Value) : (put5a W A o v0 v1 v2 v3 v4).output = W.output := by rw [put5a, setCell_output, setCell_output, setCell_output, setCell_output, setCell_output]
theorem put5a_size (W : World) (A o : Nat) (v0 v1 v2 v3 v4 : Value) : (put5a W A o v0 v1 v2 v3 v4).heap.size = W.heap.size := by rw [put5a, setCell_size, setCell_size, setCell_size, setCell_size, setCell_size]
/-- What a round that appends a leaf needs and leaves. -/
theorem leaf_round {N b1 : Nat} {W0 W w5 : World} {XS : List (PartT × Value)} {pre : List {x : PartT × Value // x ∈ XS}} {v : Value} {xs : List Value} {x : {x : PartT × Value // x ∈ XS}} {v0 v1 v2 v3 v4 : Value} {g cap : Nat} {Wa : World}
    (h1 : Boxed W b1 25 v) (h2 : W.ownsRow N 27 5 v (lvOf pre).length xs) (h3 : CellsAt W NoB (lvOf pre) xs) (h4 : lvOf pre = [] → v = .slice none 0 0) (h5 : Old N [b1] W0 W) (h6 : Keep NoB W0 W) (hW0 : N ≤ W0.heap.size) (hb1 : b1 < N)
    (hl : isLeaf x.1.1 = true) (hp : PartAt W0 NoB x.1.1 (.agg #[v0, v1, v2, v3, v4]))
    (xa : Ext W Wa) (hgrow : Wa.grownBy w5 v.ownBlock) (hat : v.ownBlock = some g ∨ W.heap.size ≤ g)
    (hown5 : w5.ownsRow N 27 5 (.slice (some ⟨g, 0, none⟩) ((lvOf pre).length + 1) cap) ((lvOf pre).length + 1) (xs ++ [.slice none 0 0, .string ⟨#[]⟩, .slice none 0 0, .string ⟨#[]⟩, .slice none 0 0])) (B : Nat) :
    N ≤ g ∧ (∀ i u, [Value.slice none 0 0, .string ⟨#[]⟩, .slice none 0 0, .string ⟨#[]⟩, .slice none 0 0][i]? = some u → w5.cell? ⟨g, (lvOf pre).length * 5 + i, none⟩ = some u) ∧ (∀ i, w5.frozen? ⟨g, i, none⟩ = false) ∧ Boxed w5 b1 25 v ∧
    (KeepsFrom B W ((put5a w5 g ((lvOf pre).length * 5) v0 v1 v2 v3 v4).setCell ⟨b1, 0, none⟩ (.slice (some ⟨g, 0, none⟩) ((lvOf pre).length + 1) cap)) ∧ (OkB b1 W → KpB N b1 W ((put5a w5 g ((lvOf pre).length * 5) v0 v1 v2 v3 v4).setCell ⟨b1, 0, none⟩ (.slice (some ⟨g, 0, none⟩) ((lvOf pre).length + 1) cap))) ∧
      LvInv N b1 W0 (pre ++ [x]) ((put5a w5 g ((lvOf pre).length * 5) v0 v1 v2 v3 v4).setCell ⟨b1, 0, none⟩ (.slice (some ⟨g, 0, none⟩) ((lvOf pre).length + 1) cap))) ∧
    (KeepsFrom B W (put5a (w5.setCell ⟨b1, 0, none⟩ (.slice (some ⟨g, 0, none⟩) ((lvOf pre).length + 1) cap)) g ((lvOf pre).length * 5) v0 v1 v2 v3 v4) ∧ (OkB b1 W → KpB N b1 W (put5a (w5.setCell ⟨b1, 0, none⟩ (.slice (some ⟨g, 0, none⟩) ((lvOf pre).length + 1) cap)) g ((lvOf pre).length * 5) v0 v1 v2 v3 v4)) ∧
      LvInv N b1 W0 (pre ++ [x]) (put5a (w5.setCell ⟨b1, 0, none⟩ (.slice (some ⟨g, 0, none⟩) ((lvOf pre).length + 1) cap)) g ((lvOf pre).length * 5) v0 v1 v2 v3 v4)) := by
  have hgb : N ≤ g := (hown5.lt g rfl).1
  have hxl : xs.length = (lvOf pre).length * 5 := h2.1
  have Zc : ∀ i u, [Value.slice none 0 0, .string ⟨#[]⟩, .slice none 0 0, .string ⟨#[]⟩, .slice none 0 0][i]? = some u → w5.cell? ⟨g, (lvOf pre).length * 5 + i, none⟩ = some u := by
    intro i u hu
    have hi5 : i < 5 := (List.getElem?_eq_some_iff.1 hu).1
    rw [hown5.cellAt ((lvOf pre).length * 5 + i) (by omega), ← hxl, List.getElem?_append_right (by omega), Nat.add_sub_cancel_left]
    exact hu
  have hlt1 := h1.lt
  have hxs := xa.size
  have hno5 : some b1 ≠ v.ownBlock := fun e => by have := (h2.lt b1 e.symm).1; omega
  have B5 : Boxed w5 b1 25 v := (hgrow.block b1 (by omega) hno5).trans (Boxed.ext xa h1)
  have hdl : (((((xs ++ [Value.slice none 0 0, .string ⟨#[]⟩, .slice none 0 0, .string ⟨#[]⟩, .slice none 0 0]).set ((lvOf pre).length * 5) v0).set ((lvOf pre).length * 5 + 1) v1).set ((lvOf pre).length * 5 + 2) v2).set ((lvOf pre).length * 5 + 3) v3).set ((lvOf pre).length * 5 + 4) v4 = xs ++ [v0, v1, v2, v3, v4] := by
    rw [← hxl]
    simp [List.set_append_right]
  have five : ∀ (w9 : World), w9.ownsRow N 27 5 (.slice (some ⟨g, 0, none⟩) ((lvOf pre).length + 1) cap) ((lvOf pre).length + 1) (xs ++ [Value.slice none 0 0, .string ⟨#[]⟩, .slice none 0 0, .string ⟨#[]⟩, .slice none 0 0]) →
      (put5a w9 g ((lvOf pre).length * 5) v0 v1 v2 v3 v4).ownsRow N 27 5 (.slice (some ⟨g, 0, none⟩) ((lvOf pre).length + 1) cap) ((lvOf pre).length + 1) (xs ++ [v0, v1, v2, v3, v4]) := by
    intro w9 h9
    have := (((((h9.stored ((lvOf pre).length * 5) v0).1.stored ((lvOf pre).length * 5 + 1) v1).1.stored ((lvOf pre).length * 5 + 2) v2).1.stored ((lvOf pre).length * 5 + 3) v3).1.stored ((lvOf pre).length * 5 + 4) v4).1
    rw [hdl] at this
    exact this
  have hs : ∀ (w9 : World), (put5a w9 g ((lvOf pre).length * 5) v0 v1 v2 v3 v4).heap.size = w9.heap.size ∧ (put5a w9 g ((lvOf pre).length * 5) v0 v1 v2 v3 v4).os = w9.os ∧ (put5a w9 g ((lvOf pre).length * 5) v0 v1 v2 v3 v4).tape = w9.tape ∧ (put5a w9 g ((lvOf pre).length * 5) v0 v1 v2 v3 v4).output = w9.output ∧
      ∀ k, k ≠ g → (put5a w9 g ((lvOf pre).length * 5) v0 v1 v2 v3 v4).heap[k]? = w9.heap[k]? := fun w9 => ⟨put5a_size _ _ _ _ _ _ _ _, put5a_os _ _ _ _ _ _ _ _, put5a_tape _ _ _ _ _ _ _ _, put5a_output _ _ _ _ _ _ _ _, fun k hk => put5a_other _ _ _ _ _ _ _ _ k hk⟩
  generalize put5a = P5 at hs five ⊢
  obtain ⟨s, hsv⟩ : ∃ s, s = Value.slice (some ⟨g, 0, none⟩) ((lvOf pre).length + 1) cap := ⟨_, rfl⟩
  have hsc : ∀ (w9 : World), (w9.setCell ⟨b1, 0, none⟩ s).heap.size = w9.heap.size ∧ (w9.setCell ⟨b1, 0, none⟩ s).os = w9.os ∧ (w9.setCell ⟨b1, 0, none⟩ s).tape = w9.tape ∧ (w9.setCell ⟨b1, 0, none⟩ s).output = w9.output ∧
      ∀ k, k ≠ b1 → (w9.setCell ⟨b1, 0, none⟩ s).heap[k]? = w9.heap[k]? := fun w9 => ⟨by simp [World.setCell], rfl, rfl, rfl, fun k hk => Below.heap_setCell _ ⟨b1, 0, none⟩ _ k hk⟩
  have key : ∀ w6 : World, w6.heap.size = w5.heap.size → w6.os = w5.os → w6.tape = w5.tape → w6.output = w5.output → (∀ k, k ≠ b1 → k ≠ g → w6.heap[k]? = w5.heap[k]?) → Boxed w6 b1 25 s →
      w6.ownsRow N 27 5 s ((lvOf pre).length + 1) (xs ++ [v0, v1, v2, v3, v4]) → KeepsFrom B W w6 ∧ (OkB b1 W → KpB N b1 W w6) ∧ LvInv N b1 W0 (pre ++ [x]) w6 := by
    intro w6 e1 e2 e3 e4 e5 e6 e7
    subst hsv
    exact LvInv.step h1 h2 h3 h4 h5 h6 hW0 hl hp xa hgrow hat e1 e2 e3 e4 e5 e6 e7 B
  have hbelow : ∀ w9 : World, w9.ownsRow N 27 5 s ((lvOf pre).length + 1) (xs ++ [v0, v1, v2, v3, v4]) → (w9.setCell ⟨b1, 0, none⟩ s).ownsRow N 27 5 s ((lvOf pre).length + 1) (xs ++ [v0, v1, v2, v3, v4]) := fun w9 h => ownsRow_setCell_below h (a := ⟨b1, 0, none⟩) hb1 s
  have hown9 : (w5.setCell ⟨b1, 0, none⟩ s).ownsRow N 27 5 s ((lvOf pre).length + 1) (xs ++ [.slice none 0 0, .string ⟨#[]⟩, .slice none 0 0, .string ⟨#[]⟩, .slice none 0 0]) := by subst hsv; exact ownsRow_setCell_below hown5 (a := ⟨b1, 0, none⟩) hb1 _
  have hset : ∀ w9 : World, Boxed w9 b1 25 v → Boxed (w9.setCell ⟨b1, 0, none⟩ s) b1 25 s := fun w9 h => Boxed.set s h
  rw [← hsv] at five hown5 ⊢
  obtain ⟨a1, a2, a3, a4, a5⟩ := hs w5
  obtain ⟨c1, c2, c3, c4, c5⟩ := hsc (P5 w5 g ((lvOf pre).length * 5) v0 v1 v2 v3 v4)
  obtain ⟨d1, d2, d3, d4, d5⟩ := hsc w5
  obtain ⟨f1, f2, f3, f4, f5⟩ := hs (w5.setCell ⟨b1, 0, none⟩ s)
  have hne : b1 ≠ g := by omega
  have r1 := key (w6 := (P5 w5 g ((lvOf pre).length * 5) v0 v1 v2 v3 v4).setCell ⟨b1, 0, none⟩ s) (c1.trans a1) (c2.trans a2) (c3.trans a3) (c4.trans a4) (fun k k1 k2 => (c5 k k1).trans (a5 k k2)) (hset _ ((a5 b1 hne).trans B5)) (hbelow _ (five w5 hown5))
  have r2 := key (w6 := P5 (w5.setCell ⟨b1, 0, none⟩ s) g ((lvOf pre).length * 5) v0 v1 v2 v3 v4) (f1.trans d1) (f2.trans d2) (f3.trans d3) (f4.trans d4) (fun k k1 k2 => (f5 k k2).trans (d5 k k1)) ((f5 b1 hne).trans (hset w5 B5)) (five _ hown9)
  have r0 : ∀ i, w5.frozen? ⟨g, i, none⟩ = false := fun i => by subst hsv; exact hown5.frozenAt i
  exact ⟨hgb, Zc, r0, B5, r1, r2⟩
end Go.Proofs.YtdjcjkpodggdpaaGreatDoor
