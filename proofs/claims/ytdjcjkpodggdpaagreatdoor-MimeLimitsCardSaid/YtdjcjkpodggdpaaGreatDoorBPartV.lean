/- Words for the contract of (*reader).part. -/
import Derived.Test.YtdjcjkpodggdpaaGreatDoorBPart
import Derived.Deep.AppendLies
import Derived.Deep.RegionLaw
namespace Go.Proofs.YtdjcjkpodggdpaaGreatDoor
open Go.RowKit
attribute [local go_sem] Oper.semAt_some

theorem foldl_paramStep_many : ∀ (l : List (List UInt8)) (out : List (List UInt8 × List UInt8)), (l.foldl paramStep out).length ≤ out.length + l.length := by
  intro l
  induction l with
  | nil => intro out; simp
  | cons x t ih =>
    intro out
    have h1 := ih (paramStep out x)
    have h2 : (paramStep out x).length ≤ out.length + 1 := by
      simp only [paramStep]
      split <;> simp
    simp only [List.foldl_cons, List.length_cons]
    omega
theorem paramsB_many (l : List UInt8) : (paramsB l).2.length ≤ (piecesB l).length := by
  have := foldl_paramStep_many ((piecesB l).drop 1) []
  simp only [List.length_nil, List.length_drop] at this
  simp only [paramsB]
  omega
theorem Tryz.info33d : (Tryz.prog.info? 33).map (fun i => (i.zero, i.size, i.bytes)) = some (some (.agg #[.string ByteArray.empty, .string ByteArray.empty]), 2, 32) := by kernel_rfl
theorem keptB_snoc (fs : List (List UInt8 × List UInt8)) (k : Nat) (hk : k < fs.length) : keptB (fs.take (k + 1)) = if isMimeB fs[k].1 then keptB (fs.take k) else keptB (fs.take k) ++ [fs[k]] := by
  rw [keptB, List.take_succ_eq_append_getElem hk, List.filter_append]
  cases h : isMimeB fs[k].1 <;> simp [keptB, h]

theorem paramsB_len (l : List UInt8) : (paramsB l).1.length ≤ l.length := by
  simp only [paramsB]
  refine Nat.le_trans (trimB_len _) ?_
  cases h : piecesB l with
  | nil => simp
  | cons x t => exact (piecesB_le l).1 x (by rw [h]; simp)
/-- A block that holds a part. -/
def Five (W : World) (B : Nat) (v0 v1 v2 v3 v4 : Value) : Prop := W.heap[B]? = some (.cells #[v0, v1, v2, v3, v4] 27 (0, 0))
theorem Five.cell0 {W : World} {B : Nat} {v0 v1 v2 v3 v4 : Value} (h : Five W B v0 v1 v2 v3 v4) : W.cell? ⟨B, 0, none⟩ = some v0 := by rw [Lib.cell_of_heap h]; rfl
theorem Five.cell1 {W : World} {B : Nat} {v0 v1 v2 v3 v4 : Value} (h : Five W B v0 v1 v2 v3 v4) : W.cell? ⟨B, 1, none⟩ = some v1 := by rw [Lib.cell_of_heap h]; rfl
theorem Five.cell2 {W : World} {B : Nat} {v0 v1 v2 v3 v4 : Value} (h : Five W B v0 v1 v2 v3 v4) : W.cell? ⟨B, 2, none⟩ = some v2 := by rw [Lib.cell_of_heap h]; rfl
theorem Five.cell3 {W : World} {B : Nat} {v0 v1 v2 v3 v4 : Value} (h : Five W B v0 v1 v2 v3 v4) : W.cell? ⟨B, 3, none⟩ = some v3 := by rw [Lib.cell_of_heap h]; rfl
theorem Five.cell4 {W : World} {B : Nat} {v0 v1 v2 v3 v4 : Value} (h : Five W B v0 v1 v2 v3 v4) : W.cell? ⟨B, 4, none⟩ = some v4 := by rw [Lib.cell_of_heap h]; rfl
theorem Five.frozen {W : World} {B : Nat} {v0 v1 v2 v3 v4 : Value} (h : Five W B v0 v1 v2 v3 v4) (o : Nat) : W.frozen? ⟨B, o, none⟩ = false := by
  have h' : W.heap[B]? = _ := h
  simp [World.frozen?, h']
theorem Five.lt {W : World} {B : Nat} {v0 v1 v2 v3 v4 : Value} (h : Five W B v0 v1 v2 v3 v4) : B < W.heap.size := (Array.getElem?_eq_some_iff.1 h).1
theorem Five.ext {W W' : World} (x : Ext W W') {B : Nat} {v0 v1 v2 v3 v4 : Value} (h : Five W B v0 v1 v2 v3 v4) : Five W' B v0 v1 v2 v3 v4 := (x.heap h.lt).trans h
theorem setCell_heap (W : World) (B o : Nat) (v : Value) {cs : Array Value} {t : TypeId} (h : W.heap[B]? = some (.cells cs t (0, 0))) : (W.setCell ⟨B, o, none⟩ v).heap[B]? = some (.cells (cs.setIfInBounds o v) t (0, 0)) := by
  obtain ⟨hlt, hk⟩ := Array.getElem?_eq_some_iff.1 h
  show (W.heap.modify B _)[B]? = _
  rw [Array.getElem?_eq_getElem (by rw [Array.size_modify]; exact hlt), Array.getElem_modify_self, hk]
  rfl
theorem Five.set0 {W : World} {B : Nat} {v0 v1 v2 v3 v4 : Value} (h : Five W B v0 v1 v2 v3 v4) (u : Value) : Five (W.setCell ⟨B, 0, none⟩ u) B u v1 v2 v3 v4 := setCell_heap W B 0 u h
theorem Five.set1 {W : World} {B : Nat} {v0 v1 v2 v3 v4 : Value} (h : Five W B v0 v1 v2 v3 v4) (u : Value) : Five (W.setCell ⟨B, 1, none⟩ u) B v0 u v2 v3 v4 := setCell_heap W B 1 u h
theorem Five.set2 {W : World} {B : Nat} {v0 v1 v2 v3 v4 : Value} (h : Five W B v0 v1 v2 v3 v4) (u : Value) : Five (W.setCell ⟨B, 2, none⟩ u) B v0 v1 u v3 v4 := setCell_heap W B 2 u h
theorem Five.set3 {W : World} {B : Nat} {v0 v1 v2 v3 v4 : Value} (h : Five W B v0 v1 v2 v3 v4) (u : Value) : Five (W.setCell ⟨B, 3, none⟩ u) B v0 v1 v2 u v4 := setCell_heap W B 3 u h
theorem Five.set4 {W : World} {B : Nat} {v0 v1 v2 v3 v4 : Value} (h : Five W B v0 v1 v2 v3 v4) (u : Value) : Five (W.setCell ⟨B, 4, none⟩ u) B v0 v1 v2 v3 u := setCell_heap W B 4 u h
theorem Five.other {W : World} {B B' : Nat} {v0 v1 v2 v3 v4 : Value} (h : Five W B v0 v1 v2 v3 v4) (hne : B ≠ B') (o : Nat) (u : Value) : Five (W.setCell ⟨B', o, none⟩ u) B v0 v1 v2 v3 v4 := (Below.heap_setCell W ⟨B', o, none⟩ u B hne).trans h

theorem Five.keep {W : World} {B o : Nat} {S : Nat → Prop} {a : Option Addr} {k c : Nat} {v1 v2 v3 v4 : Value} (h : Five W B (.slice a k c) v1 v2 v3 v4) (hn : ¬ S B) (u : Value) : Keep S W (W.setCell ⟨B, o, none⟩ u) := by
  have hh : ∀ j p, j ≠ B → (W.setCell ⟨B, o, none⟩ u).cell? ⟨j, p, none⟩ = W.cell? ⟨j, p, none⟩ := fun j p hj => World.cell?_of_block (w := W) (a := ⟨j, p, none⟩) (Below.heap_setCell W ⟨B, o, none⟩ u j hj)
  refine ⟨fun j p v hj _ hc => (hh j p (fun e => hn (e ▸ hj))).trans hc, fun j s h1 p v hc => (hh j p ?_).trans hc⟩
  rintro rfl
  rw [h.cell0] at h1
  cases h1
theorem boxed_other {W : World} {r A : Nat} {t : TypeId} {u : Value} (h : Boxed W r t u) (hne : r ≠ A) (o : Nat) (v : Value) : Boxed (W.setCell ⟨A, o, none⟩ v) r t u := (Below.heap_setCell W ⟨A, o, none⟩ v r hne).trans h
theorem secGo_le (s b : List UInt8) : ∀ (x : List (List UInt8 × Nat × Nat)) (op : Option Nat), ∀ y ∈ secGo s b x op, y.length ≤ s.length := by
  have hfl : ∀ a op, ∀ y ∈ flushB s a op, y.length ≤ s.length := by
    intro a op y hy
    cases op with
    | none => simp [flushB] at hy
    | some o => simp only [flushB, List.mem_singleton] at hy; subst hy; simp [sub]; omega
  intro x
  induction x with
  | nil =>
    intro op y hy
    cases op with
    | none => simp [secGo] at hy
    | some o => simp only [secGo, List.mem_singleton] at hy; subst hy; simp
  | cons x t ih =>
    intro op y hy
    simp only [secGo] at hy
    split at hy
    · rcases List.mem_append.1 hy with hy | hy
      · exact hfl _ _ y hy
      · split at hy
        · simp at hy
        · exact ih _ y hy
    · exact ih _ y hy
theorem divideB_le (ty : List UInt8) (ps : List (List UInt8 × List UInt8)) (c : List UInt8) : ∀ y ∈ (divideB ty ps c).1, y.length ≤ c.length := by
  intro y hy
  unfold divideB at hy
  split at hy
  · simp only [List.mem_singleton] at hy; subst hy; exact Nat.le_refl _
  · split at hy
    · simp at hy
    · exact secGo_le _ _ _ _ y hy
theorem divideB_len (ty : List UInt8) (ps : List (List UInt8 × List UInt8)) (c : List UInt8) : (divideB ty ps c).1.length ≤ c.length + 1 := by
  unfold divideB
  split
  · simp
  · split
    · simp
    · exact sectionsB_len _ _
theorem strs_slice {W : World} {v : Value} {l : List (List UInt8)} (h : Strs0 W v l) : ∃ a c, v = .slice a l.length c := by
  rcases h with ⟨rfl, a, c, rfl⟩ | ⟨_, b, c, rfl, _⟩
  · exact ⟨_, _, rfl⟩
  · exact ⟨_, _, rfl⟩
theorem pairs_slice {W : World} {v : Value} {l : List (List UInt8 × List UInt8)} (h : Pairs0 W v l) : ∃ a n c, v = .slice a n c := by
  rcases h with ⟨rfl, a, c, rfl⟩ | ⟨_, b, c, rfl, _⟩
  · exact ⟨_, _, _, rfl⟩
  · exact ⟨_, _, _, rfl⟩
/-- Five cells are stored. -/
def put5 (W : World) (A : Nat) (v0 v1 v2 v3 v4 : Value) : World := ((((W.setCell ⟨A, 0, none⟩ v0).setCell ⟨A, 1, none⟩ v1).setCell ⟨A, 2, none⟩ v2).setCell ⟨A, 3, none⟩ v3).setCell ⟨A, 4, none⟩ v4
theorem put5_five {W : World} {A : Nat} {u0 u1 u2 u3 u4 : Value} (h : Five W A u0 u1 u2 u3 u4) (v0 v1 v2 v3 v4 : Value) : Five (put5 W A v0 v1 v2 v3 v4) A v0 v1 v2 v3 v4 := ((((h.set0 v0).set1 v1).set2 v2).set3 v3).set4 v4
theorem put5_keep {W : World} {A : Nat} {S : Nat → Prop} {a d : Option Addr} {k c l e : Nat} {v1 v2 v3 v4 u1 u2 u3 u4 : Value} (h : Five W A (.slice a k c) v1 v2 v3 v4) (hn : ¬ S A) :
    Keep S W (put5 W A (.slice d l e) u1 u2 u3 u4) :=
  (((((h.keep hn _).trans ((h.set0 _).keep hn _)).trans (((h.set0 _).set1 _).keep hn _)).trans ((((h.set0 _).set1 _).set2 _).keep hn _)).trans (((((h.set0 _).set1 _).set2 _).set3 _).keep hn _))
theorem put5_boxed {W : World} {A r : Nat} {t : TypeId} {u : Value} (v0 v1 v2 v3 v4 : Value) (h : Boxed W r t u) (hne : r ≠ A) : Boxed (put5 W A v0 v1 v2 v3 v4) r t u := by
  have key : ∀ (W : World) (o : Nat) (v : Value), Boxed W r t u → Boxed (W.setCell ⟨A, o, none⟩ v) r t u := fun W o v h => (Below.heap_setCell W ⟨A, o, none⟩ v r hne).trans h
  exact key _ _ _ (key _ _ _ (key _ _ _ (key _ _ _ (key _ _ _ h))))
theorem put5_old {w W : World} {A N : Nat} {bs : List Nat} (v0 v1 v2 v3 v4 : Value) (h : Old N bs w W) (hA : N ≤ A) : Old N bs w (put5 W A v0 v1 v2 v3 v4) :=
  ((((h.setCell (p := ⟨A, 0, none⟩) (.inr hA) v0).setCell (p := ⟨A, 1, none⟩) (.inr hA) v1).setCell (p := ⟨A, 2, none⟩) (.inr hA) v2).setCell (p := ⟨A, 3, none⟩) (.inr hA) v3).setCell (p := ⟨A, 4, none⟩) (.inr hA) v4

theorem keep_num_set {S : Nat → Prop} {r : Nat} {W : World} {t : TypeId} {k : IntKind} {x : Int} (hr : Boxed W r t (.int k x)) (u : Value) : Keep S W (W.setCell ⟨r, 0, none⟩ u) :=
  keep_of_num hr fun b o _ hne hc => (World.cell?_of_block (w := W) (a := ⟨b, o, none⟩) (Below.heap_setCell W ⟨r, 0, none⟩ u b hne)).trans hc
theorem own_other {W W' : World} {base : Nat} {e : TypeId} {size : Nat} {v : Value} {k : Nat} {xs : List Value} (h : W.ownsRow base e size v k xs) (hb : ∀ g cur, base ≤ g → W.heap[g]? = some (.cells cur e (0, 0)) → W'.heap[g]? = W.heap[g]?) : W'.ownsRow base e size v k xs := by
  obtain ⟨h1, h2⟩ := h
  refine ⟨h1, ?_⟩
  rcases h2 with h2 | ⟨g, cap, cur, hv, hg, hh, r⟩
  · exact .inl h2
  · exact .inr ⟨g, cap, cur, hv, hg, (hb g cur hg hh).trans hh, r⟩

/-- The blocks of the children's rows: beyond B, and none of them v's own. -/
def Apart (B : Nat) (v : Value) : Nat → Prop := fun b => B + 1 ≤ b ∧ v.ownBlock ≠ some b
def From (n : Nat) : Nat → Prop := fun b => n ≤ b
/-- Between two rounds of the loop over the texts. -/
structure LInv (g : List UInt8 → Nat → Option (PartT × Nat)) (w : World) (r B : Nat) (L : List (List UInt8)) (kf RS : List (List UInt8 × List UInt8)) (ty : List UInt8) (ka la ra : Option Addr) (kn kc ln lc rn rc : Nat) (QS : List PartT) (k2 j k : Nat) (qs rest : List PartT) (va : Option Addr) (vn vc : Nat) (xs : List Value) (wr : World) : Prop where
  pw : partsWith g (L.drop j) k = some (rest, k2)
  eq : QS = qs ++ rest
  len : qs.length = j
  k300 : k ≤ 300
  five : Five wr B (.slice ka kn kc) (vstr ty) (.slice ra rn rc) (vstr []) (.slice va vn vc)
  own : wr.ownsRow (B + 1) 27 5 (.slice va vn vc) qs.length xs
  first : qs = [] → va = none
  cells : CellsAt wr (Apart B (.slice va vn vc)) qs xs
  box : Boxed wr r 37 (.int .i64 k)
  old : Old w.heap.size [r] w wr
  strs : Strs0 wr (.slice la ln lc) L
  pk : Pairs0 wr (.slice ka kn kc) kf
  pr : Pairs0 wr (.slice ra rn rc) RS
  fa : Five wr w.heap.size (.slice none 0 0) (vstr []) (.slice none 0 0) (vstr []) (.slice none 0 0)
/-- Behind the call of a round. -/
theorem LInv.called {g : List UInt8 → Nat → Option (PartT × Nat)} {w : World} {r B : Nat} {L : List (List UInt8)} {kf RS : List (List UInt8 × List UInt8)} {ty : List UInt8} {ka la ra : Option Addr} {kn kc ln lc rn rc : Nat} {QS : List PartT} {k2 j k : Nat} {qs rest : List PartT} {va : Option Addr} {vn vc : Nat} {xs : List Value} {wr : World}
    (h : LInv g w r B L kf RS ty ka la ra kn kc ln lc rn rc QS k2 j k qs rest va vn vc xs wr) (hrA : r < w.heap.size) (hAB : w.heap.size < B) {w4 : World} (ho : Old wr.heap.size [r] wr w4) {k1 : Nat} (hb : Boxed w4 r 37 (.int .i64 k1)) (hk1 : k1 ≤ 300) {q1 : PartT} {rest1 : List PartT} (hpw : partsWith g (L.drop (j + 1)) k1 = some (rest1, k2)) (hr : rest = q1 :: rest1)
    {a0 a2 a4 : Option Addr} {n0 c0 n2 c2 n4 c4 : Nat} {t1 b3 : List UInt8} (hp : PartAt w4 (From wr.heap.size) q1 (.agg #[.slice a0 n0 c0, vstr t1, .slice a2 n2 c2, vstr b3, .slice a4 n4 c4])) :
    Five w4 B (.slice ka kn kc) (vstr ty) (.slice ra rn rc) (vstr []) (.slice va vn vc) ∧ w4.ownsRow (B + 1) 27 5 (.slice va vn vc) qs.length xs ∧ B + 1 ≤ w4.heap.size ∧
    ∀ (g' cap : Nat) (w5 : World), w5.ownsRow (B + 1) 27 5 (.slice (some ⟨g', 0, none⟩) (qs.length + 1) cap) (qs.length + 1) (xs ++ [.slice a0 n0 c0, vstr t1, .slice a2 n2 c2, vstr b3, .slice a4 n4 c4]) →
      (w4.alloc (.cells #[.slice a0 n0 c0, vstr t1, .slice a2 n2 c2, vstr b3, .slice a4 n4 c4] 27)).grownBy w5 (Value.slice va vn vc).ownBlock → ((Value.slice va vn vc).ownBlock = some g' ∨ g' = w4.heap.size + 1) →
      Five w5 B (.slice ka kn kc) (vstr ty) (.slice ra rn rc) (vstr []) (.slice va vn vc) ∧ LInv g w r B L kf RS ty ka la ra kn kc ln lc rn rc QS k2 (j + 1) k1 (qs ++ [q1]) rest1 (some ⟨g', 0, none⟩) (qs.length + 1) cap (xs ++ [.slice a0 n0 c0, vstr t1, .slice a2 n2 c2, vstr b3, .slice a4 n4 c4]) (w5.setCell ⟨B, 4, none⟩ (.slice (some ⟨g', 0, none⟩) (qs.length + 1) cap)) := by
  have hB : B < wr.heap.size := h.five.lt
  have blk : ∀ b, b ≠ r → b < wr.heap.size → w4.heap[b]? = wr.heap[b]? := fun b hne hlt => ho.block b hlt (by simpa using hne) hlt
  have F4 : Five w4 B (.slice ka kn kc) (vstr ty) (.slice ra rn rc) (vstr []) (.slice va vn vc) := (blk B (by omega) hB).trans h.five
  have own4 : w4.ownsRow (B + 1) 27 5 (.slice va vn vc) qs.length xs := own_other h.own fun g cur hg hh => blk g (by omega) (Array.getElem?_eq_some_iff.1 hh).1
  have k4 : ∀ S, Keep S wr w4 := fun S => ho.keep (Nat.le_refl _) h.box
  have hs4 := ho.size
  have xs4 := CellsAt.keep (k4 (Apart B (.slice va vn vc))) _ _ h.cells
  refine ⟨F4, own4, by omega, fun g' cap w5 hown hgrow hat => ?_⟩
  obtain ⟨w4a, hw4a⟩ : ∃ w4a, w4a = w4.alloc (.cells #[.slice a0 n0 c0, vstr t1, .slice a2 n2 c2, vstr b3, .slice a4 n4 c4] 27) := ⟨_, rfl⟩
  have x4a : Ext w4 w4a := by rw [hw4a]; exact (Ext.refl w4).alloc _
  have s4a : w4a.heap.size = w4.heap.size + 1 := by rw [hw4a]; simp
  rw [← hw4a] at hgrow
  have hown_lt := h.own.lt
  have hne5 : ∀ b, b < B + 1 → (some b : Option Nat) ≠ (Value.slice va vn vc).ownBlock := by
    intro b hb e
    have := (hown_lt b e.symm).1
    omega
  have F5 : Five w5 B (.slice ka kn kc) (vstr ty) (.slice ra rn rc) (vstr []) (.slice va vn vc) := (hgrow.block B (by omega) (hne5 B (by omega))).trans (F4.ext x4a)
  -- what the append keeps
  have k45 : Keep (Apart B (.slice va vn vc)) w4 w5 := by
    refine ⟨fun b o v hS _ hc => ?_, fun b s h1 o v hc => ?_⟩
    · exact (World.cell?_of_block (w := w4a) (a := ⟨b, o, none⟩) (hgrow.block b (by have := lt_of_cell hc; omega) (fun e => hS.2 e.symm))).trans (x4a.holds hc)
    · refine (World.cell?_of_block (w := w4a) (a := ⟨b, o, none⟩) (hgrow.block b (by have := lt_of_cell hc; omega) (fun e => ?_))).trans (x4a.holds hc)
      -- the own row begins with a slice
      have hqs : qs ≠ [] := by
        intro hq
        have := h.first hq
        subst this
        simp [Value.ownBlock] at e
      cases hxs : qs with
      | nil => exact hqs hxs
      | cons q0 qs0 =>
        have hcx := xs4
        rw [hxs] at hcx
        simp only [CellsAt] at hcx
        obtain ⟨v0, v1, v2, v3, v4, tl, hx, hq0, _⟩ := hcx
        obtain ⟨af, nf, cf, ap, np, cp, aq, nq, cq, hv, _⟩ := hq0.open
        have hv0 : v0 = .slice af nf cf := by
          have := congrArg (fun v => match v with | Value.agg a => a[0]? | _ => none) hv
          simpa using this
        have hcell := own4.cells e.symm 0 v0 (by rw [hx]; rfl)
        rw [addr_add0] at hcell
        rw [hcell, hv0] at h1
        cases h1
  have K : Keep (Apart B (.slice va vn vc)) w4 (w5.setCell ⟨B, 4, none⟩ (.slice (some ⟨g', 0, none⟩) (qs.length + 1) cap)) := k45.trans (F5.keep (fun hS => by have := hS.1; omega) _)
  have KW : Keep (Apart B (.slice va vn vc)) wr (w5.setCell ⟨B, 4, none⟩ (.slice (some ⟨g', 0, none⟩) (qs.length + 1) cap)) := (k4 _).trans K
  have hle5 : w4a.heap.size ≤ w5.heap.size := hgrow.size
  have low : ∀ b, b < B + 1 → b ≠ B → b < w4.heap.size → (w5.setCell ⟨B, 4, none⟩ (.slice (some ⟨g', 0, none⟩) (qs.length + 1) cap)).heap[b]? = w4.heap[b]? := fun b hb hnB hlt =>
    (Below.heap_setCell w5 ⟨B, 4, none⟩ _ b hnB).trans ((hgrow.block b (by omega) (hne5 b hb)).trans (x4a.heap hlt))
  refine ⟨F5, ?_⟩
  have hpa : PartAt w4 (Apart B (.slice va vn vc)) q1 (.agg #[.slice a0 n0 c0, vstr t1, .slice a2 n2 c2, vstr b3, .slice a4 n4 c4]) := PartAt.mono (fun b _ hb => ⟨by have : wr.heap.size ≤ b := hb; omega, fun e => by have := (hown_lt b e).2; have : wr.heap.size ≤ b := hb; omega⟩) _ _ hp
  have hcs := CellsAt.snoc hpa xs4
  -- none of the children's rows is the new own block
  have hcs2 : CellsAt w4 (Apart B (.slice (some ⟨g', 0, none⟩) (qs.length + 1) cap)) (qs ++ [q1]) (xs ++ [.slice a0 n0 c0, vstr t1, .slice a2 n2 c2, vstr b3, .slice a4 n4 c4]) := CellsAt.mono (fun b hlt hb => ⟨hb.1, fun e => by
    have e' : g' = b := by simpa [Value.ownBlock] using e
    rcases hat with hat | hat
    · exact hb.2 (by rw [hat, e'])
    · omega⟩) _ _ hcs
  have hgB : B + 1 ≤ g' := by
    have := (hown.lt g' (by simp [Value.ownBlock])).1
    exact this
  exact {
    pw := hpw
    eq := by rw [h.eq, hr, List.append_assoc]; rfl
    len := by simp [h.len]
    k300 := hk1
    five := F5.set4 _
    own := by
      have := ownsRow_setCell_below hown (a := ⟨B, 4, none⟩) (by show B < _; omega) (.slice (some ⟨g', 0, none⟩) (qs.length + 1) cap)
      simpa using this
    first := by intro hq; simp at hq
    cells := by
      have h1 := CellsAt.mono (T := fun b => Apart B (.slice va vn vc) b ∧ Apart B (.slice (some ⟨g', 0, none⟩) (qs.length + 1) cap) b) (fun b hlt hb => ⟨hb, hb.1, fun e => by
        have e' : g' = b := by simpa [Value.ownBlock] using e
        rcases hat with hat | hat
        · exact hb.2 (by rw [hat, e'])
        · omega⟩) _ _ hcs
      have h2 := CellsAt.keep (K.mono (T := fun b => Apart B (.slice va vn vc) b ∧ Apart B (.slice (some ⟨g', 0, none⟩) (qs.length + 1) cap) b) (fun b hb => hb.1)) _ _ h1
      exact CellsAt.mono (fun b _ hb => hb.2) _ _ h2
    box := (low r (by omega) (by omega) hb.lt).trans hb
    old := by
      have o1 : Old w.heap.size [r] w w4 := h.old.trans ⟨ho.os, ho.tape, ho.output, ho.size, fun k h1 h2 h3 => ho.block k (by omega) h2 h3⟩
      refine (((o1.ext x4a).grown hgrow fun r' e => ?_).setCell (p := ⟨B, 4, none⟩) (.inr (show w.heap.size ≤ B by omega)) _)
      have := (hown_lt r' e).1
      omega
    strs := h.strs.keep KW
    pk := h.pk.keep KW
    pr := h.pr.keep KW
    fa := (low _ (by omega) (by omega) (by have := h.fa.lt; omega)).trans ((blk _ (by omega) h.fa.lt).trans h.fa) }
end Go.Proofs.YtdjcjkpodggdpaaGreatDoor
