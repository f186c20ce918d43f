/- The contract of header.Parse. -/
import Derived.Test.YtdjcjkpodggdpaaGreatDoorALines
namespace Go.Proofs.YtdjcjkpodggdpaaGreatDoor
open Go.RowKit
attribute [local go_sem] Oper.semAt_some

/-- The last field with more text. -/
def setLast (out : List (List UInt8 × List UInt8)) (more : List UInt8) : List (List UInt8 × List UInt8) :=
  match out.getLast? with
  | none => out
  | some x => out.dropLast ++ [(x.1, trimB (x.2 ++ [32] ++ more))]
def addMore (out : List (List UInt8 × List UInt8)) (more : List UInt8) : List (List UInt8 × List UInt8) := if more.isEmpty then out else setLast out more
/-- header.Parse over the lines. -/
def parseGo (len : Nat) : List (List UInt8 × Nat) → List (List UInt8 × List UInt8) → Nat → List (List UInt8 × List UInt8) × Nat
  | [], out, _ => (out, len)
  | x :: t, out, beg =>
    match x.1 with
    | [] => (out, x.2)
    | c :: _ =>
      if c = 32 ∨ c = 9 then
        if out.isEmpty then (out, beg) else parseGo len t (addMore out (trimB x.1)) x.2
      else if (cut1 58 x.1).1.length < x.1.length ∧ namedB (cut1 58 x.1).1 = true ∧ out.length < 400 then parseGo len t (out ++ [((cut1 58 x.1).1, trimB (cut1 58 x.1).2.1)]) x.2
      else (out, beg)
def parseB (l : List UInt8) : List (List UInt8 × List UInt8) × Nat := parseGo l.length (linesB l) [] 0

/-- The built-in append under a name of its own, so that a step of a drawn region can be met by its law. -/
def appendS (ats : Array TypeId) (ty : TypeId) (args : Array Value) : Sem Value := Builtin.append_ ats ty args
theorem builtin_append_s (ats : Array TypeId) (ty : TypeId) (cs : Array Bool) (args : Array Value) : builtin .append ats ty cs args = (do pure (.value (← appendS ats ty args))) := rfl
theorem linesGo_mem : ∀ (l cur : List UInt8) (a : Nat) (x), x ∈ linesGo l cur a → x.1.length ≤ cur.length + l.length ∧ x.2 ≤ a + l.length := by
  intro l
  induction l with
  | nil =>
    intro cur a x hx
    simp only [linesGo] at hx
    split at hx
    · simp at hx
    · simp only [List.mem_singleton] at hx
      subst hx
      simp only [stripB, Lib.trimSuffix]
      split <;> simp
  | cons c t ih =>
    intro cur a x hx
    simp only [linesGo] at hx
    split at hx
    · rcases List.mem_cons.1 hx with rfl | hx
      · simp only [stripB, Lib.trimSuffix]
        split <;> simp <;> omega
      · have := ih _ _ x hx
        simp at this ⊢
        omega
    · have := ih _ _ x hx
      simp at this ⊢
      omega
theorem linesB_mem {l : List UInt8} {x} (h : x ∈ linesB l) : x.1.length ≤ l.length ∧ x.2 ≤ l.length := by simpa using linesGo_mem l [] 0 x h
theorem linesGo_len : ∀ (l cur : List UInt8) (a : Nat), (linesGo l cur a).length ≤ l.length + (if cur.isEmpty then 0 else 1) := by
  intro l
  induction l with
  | nil => intro cur a; simp only [linesGo]; split <;> simp
  | cons c t ih =>
    intro cur a
    simp only [linesGo]
    split
    · have := ih [] (a + 1); simp at this ⊢; omega
    · have := ih (cur ++ [c]) (a + 1); simp at this ⊢; split <;> omega

theorem Tryz.info33 : (Tryz.prog.info? 33).map (fun i => (i.zero, i.size, i.bytes)) = some (some (.agg #[.string ByteArray.empty, .string ByteArray.empty]), 2, 32) := by kernel_rfl

/-- What the loop of header.Parse keeps between two rounds. -/
def PInv (l : List UInt8) (b : Nat) (W0 : World) (pre : List {x : List UInt8 × Nat // x ∈ linesB l}) (W : World) : Prop :=
  ∃ (v : Value) (out : List (List UInt8 × List UInt8)) (beg : Nat), (∀ rest, parseGo l.length (pre.map (·.1) ++ rest) [] 0 = parseGo l.length rest out beg) ∧ out.length ≤ 400 ∧
    (∀ x ∈ out, x.1.length ≤ l.length ∧ x.2.length ≤ (l.length + 1) * pre.length) ∧ beg ≤ l.length ∧
    Boxed W (b + 1 + 1) 23 v ∧ W.ownsRow (b + 1 + 1 + 1 + 1 + 1) 33 2 v out.length (pairCells out) ∧ Boxed W (b + 1 + 1 + 1) 3 (.int .i64 beg) ∧
    Boxed W b 23 (.slice none 0 0) ∧ Boxed W (b + 1) 3 (.int .i64 0) ∧ Old (b + 1 + 1 + 1 + 1 + 1) [b, b + 1, b + 1 + 1, b + 1 + 1 + 1] W0 W
/-- What it leaves where it returns from within. -/
def PEnd (l : List UInt8) (b : Nat) (W0 : World) (c : Code) (pre : List {x : List UInt8 × Nat // x ∈ linesB l}) (W : World) : Prop :=
  c = .ret ∧ ∃ (v : Value) (out : List (List UInt8 × List UInt8)) (beg : Nat), (∀ rest, parseGo l.length (pre.map (·.1) ++ rest) [] 0 = (out, beg)) ∧
    Boxed W b 23 v ∧ W.ownsRow (b + 1 + 1 + 1 + 1 + 1) 33 2 v out.length (pairCells out) ∧ Boxed W (b + 1) 3 (.int .i64 beg) ∧ Old (b + 1 + 1 + 1 + 1 + 1) [b, b + 1, b + 1 + 1, b + 1 + 1 + 1] W0 W
theorem PInv.abides {l : List UInt8} {b B : Nat} {W0 : World} (hB : b + 1 + 1 + 1 + 1 + 1 ≤ B) : ∀ pre W W', Ag B W W' → PInv l b W0 pre W → PInv l b W0 pre W' := by
  rintro pre W W' h ⟨v, out, beg, h1, h2, h3, h4, h5, h6, h7, h8, h9, h10⟩
  exact ⟨v, out, beg, h1, h2, h3, h4, h.boxed h5, h.ownsRow h6, h.boxed h7, h.boxed h8, h.boxed h9, h.old h10 hB⟩
theorem PEnd.abides {l : List UInt8} {b B : Nat} {W0 : World} (hB : b + 1 + 1 + 1 + 1 + 1 ≤ B) (c : Code) : ∀ pre W W', Ag B W W' → PEnd l b W0 c pre W → PEnd l b W0 c pre W' := by
  rintro pre W W' h ⟨hc, v, out, beg, h1, h5, h6, h7, h10⟩
  exact ⟨hc, v, out, beg, h1, h.boxed h5, h.ownsRow h6, h.boxed h7, h.old h10 hB⟩

theorem PInv.ext {l : List UInt8} {b : Nat} {W0 : World} {pre} {W W' : World} (h : PInv l b W0 pre W) (x : Ext W W') : PInv l b W0 pre W' := by
  obtain ⟨v, out, beg, h1, h2, h3, h4, h5, h6, h7, h8, h9, h10⟩ := h
  exact ⟨v, out, beg, h1, h2, h3, h4, Boxed.ext x h5, ownsRow_ext x h6, Boxed.ext x h7, Boxed.ext x h8, Boxed.ext x h9, h10.ext x⟩
theorem ownsRow_slice {W : World} {base : Nat} {e : TypeId} {size : Nat} {v : Value} {n : Nat} {xs : List Value} (k : W.ownsRow base e size v n xs) : ∃ ao cap, v = .slice ao n cap := by
  rcases k.2 with ⟨rfl, rfl⟩ | ⟨g, cap, cur, rfl, _⟩
  · exact ⟨_, _, rfl⟩
  · exact ⟨_, _, rfl⟩
/-- The two results are stored, and the loop is left. -/
theorem PEnd.stored {l : List UInt8} {b : Nat} {W0 W : World} {pre' : List {x : List UInt8 × Nat // x ∈ linesB l}} {v : Value} {out : List (List UInt8 × List UInt8)} {e : Nat} {u0 u1 : Value}
    (hgo : ∀ rest, parseGo l.length (pre'.map (·.1) ++ rest) [] 0 = (out, e)) (ho : W.ownsRow (b + 1 + 1 + 1 + 1 + 1) 33 2 v out.length (pairCells out))
    (br0 : Boxed W b 23 u0) (br1 : Boxed W (b + 1) 3 u1) (hold : Old (b + 1 + 1 + 1 + 1 + 1) [b, b + 1, b + 1 + 1, b + 1 + 1 + 1] W0 W) (Kp : World → World → Prop) (I) (B : Nat) (a : Act) :
    ownPostG B Kp I (PEnd l b W0) pre' W .ret a (((W.setCell ⟨b, 0, none⟩ v).setCell ⟨b + 1, 0, none⟩ (.int .i64 e)).drew) := by
  refine ⟨(((KeepsOthers.setCell _ _ _).trans (KeepsOthers.setCell _ _ _)).trans (KeepsOthers.drew _)).from _, rfl, v, out, e, hgo, ?_, ?_, ?_, ?_⟩
  · exact (Boxed.set v br0).other (by omega) _
  · exact ownsRow_setCell_below (ownsRow_setCell_below ho (by show b < _; omega) _) (by show b + 1 < _; omega) _
  · exact Boxed.set _ (br1.other (by omega) _)
  · exact (((hold.setCell (by simp) _).setCell (by simp) _).ext ((Ext.refl _).drew))
/-- What was kept before further memory was made is kept. -/
theorem ownPostG.of_ext {α : Type} {B : Nat} {Kp : World → World → Prop} {I : List α → World → Prop} {Ix : Code → List α → World → Prop} {xs : List α} {W W1 : World} {a : Act} {W' : World}
    (h : ownPostG B Kp I Ix xs W1 .ret a W') (x : Ext W W1) : ownPostG B Kp I Ix xs W .ret a W' := ⟨((KeepsOthers.of_ext x).from B).trans h.1, h.2⟩
/-- A round ends: the place behind the line is stored. -/
theorem PInv.next {l : List UInt8} {b : Nat} {W0 W W1 : World} {pre pre' : List {x : List UInt8 × Nat // x ∈ linesB l}} {v : Value} {out : List (List UInt8 × List UInt8)} {e beg : Nat}
    (hgo : ∀ rest, parseGo l.length (pre'.map (·.1) ++ rest) [] 0 = parseGo l.length rest out e) (hol : out.length ≤ 400) (hosz : ∀ x ∈ out, x.1.length ≤ l.length ∧ x.2.length ≤ (l.length + 1) * pre.length) (hpp : pre.length ≤ pre'.length) (he : e ≤ l.length)
    (bo : Boxed W (b + 1 + 1) 23 v) (ho : W.ownsRow (b + 1 + 1 + 1 + 1 + 1) 33 2 v out.length (pairCells out)) (bb : Boxed W (b + 1 + 1 + 1) 3 (.int .i64 beg))
    (br0 : Boxed W b 23 (.slice none 0 0)) (br1 : Boxed W (b + 1) 3 (.int .i64 0)) (hold : Old (b + 1 + 1 + 1 + 1 + 1) [b, b + 1, b + 1 + 1, b + 1 + 1 + 1] W0 W) (x : Ext W W1) (hsz : b + 1 + 1 + 1 + 1 + 1 ≤ W.heap.size) :
    KeepsFrom W0.heap.size W (W1.setCell ⟨b + 1 + 1 + 1, 0, none⟩ (.int .i64 e)) ∧ Old (b + 1 + 1 + 1 + 1 + 1) [b, b + 1, b + 1 + 1, b + 1 + 1 + 1] W (W1.setCell ⟨b + 1 + 1 + 1, 0, none⟩ (.int .i64 e)) ∧
      PInv l b W0 pre' (W1.setCell ⟨b + 1 + 1 + 1, 0, none⟩ (.int .i64 e)) := by
  refine ⟨((KeepsOthers.of_ext x).trans (KeepsOthers.setCell _ _ _)).from _, ((Old.refl _ _ W).ext x).setCell (by simp) _, v, out, e, hgo, hol, ?_, he, ?_, ?_, ?_, ?_, ?_, ?_⟩
  · intro y hy
    exact ⟨(hosz y hy).1, Nat.le_trans (hosz y hy).2 (Nat.mul_le_mul_left _ hpp)⟩
  · exact (Boxed.ext x bo).other (by omega) _
  · exact ownsRow_setCell_below (ownsRow_ext x ho) (by show b + 1 + 1 + 1 < _; omega) _
  · exact Boxed.set _ (Boxed.ext x bb)
  · exact (Boxed.ext x br0).other (by omega) _
  · exact (Boxed.ext x br1).other (by omega) _
  · exact (hold.ext x).setCell (by simp) _
/-- Behind an append to the fields: whatever is no row of fields lies as it lay. -/
theorem app_block {W4 w5 : World} {base : Nat} {v : Value} {n : Nat} {xs : List Value} (hgrow : W4.grownBy w5 v.ownBlock) (ho : W4.ownsRow base 33 2 v n xs) {k : Nat} {o : Obj} (hk : W4.heap[k]? = some o) (hne : ∀ C, o ≠ .cells C 33 (0, 0)) : w5.heap[k]? = some o := by
  rw [hgrow.block k (Array.getElem?_eq_some_iff.1 hk).1 ?_]
  · exact hk
  · intro e
    rcases ho.2 with ⟨rfl, _⟩ | ⟨g, cap, cur, rfl, _, hg, _⟩
    · simp [Value.ownBlock] at e
    · simp only [Value.ownBlock, Option.some.injEq] at e
      subst e
      rw [hg] at hk
      exact hne cur (Option.some.inj hk).symm
theorem app_boxes {W w4 w5 : World} {b Bx : Nat} {v u0 u1 u3 c0 c1 : Value} {n : Nat} {xs : List Value}
    (bo : Boxed W (b + 1 + 1) 23 v) (ho : W.ownsRow (b + 1 + 1 + 1 + 1 + 1) 33 2 v n xs) (bb : Boxed W (b + 1 + 1 + 1) 3 u3) (br0 : Boxed W b 23 u0) (br1 : Boxed W (b + 1) 3 u1)
    (hX : W.heap[Bx]? = some (.cells #[c0, c1] 64 (0, 0))) (x' : Ext W w4) (hgrow : w4.grownBy w5 v.ownBlock) (hsz : b + 1 + 1 + 1 + 1 + 1 ≤ W.heap.size) :
    Boxed w5 (b + 1 + 1) 23 v ∧ Boxed w5 (b + 1 + 1 + 1) 3 u3 ∧ Boxed w5 b 23 u0 ∧ Boxed w5 (b + 1) 3 u1 ∧ w5.heap[Bx]? = some (.cells #[c0, c1] 64 (0, 0)) ∧
      Old (b + 1 + 1 + 1 + 1 + 1) [b, b + 1, b + 1 + 1, b + 1 + 1 + 1] W w5 ∧ KeepsOthers W w5 := by
  have ho' := ownsRow_ext x' ho
  have key : ∀ {k : Nat} {o : Obj}, W.heap[k]? = some o → (∀ C, o ≠ .cells C 33 (0, 0)) → w5.heap[k]? = some o := fun hk hne =>
    app_block hgrow ho' ((x'.heap (Array.getElem?_eq_some_iff.1 hk).1).trans hk) hne
  refine ⟨key bo ?_, key bb ?_, key br0 ?_, key br1 ?_, key hX ?_, ?_, ?_⟩
  · intro C h; simp at h
  · intro C h; simp at h
  · intro C h; simp at h
  · intro C h; simp at h
  · intro C h; simp at h
  · refine ((Old.refl _ _ W).ext x').grown hgrow ?_
    intro r hr
    rcases ho.2 with ⟨rfl, _⟩ | ⟨g, cap, cur, rfl, hb, _⟩
    · simp [Value.ownBlock] at hr
    · simp [Value.ownBlock] at hr
      omega
  · refine ⟨Nat.le_trans x'.size hgrow.size, fun k o hk ho2 => key hk ?_⟩
    rintro C rfl
    simp [Obj.isCells] at ho2
/-- A round that has found a field ends. -/
theorem PInv.field {l : List UInt8} {b : Nat} {W0 W w5 : World} {pre pre' : List {x : List UInt8 × Nat // x ∈ linesB l}} {v v' : Value} {out : List (List UInt8 × List UInt8)} {nm vl : List UInt8} {e beg : Nat}
    (hgo : ∀ rest, parseGo l.length (pre'.map (·.1) ++ rest) [] 0 = parseGo l.length rest (out ++ [(nm, vl)]) e) (hol : out.length < 400) (hosz : ∀ x ∈ out, x.1.length ≤ l.length ∧ x.2.length ≤ (l.length + 1) * pre.length)
    (hnm : nm.length ≤ l.length) (hvl : vl.length ≤ l.length) (hpp : pre.length + 1 ≤ pre'.length) (he : e ≤ l.length)
    (q2 : Boxed w5 (b + 1 + 1) 23 v) (q3 : Boxed w5 (b + 1 + 1 + 1) 3 (.int .i64 beg)) (q0 : Boxed w5 b 23 (.slice none 0 0)) (q1 : Boxed w5 (b + 1) 3 (.int .i64 0))
    (qO : Old (b + 1 + 1 + 1 + 1 + 1) [b, b + 1, b + 1 + 1, b + 1 + 1 + 1] W w5) (qK : KeepsOthers W w5) (hold : Old (b + 1 + 1 + 1 + 1 + 1) [b, b + 1, b + 1 + 1, b + 1 + 1 + 1] W0 W)
    (hown5 : w5.ownsRow (b + 1 + 1 + 1 + 1 + 1) 33 2 v' (out.length + 1) (pairCells out ++ [vstr nm, vstr vl])) (B : Nat) :
    KeepsFrom B W ((w5.setCell ⟨b + 1 + 1, 0, none⟩ v').setCell ⟨b + 1 + 1 + 1, 0, none⟩ (.int .i64 e)) ∧
      Old (b + 1 + 1 + 1 + 1 + 1) [b, b + 1, b + 1 + 1, b + 1 + 1 + 1] W ((w5.setCell ⟨b + 1 + 1, 0, none⟩ v').setCell ⟨b + 1 + 1 + 1, 0, none⟩ (.int .i64 e)) ∧
      PInv l b W0 pre' ((w5.setCell ⟨b + 1 + 1, 0, none⟩ v').setCell ⟨b + 1 + 1 + 1, 0, none⟩ (.int .i64 e)) := by
  have hO := ((qO.setCell (p := ⟨b + 1 + 1, 0, none⟩) (by simp) v').setCell (p := ⟨b + 1 + 1 + 1, 0, none⟩) (by simp) (.int .i64 e))
  refine ⟨((qK.trans (KeepsOthers.setCell _ _ _)).trans (KeepsOthers.setCell _ _ _)).from _, hO, v', out ++ [(nm, vl)], e, hgo, by simp; omega, ?_, he, ?_, ?_, ?_, ?_, ?_, hold.trans hO⟩
  · intro y hy
    rcases List.mem_append.1 hy with hy | hy
    · refine ⟨(hosz y hy).1, Nat.le_trans (hosz y hy).2 (Nat.mul_le_mul_left _ (by omega))⟩
    · simp only [List.mem_singleton] at hy
      subst hy
      refine ⟨hnm, Nat.le_trans hvl ?_⟩
      refine Nat.le_trans (Nat.le_succ _) (Nat.le_trans ?_ (Nat.mul_le_mul_left (l.length + 1) (show 1 ≤ pre'.length by omega)))
      omega
  · exact (Boxed.set v' q2).other (by omega) _
  · have h1 := ownsRow_setCell_below (ownsRow_setCell_below hown5 (a := ⟨b + 1 + 1, 0, none⟩) (by show b + 1 + 1 < _; omega) v') (a := ⟨b + 1 + 1 + 1, 0, none⟩) (by show b + 1 + 1 + 1 < _; omega) (.int .i64 e)
    rw [pairCells_snoc, List.length_append]
    exact h1
  · exact Boxed.set _ (q3.other (by omega) _)
  · exact (q0.other (by omega) _).other (by omega) _
  · exact (q1.other (by omega) _).other (by omega) _
theorem setLast_snoc (init : List (List UInt8 × List UInt8)) (x : List UInt8 × List UInt8) (m : List UInt8) : setLast (init ++ [x]) m = init ++ [(x.1, trimB (x.2 ++ [32] ++ m))] := by simp [setLast]
theorem pairCells_set (init : List (List UInt8 × List UInt8)) (x : List UInt8 × List UInt8) (y : List UInt8) : (pairCells (init ++ [x])).set (init.length * 2 + 1) (vstr y) = pairCells (init ++ [(x.1, y)]) := by
  rw [pairCells_snoc, pairCells_snoc, ← pairCells_length, List.set_append_right _ _ (by omega)]
  simp
/-- A round that has lengthened the last field ends. -/
theorem PInv.more {l : List UInt8} {b : Nat} {W0 W w5 : World} {pre pre' : List {x : List UInt8 × Nat // x ∈ linesB l}} {v : Value} {init : List (List UInt8 × List UInt8)} {x : List UInt8 × List UInt8} {y : List UInt8} {e beg : Nat}
    (hgo : ∀ rest, parseGo l.length (pre'.map (·.1) ++ rest) [] 0 = parseGo l.length rest (init ++ [(x.1, y)]) e) (hol : (init ++ [x]).length ≤ 400) (hosz : ∀ z ∈ init ++ [x], z.1.length ≤ l.length ∧ z.2.length ≤ (l.length + 1) * pre.length)
    (hy : y.length ≤ (l.length + 1) * pre'.length) (hpp : pre.length ≤ pre'.length) (he : e ≤ l.length)
    (q2 : Boxed w5 (b + 1 + 1) 23 v) (q3 : Boxed w5 (b + 1 + 1 + 1) 3 (.int .i64 beg)) (q0 : Boxed w5 b 23 (.slice none 0 0)) (q1 : Boxed w5 (b + 1) 3 (.int .i64 0))
    (qO : Old (b + 1 + 1 + 1 + 1 + 1) [b, b + 1, b + 1 + 1, b + 1 + 1 + 1] W w5) (qK : KeepsOthers W w5) (hold : Old (b + 1 + 1 + 1 + 1 + 1) [b, b + 1, b + 1 + 1, b + 1 + 1 + 1] W0 W)
    (hown5 : w5.ownsRow (b + 1 + 1 + 1 + 1 + 1) 33 2 v (init.length + 1) (pairCells (init ++ [(x.1, y)]))) (B : Nat) :
    KeepsFrom B W (w5.setCell ⟨b + 1 + 1 + 1, 0, none⟩ (.int .i64 e)) ∧ Old (b + 1 + 1 + 1 + 1 + 1) [b, b + 1, b + 1 + 1, b + 1 + 1 + 1] W (w5.setCell ⟨b + 1 + 1 + 1, 0, none⟩ (.int .i64 e)) ∧
      PInv l b W0 pre' (w5.setCell ⟨b + 1 + 1 + 1, 0, none⟩ (.int .i64 e)) := by
  have hO := qO.setCell (p := ⟨b + 1 + 1 + 1, 0, none⟩) (by simp) (.int .i64 e)
  refine ⟨(qK.trans (KeepsOthers.setCell _ _ _)).from _, hO, v, init ++ [(x.1, y)], e, hgo, by simpa using hol, ?_, he, ?_, ?_, ?_, ?_, ?_, hold.trans hO⟩
  · intro z hz
    rcases List.mem_append.1 hz with hz | hz
    · have := hosz z (List.mem_append_left _ hz)
      exact ⟨this.1, Nat.le_trans this.2 (Nat.mul_le_mul_left _ hpp)⟩
    · simp only [List.mem_singleton] at hz
      subst hz
      exact ⟨(hosz x (by simp)).1, hy⟩
  · exact q2.other (by omega) _
  · have h1 := ownsRow_setCell_below hown5 (a := ⟨b + 1 + 1 + 1, 0, none⟩) (by show b + 1 + 1 + 1 < _; omega) (.int .i64 e)
    rw [List.length_append]
    exact h1
  · exact Boxed.set _ q3
  · exact q0.other (by omega) _
  · exact q1.other (by omega) _
theorem mk_append (a b : List UInt8) : (⟨a.toArray⟩ : ByteArray) ++ ⟨b.toArray⟩ = ⟨(a ++ b).toArray⟩ := by rw [ByteArray.mk_append_mk]
theorem mk_append3 (a b c : List UInt8) : (⟨a.toArray⟩ : ByteArray) ++ ⟨b.toArray⟩ ++ ⟨c.toArray⟩ = ⟨(a ++ b ++ c).toArray⟩ := by rw [mk_append a b, mk_append (a ++ b) c]
theorem parse_nil (n : Nat) (e : Nat) (rest) (out) (beg : Nat) : parseGo n (([], e) :: rest) out beg = (out, e) := rfl

attribute [local go_sem ↓ high] builtin_append_s
set_option maxHeartbeats 10000000 in
set_option maxRecDepth 100000 in
theorem parse_any (l : List UInt8) (w : World) (hs : l.length ≤ 16777216) :
    Calls Tryz.prog 14 #[vstr l] w fun e w' => ∃ v, e = .returned (.tuple #[v, .int .i64 (parseB l).2]) ∧ Pairs0 w' v (parseB l).1 ∧ Ext w w' := by
  refine callsIn_wide (n := 12).1 ?_
  refine callsIn_of_wp_marks Tryz.func14 rfl trivial ?_ rfl
  simp only [Tryz.ntmps14, List.size_toArray, List.length_cons, List.length_nil, Nat.reduceAdd, Nat.reduceSub, Array.replicate_succ, Array.replicate_zero, List.push_toArray, List.append_toArray, List.nil_append, List.cons_append]
  gi_wp2
  refine ⟨trivial, (inW _ (lines_any _ _)).mono ?_⟩
  rintro e w1 ⟨rfl, rfl⟩
  gi_wp2
  obtain ⟨b, hb⟩ : ∃ b, b = w.heap.size := ⟨_, rfl⟩
  obtain ⟨W0, hW0⟩ : ∃ W0, W0 = ((((w.alloc (.cells #[.slice none 0 0] 23)).alloc (.cells #[.int .i64 0] 3)).alloc (.cells #[.slice none 0 0] 23)).alloc (.cells #[.int .i64 0] 3)).alloc (.cells #[vstr l] 9) := ⟨_, rfl⟩
  have hsz0 : W0.heap.size = b + 1 + 1 + 1 + 1 + 1 := by rw [hW0, hb]; simp
  have x0 : Ext w W0 := by rw [hW0]; exact ((((((Ext.refl w).alloc _).alloc _).alloc _).alloc _).alloc _)
  have f0 : Boxed W0 b 23 (.slice none 0 0) := by rw [hW0, hb]; exact (((((Boxed.new w _ _).alloc _).alloc _).alloc _).alloc _)
  have f1 : Boxed W0 (b + 1) 3 (.int .i64 0) := by
    rw [hW0, hb]
    have := Boxed.new (w.alloc (.cells #[.slice none 0 0] 23)) 3 (.int .i64 0)
    rw [World.size_alloc] at this
    exact (((this.alloc _).alloc _).alloc _)
  have f2 : Boxed W0 (b + 1 + 1) 23 (.slice none 0 0) := by
    rw [hW0, hb]
    have := Boxed.new ((w.alloc (.cells #[.slice none 0 0] 23)).alloc (.cells #[.int .i64 0] 3)) 23 (.slice none 0 0)
    rw [World.size_alloc, World.size_alloc] at this
    exact ((this.alloc _).alloc _)
  have f3 : Boxed W0 (b + 1 + 1 + 1) 3 (.int .i64 0) := by
    rw [hW0, hb]
    have := Boxed.new (((w.alloc (.cells #[.slice none 0 0] 23)).alloc (.cells #[.int .i64 0] 3)).alloc (.cells #[.slice none 0 0] 23)) 3 (.int .i64 0)
    rw [World.size_alloc, World.size_alloc, World.size_alloc] at this
    exact (this.alloc _)
  have f4 : Boxed W0 (b + 1 + 1 + 1 + 1) 9 (vstr l) := by
    rw [hW0, hb]
    have := Boxed.new ((((w.alloc (.cells #[.slice none 0 0] 23)).alloc (.cells #[.int .i64 0] 3)).alloc (.cells #[.slice none 0 0] 23)).alloc (.cells #[.int .i64 0] 3)) 9 (vstr l)
    rw [World.size_alloc, World.size_alloc, World.size_alloc, World.size_alloc] at this
    exact this
  have hbw : b ≤ w.heap.size := by omega
  rw [← hW0, ← hb]
  have Hb := Lib.hid hb
  clear hW0 hb
  refine wpIn_rangeFunc_ownH (F := Fence.wide) (n := 12) rfl (by omega) (gf := 48) (lb := #[.pointer (some ⟨b + 1 + 1 + 1 + 1, 0, none⟩)]) rfl trivial (enters_of Tryz.func48 (by kernel_rfl) rfl)
    (lines_iter l (b + 1 + 1 + 1 + 1) (b + 1 + 1 + 1 + 1 + 1) [b, b + 1, b + 1 + 1, b + 1 + 1 + 1] W0 f4 (by omega) (by simp; omega) (by omega) 11 (by omega))
    Old.trans (fun W l' o o' h1 _ _ _ => Old.putObj W l' o' (by omega)) (Below.refl _ _) (fun _ => rfl)
    (PInv l b W0) (PEnd l b W0) (ownFrom_of (PInv.abides (by omega))) (fun c => ownFrom_of (PEnd.abides (by omega) c))
    ⟨_, [], 0, fun _ => rfl, by simp, by simp, Nat.zero_le _, f2, World.ownsRow_nil _ _ _ _, f3, f0, f1, Old.refl _ _ _⟩
    (fun x a' W => ∃ Bx, b + 1 + 1 + 1 + 1 + 1 ≤ Bx ∧ W.heap[Bx]? = some (.cells #[vstr x.1.1, .int .i64 x.1.2] 64 (0, 0)) ∧ a' = { tmps := #[vstr l, undef, .pointer (some ⟨b, 0, none⟩), .pointer (some ⟨b + 1, 0, none⟩), .pointer (some ⟨b + 1 + 1, 0, none⟩), .pointer (some ⟨b + 1 + 1 + 1, 0, none⟩), .pointer (some ⟨Bx, 0, none⟩), undef, undef, undef, undef, undef, vstr l, .func (.func 48) #[] #[.pointer (some ⟨b + 1 + 1 + 1 + 1, 0, none⟩)], .agg #[vstr x.1.1, .int .i64 x.1.2], undef, undef, undef, undef, undef, undef, undef, undef, undef, undef, undef, undef, undef, undef, undef, undef, undef, undef, undef, undef, undef, undef, undef, undef, undef, undef, undef, undef, undef, undef, undef, undef, undef, undef, undef, undef, undef, undef, undef, undef, undef, undef, undef, undef, undef, undef, undef, undef, undef, undef, undef, undef, undef, undef, undef, undef, undef, undef, undef, undef, undef, undef, undef, undef, undef, undef, undef, undef, undef, undef, undef, undef, undef, undef, undef, undef, undef, undef, undef, undef], defers := [] })
    (fun x a' => ownFrom_of (by rintro _ W W' h ⟨Bx, h1, h2, h3⟩; exact ⟨Bx, h1, h.cells _ _ h2 rfl, h3⟩)) ?assign ?body ?done ?stop
  case assign =>
    intro ll pre x W K hI hK
    have hIsz : b + 1 + 1 + 1 + 1 + 1 ≤ W.heap.size := by
      obtain ⟨v, out, beg, _, _, _, _, _, _, _, _, _, h10⟩ := hI
      have := h10.size
      omega
    dsimp only [encL]
    gi_wp2
    exact hK _ _ ((KeepsOthers.alloc _ _).from _) ((Old.refl _ _ _).ext ((Ext.refl W).alloc _)) (hI.ext ((Ext.refl W).alloc _)) ⟨W.heap.size, hIsz, heap_new _ _, rfl⟩
  case body =>
    rintro ll pre x a' W hll ⟨r, hr⟩ ⟨v, out, beg, hgo, hol, hosz, hbeg, bo, ho, bb, br0, br1, hold⟩ ⟨Bx, hBx, hX, rfl⟩ hlt
    obtain ⟨⟨c, e⟩, hx⟩ := x
    have hxl := linesB_mem hx
    obtain ⟨ao, cap, rfl⟩ := ownsRow_slice ho
    dsimp only at hxl
    have hsz : b + 1 + 1 + 1 + 1 + 1 ≤ W.heap.size := by have := hold.size; omega
    have X0 : W.cell? ⟨Bx, 0, none⟩ = some (vstr c) := by rw [Lib.cell_of_heap hX]; rfl
    have X1 : W.cell? ⟨Bx, 1, none⟩ = some (.int .i64 e) := by rw [Lib.cell_of_heap hX]; rfl
    have Bo := bo.cell
    have Bb := bb.cell
    have R0 := br0.cell
    have R0f := br0.frozen
    have R1 := br1.cell
    have R1f := br1.frozen
    have Hgo := Lib.hid hgo
    clear hgo
    dsimp only
    cases c with
    | nil =>
      have mixed : Tryz.prog.follows .mixedOrders = true := by kernel_rfl
      gi_wp2
      gi_region_with_o (fail)
      all_goals gi_wp2
      all_goals exact PEnd.stored (fun rest => by rw [List.map_append, List.append_assoc, Hgo.out]; rfl) ho br0 br1 hold _ _ _ _
    | cons ch ct =>
      have mixed : Tryz.prog.follows .mixedOrders = true := by kernel_rfl
      have hcl : (ch :: ct).length ≤ 16777216 := by omega
      have h0 : 0 < (⟨(ch :: ct).toArray⟩ : ByteArray).size := Nat.succ_pos _
      have gw : (ch = 32 ∨ ch = 9) → ((((⟨(ch :: ct).toArray⟩ : ByteArray)[0]'h0).toNat : Int) == 32) = true ∨ (((((⟨(ch :: ct).toArray⟩ : ByteArray)[0]'h0).toNat : Int) == 32) = false ∧ ((((⟨(ch :: ct).toArray⟩ : ByteArray)[0]'h0).toNat : Int) == 9) = true) := by
        rintro (rfl | rfl)
        · exact .inl rfl
        · exact .inr ⟨rfl, rfl⟩
      have gn : ¬ (ch = 32 ∨ ch = 9) → ((((⟨(ch :: ct).toArray⟩ : ByteArray)[0]'h0).toNat : Int) == 32) = false ∧ ((((⟨(ch :: ct).toArray⟩ : ByteArray)[0]'h0).toNat : Int) == 9) = false := by
        intro hn
        have e0 : ((⟨(ch :: ct).toArray⟩ : ByteArray)[0]'h0) = ch := rfl
        rw [e0]
        simp only [beq_eq_false_iff_ne, ne_eq]
        exact ⟨fun h => hn (.inl (byte_eq (n := 32) (by omega) h)), fun h => hn (.inr (byte_eq (n := 9) (by omega) h))⟩
      by_cases hwh : ch = 32 ∨ ch = 9
      · by_cases hout : out = []
        · subst hout
          have hgo2 : Hid (∀ rest, parseGo l.length ((pre ++ [(⟨(ch :: ct, e), hx⟩ : {x // x ∈ linesB l})]).map (·.1) ++ rest) [] 0 = ([], beg)) := Lib.hid fun rest => by
            rw [List.map_append, List.append_assoc, Hgo.out]
            simp [parseGo, hwh]
          have hz : (((([] : List (List UInt8 × List UInt8)).length : Nat) : Int) == 0) = true := rfl
          rcases gw hwh with g32 | ⟨g32, g9⟩
          all_goals
            clear gw gn
            gi_wp2
            refine ⟨trivial, (inR ll _ (cut_l (ch :: ct) 58 _ (by omega))).mono ?_⟩
            rintro e2 w2 ⟨rfl, x2⟩
            have X0' := x2.holds X0
            have Bo' := x2.holds Bo
            have Bb' := x2.holds Bb
            have R0' := x2.holds R0
            have R1' := x2.holds R1
            have R0f' := (x2.frozen br0.lt).trans R0f
            have R1f' := (x2.frozen br1.lt).trans R1f
            gi_wp2
            gi_region_with_o (fail)
            all_goals gi_wp2
            all_goals exact ownPostG.of_ext (PEnd.stored hgo2.out (ownsRow_ext x2 ho) (Boxed.ext x2 br0) (Boxed.ext x2 br1) (hold.ext x2) _ (PInv l b W0) _ _) x2
        · have hz : ((out.length : Int) == 0) = false := by simpa using hout
          have hb1 := trimB_len (ch :: ct)
          by_cases hm : trimB (ch :: ct) = []
          · have hgo2 : Hid (∀ rest, parseGo l.length ((pre ++ [(⟨(ch :: ct, e), hx⟩ : {x // x ∈ linesB l})]).map (·.1) ++ rest) [] 0 = parseGo l.length rest out e) := Lib.hid fun rest => by
              rw [List.map_append, List.append_assoc, Hgo.out]
              simp [parseGo, hwh, hout, addMore, hm]
            rcases gw hwh with g32 | ⟨g32, g9⟩
            all_goals
              clear gw gn
              gi_wp2
              refine ⟨trivial, (inR ll _ (cut_l (ch :: ct) 58 _ (by omega))).mono ?_⟩
              rintro e2 w2 ⟨rfl, x2⟩
              have X0' := x2.holds X0
              have Bo' := x2.holds Bo
              gi_wp2
              refine ⟨trivial, (inR ll _ (trim_l (ch :: ct) _ (by omega))).mono ?_⟩
              rintro e2 w3 ⟨rfl, x3⟩
              rw [hm]
              have x13 := x2.trans x3
              have X1' := x13.holds X1
              have Bb' := x13.holds Bb
              have Bbf' := (x13.frozen bb.lt).trans bb.frozen
              gi_wp2
              exact PInv.next (hgo2.out) hol hosz (by simp) hxl.2 bo ho bb br0 br1 hold x13 hsz
          · -- THE LAST FIELD IS LENGTHENED
            rcases List.eq_nil_or_concat out with h | ⟨init, lst, h⟩
            · exact absurd h hout
            rw [List.concat_eq_append] at h
            subst h
            have hgo2 : Hid (∀ rest, parseGo l.length ((pre ++ [(⟨(ch :: ct, e), hx⟩ : {x // x ∈ linesB l})]).map (·.1) ++ rest) [] 0 = parseGo l.length rest (init ++ [(lst.1, trimB (lst.2 ++ [32] ++ trimB (ch :: ct)))]) e) := Lib.hid fun rest => by
              rw [List.map_append, List.append_assoc, Hgo.out]
              simp only [List.map_cons, List.map_nil, List.singleton_append, parseGo, if_pos hwh, addMore, setLast_snoc]
              rw [if_neg (by simp), if_neg (by simpa using hm)]
            obtain ⟨g, rfl, hgb, hgx⟩ : ∃ g, ao = some ⟨g, 0, none⟩ ∧ b + 1 + 1 + 1 + 1 + 1 ≤ g ∧ ¬ g = Bx := by
              rcases ho.2 with ⟨_, h0⟩ | ⟨g, cap', cur, hv, hgb, hh, _⟩
              · simp at h0
              · simp only [Value.slice.injEq] at hv
                refine ⟨g, hv.1, hgb, ?_⟩
                rintro rfl
                rw [hh] at hX
                simp at hX
            simp only [List.length_append, List.length_cons, List.length_nil, Nat.zero_add] at ho bo Bo hz hol
            have hg := ho.cellAt (init.length * 2 + 1) (by omega)
            have hgf := ho.frozenAt (init.length * 2 + 1)
            have hat := (pairCells_at (init ++ [lst]) init.length (by simp)).2
            rw [hat] at hg
            simp only [List.getElem_concat_length] at hg
            clear hat
            have hmul : (l.length + 1) * pre.length ≤ 16777217 * 16777216 := Nat.mul_le_mul (by omega) (by have h2 : (linesB l).length ≤ l.length + (if ([] : List UInt8).isEmpty then 0 else 1) := linesGo_len l [] 0; simp only [List.isEmpty_nil, if_true] at h2; omega)
            have hlst := (hosz lst (by simp)).2
            cases hmm : trimB (ch :: ct) with
            | nil => exact absurd hmm hm
            | cons mh mt =>
            rw [hmm] at hb1
            have Hmm := Lib.hid hmm
            clear hmm hm
            have hs1 : lst.2.length + 1 ≤ 9223372036854775807 := by omega
            have hs2 : lst.2.length + 1 + (mt.length + 1) ≤ 9223372036854775807 := by simp only [List.length_cons] at hb1 hxl; omega
            rcases gw hwh with g32 | ⟨g32, g9⟩
            all_goals
              clear gw gn
              gi_wp2
              refine ⟨trivial, (inR ll _ (cut_l (ch :: ct) 58 _ (by omega))).mono ?_⟩
              rintro e2 w2 ⟨rfl, x2⟩
              have X0' := x2.holds X0
              have Bo' := x2.holds Bo
              gi_wp2
              refine ⟨trivial, (inR ll _ (trim_l (ch :: ct) _ (by omega))).mono ?_⟩
              rintro e2 w3 ⟨rfl, x3⟩
              rw [Hmm.out]
              have x13 := x2.trans x3
              have Bo3 := x13.holds Bo
              have G3 := x13.holds hg
              gi_wp2
              rw [mk_append3 lst.2 [32] (mh :: mt)]
              have hts : (⟨(lst.2 ++ [32] ++ (mh :: mt)).toArray⟩ : ByteArray).size ≤ maxLen := by
                rw [size_mk, List.length_append, List.length_append]
                simp only [List.length_cons, List.length_nil]
                unfold maxLen
                omega
              have ht := trim_any ⟨(lst.2 ++ [32] ++ (mh :: mt)).toArray⟩ w3 hts
              rw [toList_mk] at ht
              refine ⟨trivial, (inR ll _ ht).mono ?_⟩
              rintro e2 w4 ⟨rfl, x4⟩
              obtain ⟨y, hyy⟩ : ∃ y, y = trimB (lst.2 ++ [32] ++ (mh :: mt)) := ⟨_, rfl⟩
              rw [← hyy]
              have x14 := x13.trans x4
              have G4 := x14.holds hg
              have G4f := (x14.frozen (lt_of_cell hg)).trans hgf
              have own4 := ownsRow_ext x14 ho
              obtain ⟨own5, grow5⟩ := own4.stored (init.length * 2 + 1) (vstr y)
              rw [pairCells_set] at own5
              obtain ⟨q2, q3, q0, q1, qX, qO, qK⟩ := app_boxes bo ho bb br0 br1 hX x14 grow5 hsz
              have X14 := x14.holds X1
              have Bb4 := x14.holds Bb
              have Bbf4 := (x14.frozen bb.lt).trans bb.frozen
              have hgx' : ¬ Bx = g := fun h => hgx h.symm
              rw [Hmm.out, ← hyy] at hgo2
              have hy : y.length ≤ (l.length + 1) * (pre ++ [(⟨(ch :: ct, e), hx⟩ : {x // x ∈ linesB l})]).length := by
                rw [hyy]
                refine Nat.le_trans (trimB_len _) ?_
                simp only [List.length_append, List.length_cons, List.length_nil, Nat.zero_add, Nat.mul_add, Nat.mul_one] at hb1 hxl ⊢
                omega
              clear hyy
              gi_wp2
              exact PInv.more hgo2.out (by simpa using hol) hosz hy (by simp) hxl.2 q2 q3 q0 q1 qO qK hold own5 _
      · obtain ⟨g32, g9⟩ := gn hwh
        clear gw gn
        have hb1 := cut1_len1 58 (ch :: ct)
        have hb2 := cut1_len2 58 (ch :: ct)
        by_cases hc : (cut1 58 (ch :: ct)).1.length < (ch :: ct).length ∧ namedB (cut1 58 (ch :: ct)).1 = true ∧ out.length < 400
        · have hgo2 : Hid (∀ rest, parseGo l.length ((pre ++ [(⟨(ch :: ct, e), hx⟩ : {x // x ∈ linesB l})]).map (·.1) ++ rest) [] 0 = parseGo l.length rest (out ++ [((cut1 58 (ch :: ct)).1, trimB (cut1 58 (ch :: ct)).2.1)]) e) := Lib.hid fun rest => by
            rw [List.map_append, List.append_assoc, Hgo.out]
            simp only [List.map_cons, List.map_nil, List.singleton_append, parseGo, if_neg hwh, if_pos hc]
          obtain ⟨c1, hnm, c3⟩ := hc
          simp only [List.length_cons] at c1
          have Hnm := Lib.hid hnm
          clear hnm
          obtain ⟨i0, hi, hz0, hz1, hz2⟩ := info_parts Tryz.info33
          gi_wp2
          refine ⟨trivial, (inR ll _ (cut_l (ch :: ct) 58 _ (by omega))).mono ?_⟩
          rintro e2 w2 ⟨rfl, x2⟩
          have X0' := x2.holds X0
          gi_wp2
          refine ⟨trivial, (inR ll _ (named_l (cut1 58 (ch :: ct)).1 _ (by omega))).mono ?_⟩
          rintro e2 w3 ⟨rfl, x3⟩
          rw [Hnm.out]
          have x13 := x2.trans x3
          have Bo' := x13.holds Bo
          gi_wp2
          have szw := x13.size
          have n1 : (cut1 58 (ch :: ct)).1.length ≤ l.length := by omega
          have n2 : (trimB (cut1 58 (ch :: ct)).2.1).length ≤ l.length := by have := trimB_len (cut1 58 (ch :: ct)).2.1; omega
          have n3 : pre.length + 1 ≤ (pre ++ [(⟨(ch :: ct, e), hx⟩ : {x // x ∈ linesB l})]).length := by simp
          gi_region_with_o (refine ⟨trivial, ?_⟩; gi_at_call 28; refine (inR ll _ (trim_l (cut1 58 (ch :: ct)).2.1 _ (by omega))).mono ?_; rintro e3 w4 ⟨rfl, x4⟩; have Bo4 := x4.holds (show w3.drew.cell? _ = _ from Bo'); have Blt4 := lt_of_cell Bo4; have Bo4a := (Ext.alloc (Ext.refl w4) (.cells #[vstr (cut1 58 (ch :: ct)).1, vstr (trimB (cut1 58 (ch :: ct)).2.1)] 33)).holds Bo4; obtain ⟨v', w5, hrun, hown5, hgrow, _⟩ := run_append_own (P := Tryz.prog) (w4.alloc (.cells #[vstr (cut1 58 (ch :: ct)).1, vstr (trimB (cut1 58 (ch :: ct)).2.1)] 33)) (b + 1 + 1 + 1 + 1 + 1) 23 23 33 i0 _ 2 32 Tryz.underlying23 hi hz0 hz1 hz2 rfl (by decide) _ _ _ ((ownsRow_ext x4 (ownsRow_ext (x13.trans (Ext.drew (Ext.refl w3))) ho)).alloc _) ⟨w4.heap.size, 0, none⟩ 1 1 [vstr (cut1 58 (ch :: ct)).1, vstr (trimB (cut1 58 (ch :: ct)).2.1)] rfl (by intro j u hj; rw [addr_add0, World.cell?_alloc_mark]; simpa using hj) (by simp [Value.oneCell']) (by unfold maxLen; omega) (by omega) (by have := x4.size; simp at this ⊢; omega); obtain ⟨g', cap', rfl⟩ := ownsRow_succ hown5; replace hrun : (appendS #[23, 23] 23 _).run Tryz.prog _ = _ := hrun; obtain ⟨q2, q3, q0, q1, qX, qO, qK⟩ := app_boxes bo ho bb br0 br1 hX (((x13.trans (Ext.drew (Ext.refl w3))).trans x4).alloc _) hgrow hsz; have Bo5 := q2.cell; have Bf5 := q2.frozen; have Bb5 := q3.cell; have Bbf5 := q3.frozen; have X15 : w5.cell? ⟨Bx, 1, none⟩ = some (.int .i64 e) := by rw [Lib.cell_of_heap qX]; rfl)
          all_goals gi_wp2
          all_goals exact PInv.field hgo2.out c3 hosz n1 n2 n3 hxl.2 q2 q3 q0 q1 qO qK hold hown5 _
        · have hgo2 : Hid (∀ rest, parseGo l.length ((pre ++ [(⟨(ch :: ct, e), hx⟩ : {x // x ∈ linesB l})]).map (·.1) ++ rest) [] 0 = (out, beg)) := Lib.hid fun rest => by
            rw [List.map_append, List.append_assoc, Hgo.out]
            simp only [List.map_cons, List.map_nil, List.singleton_append, parseGo, if_neg hwh, if_neg hc]
          have key : ∀ (W1 : World) (a : Act), Ext W W1 → ownPostG W0.heap.size (Old (b + 1 + 1 + 1 + 1 + 1) [b, b + 1, b + 1 + 1, b + 1 + 1 + 1]) (PInv l b W0) (PEnd l b W0) (pre ++ [(⟨(ch :: ct, e), hx⟩ : {x // x ∈ linesB l})]) W .ret a (((W1.setCell ⟨b, 0, none⟩ (.slice ao out.length cap)).setCell ⟨b + 1, 0, none⟩ (.int .i64 beg)).drew) :=
            fun W1 a x2 => ownPostG.of_ext (PEnd.stored hgo2.out (ownsRow_ext x2 ho) (Boxed.ext x2 br0) (Boxed.ext x2 br1) (hold.ext x2) _ (PInv l b W0) _ _) x2
          have Key := Lib.hid key
          clear key
          by_cases c1 : (cut1 58 (ch :: ct)).1.length < ct.length + 1
          · cases hnm : namedB (cut1 58 (ch :: ct)).1
            · have Hnm := Lib.hid hnm
              clear hnm hc
              gi_wp2
              refine ⟨trivial, (inR ll _ (cut_l (ch :: ct) 58 _ (by omega))).mono ?_⟩
              rintro e2 w2 ⟨rfl, x2⟩
              have X0' := x2.holds X0
              gi_wp2
              refine ⟨trivial, (inR ll _ (named_l (cut1 58 (ch :: ct)).1 _ (by omega))).mono ?_⟩
              rintro e2 w3 ⟨rfl, x3⟩
              rw [Hnm.out]
              have x13 := x2.trans x3
              have Bo' := x13.holds Bo
              have Bb' := x13.holds Bb
              have R0' := x13.holds R0
              have R1' := x13.holds R1
              have R0f' := (x13.frozen br0.lt).trans R0f
              have R1f' := (x13.frozen br1.lt).trans R1f
              gi_wp2
              gi_region_with_o (fail)
              all_goals gi_wp2
              all_goals exact Key.out _ _ x13
            · have c3 : 400 ≤ out.length := by
                refine Nat.le_of_not_lt fun h => hc ⟨c1, hnm, h⟩
              have Hnm := Lib.hid hnm
              clear hnm hc
              gi_wp2
              refine ⟨trivial, (inR ll _ (cut_l (ch :: ct) 58 _ (by omega))).mono ?_⟩
              rintro e2 w2 ⟨rfl, x2⟩
              have X0' := x2.holds X0
              gi_wp2
              refine ⟨trivial, (inR ll _ (named_l (cut1 58 (ch :: ct)).1 _ (by omega))).mono ?_⟩
              rintro e2 w3 ⟨rfl, x3⟩
              rw [Hnm.out]
              have x13 := x2.trans x3
              have Bo' := x13.holds Bo
              have Bb' := x13.holds Bb
              have R0' := x13.holds R0
              have R1' := x13.holds R1
              have R0f' := (x13.frozen br0.lt).trans R0f
              have R1f' := (x13.frozen br1.lt).trans R1f
              gi_wp2
              gi_region_with_o (fail)
              all_goals gi_wp2
              all_goals exact Key.out _ _ x13
          · have d1 : decide (((cut1 58 (ch :: ct)).1.length : Int) < (ct.length : Int) + 1) = false := by rw [decide_eq_false_iff_not]; omega
            clear hc
            gi_wp2
            refine ⟨trivial, (inR ll _ (cut_l (ch :: ct) 58 _ (by omega))).mono ?_⟩
            rintro e2 w2 ⟨rfl, x2⟩
            have X0' := x2.holds X0
            have Bo' := x2.holds Bo
            have Bb' := x2.holds Bb
            have R0' := x2.holds R0
            have R1' := x2.holds R1
            have R0f' := (x2.frozen br0.lt).trans R0f
            have R1f' := (x2.frozen br1.lt).trans R1f
            gi_wp2
            refine ⟨trivial, ?_⟩
            gi_wp2
            gi_region_with_o (fail)
            all_goals gi_wp2
            all_goals exact Key.out _ _ x2
  case done =>
    rintro D xs W hD hS ⟨v, out, beg, hgo, hol, hosz, hbeg, bo, ho, bb, br0, br1, hold⟩ hK
    obtain ⟨ao, cap, rfl⟩ := ownsRow_slice ho
    have hp : parseB l = (out, l.length) := by
      have := hgo []
      rw [hS, List.append_nil] at this
      exact this
    have Hp := Lib.hid hp
    clear hgo hp
    have Bo := bo.cell
    have R0 := br0.cell
    have R0f := br0.frozen
    have R1 := br1.cell
    have R1f := br1.frozen
    gi_wp2
    have hK2 := ((KeepsOthers.setCell W ⟨b, 0, none⟩ (.slice ao out.length cap)).trans (KeepsOthers.setCell _ ⟨b + 1, 0, none⟩ (.int .i64 l.length))).same D _ hK rfl
    refine ⟨by simp, .inl ⟨_, _, rfl, run_takeDeferred hK2, ?_⟩⟩
    have hDb : b + 1 + 1 + 1 + 1 + 1 ≤ D := by omega
    have q0 := ((Boxed.set (.slice ao out.length cap) br0).other (B' := b + 1) (by omega) (.int .i64 l.length)).kept (grownBy_putObj' _ D (.deferred none)) (by intro h; cases h; omega)
    have q1 := (Boxed.set (.int .i64 l.length) (br1.other (B' := b) (by omega) (.slice ao out.length cap))).kept (grownBy_putObj' _ D (.deferred none)) (by intro h; cases h; omega)
    have C0 := q0.cell
    have C1 := q1.cell
    have ho2 := ownsRow_putObj (ownsRow_setCell_below (ownsRow_setCell_below ho (a := ⟨b, 0, none⟩) (by show b < _; omega) (.slice ao out.length cap)) (a := ⟨b + 1, 0, none⟩) (by show b + 1 < _; omega) (.int .i64 l.length)) (.deferred none) hK2 rfl
    have hold2 := ((hold.setCell (p := ⟨b, 0, none⟩) (by simp) (.slice ao out.length cap)).setCell (p := ⟨b + 1, 0, none⟩) (by simp) (.int .i64 l.length)).trans (Old.putObj _ D (.deferred none) hDb)
    have hb := Hb.out
    refine ⟨.tuple #[.slice ao out.length cap, .int .i64 l.length], by simp [results, Tryz.results14, go_sem, C0, C1], _, by rw [Hp.out], by rw [Hp.out]; exact Pairs0.of_owns ho2, x0.upon (hold2.below (by omega) (by omega) (by simp; omega))⟩
  case stop =>
    rintro D c pre W hD hS ⟨rfl, v, out, beg, hgo, br0, ho, br1, hold⟩ hK
    obtain ⟨rest, hrest⟩ := hS
    have hp : parseB l = (out, beg) := by
      have := hgo rest
      rw [hrest] at this
      exact this
    have Hp := Lib.hid hp
    clear hgo hp
    gi_wp2
    refine ⟨by simp, .inl ⟨_, _, rfl, run_takeDeferred hK, ?_⟩⟩
    have hDb : b + 1 + 1 + 1 + 1 + 1 ≤ D := by omega
    have q0 := br0.kept (grownBy_putObj' _ D (.deferred none)) (by intro h; cases h; omega)
    have q1 := br1.kept (grownBy_putObj' _ D (.deferred none)) (by intro h; cases h; omega)
    have C0 := q0.cell
    have C1 := q1.cell
    have ho2 := ownsRow_putObj ho (.deferred none) hK rfl
    have hold2 := hold.trans (Old.putObj _ D (.deferred none) hDb)
    have hb := Hb.out
    refine ⟨.tuple #[v, .int .i64 beg], by simp [results, Tryz.results14, go_sem, C0, C1], _, by rw [Hp.out], by rw [Hp.out]; exact Pairs0.of_owns ho2, x0.upon (hold2.below (by omega) (by omega) (by simp; omega))⟩
end Go.Proofs.YtdjcjkpodggdpaaGreatDoor
