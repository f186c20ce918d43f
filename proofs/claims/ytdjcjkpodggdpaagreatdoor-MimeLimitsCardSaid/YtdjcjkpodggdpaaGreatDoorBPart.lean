/- The tree of parts: what lies in the heap, and what mime.Parse computes. -/
import Derived.Test.YtdjcjkpodggdpaaGreatDoorBDiv
namespace Go.Proofs.YtdjcjkpodggdpaaGreatDoor
open Go.RowKit

/-- A part: fields, type, params, body, parts. -/
inductive PartT where
  | mk (f : List (List UInt8 × List UInt8)) (t : List UInt8) (p : List (List UInt8 × List UInt8)) (b : List UInt8) (ps : List PartT)
namespace PartT
def f : PartT → List (List UInt8 × List UInt8) | mk f _ _ _ _ => f
def t : PartT → List UInt8 | mk _ t _ _ _ => t
def p : PartT → List (List UInt8 × List UInt8) | mk _ _ p _ _ => p
def b : PartT → List UInt8 | mk _ _ _ b _ => b
def ps : PartT → List PartT | mk _ _ _ _ ps => ps
end PartT

mutual
/-- What a part's value says; the rows of parts lie in blocks of S. -/
def PartAt (W : World) (S : Nat → Prop) : PartT → Value → Prop
  | .mk f t p b ps, v => ∃ af nf cf ap np cp aq nq cq, v = .agg #[.slice af nf cf, vstr t, .slice ap np cp, vstr b, .slice aq nq cq] ∧ Pairs0 W (.slice af nf cf) f ∧ Pairs0 W (.slice ap np cp) p ∧ nq = ps.length ∧
    (ps = [] ∨ ∃ b' o xs, aq = some ⟨b', o, none⟩ ∧ S b' ∧ nq ≤ cq ∧ (∀ i (hi : i < xs.length), W.cell? ⟨b', o + i, none⟩ = some (xs[i]'hi)) ∧ CellsAt W S ps xs)
/-- The cells of parts. -/
def CellsAt (W : World) (S : Nat → Prop) : List PartT → List Value → Prop
  | [], xs => xs = []
  | q :: qs, xs => ∃ v0 v1 v2 v3 v4 t, xs = v0 :: v1 :: v2 :: v3 :: v4 :: t ∧ PartAt W S q (.agg #[v0, v1, v2, v3, v4]) ∧ CellsAt W S qs t
end

/-- No number. -/
def NoNum (v : Value) : Prop := ∀ k x, v ≠ .int k x
/-- In the blocks of S every cell but those of numbers is as it was; and so is every block that begins with a string. -/
structure Keep (S : Nat → Prop) (W W' : World) : Prop where
  cells : ∀ k o v, S k → NoNum v → W.cell? ⟨k, o, none⟩ = some v → W'.cell? ⟨k, o, none⟩ = some v
  strs : ∀ k s, W.cell? ⟨k, 0, none⟩ = some (vstr s) → ∀ o v, W.cell? ⟨k, o, none⟩ = some v → W'.cell? ⟨k, o, none⟩ = some v
theorem Keep.trans {S : Nat → Prop} {A B C : World} (h : Keep S A B) (k : Keep S B C) : Keep S A C :=
  ⟨fun b o v hn hv hc => k.cells b o v hn hv (h.cells b o v hn hv hc), fun b s h1 o v hc => k.strs b s (h.strs b s h1 0 _ h1) o v (h.strs b s h1 o v hc)⟩
theorem Keep.mono {S T : Nat → Prop} {A B : World} (h : Keep S A B) (hm : ∀ b, T b → S b) : Keep T A B := ⟨fun b o v hn hv hc => h.cells b o v (hm b hn) hv hc, h.strs⟩
theorem Ext.keep {S : Nat → Prop} {W W' : World} (h : Ext W W') : Keep S W W' := ⟨fun _ _ _ _ _ hc => h.holds hc, fun _ _ _ _ _ hc => h.holds hc⟩
theorem noNum_str (l : List UInt8) : NoNum (vstr l) := fun _ _ h => by cases h
theorem noNum_slice (a : Option Addr) (n c : Nat) : NoNum (.slice a n c) := fun _ _ h => by cases h
/-- A block that holds a number alone. -/
theorem keep_of_num {S : Nat → Prop} {r : Nat} {W W' : World} {t : TypeId} {k : IntKind} {x : Int} (hr : Boxed W r t (.int k x)) (h : ∀ b o v, b ≠ r → W.cell? ⟨b, o, none⟩ = some v → W'.cell? ⟨b, o, none⟩ = some v) : Keep S W W' := by
  have hh : W.heap[r]? = some (.cells #[.int k x] t (0, 0)) := hr
  refine ⟨fun b o v _ hv hc => h b o v ?_ hc, fun b s h1 o v hc => h b o v ?_ hc⟩
  · rintro rfl
    simp only [World.cell?, hh] at hc
    cases o with
    | zero => simp at hc; exact hv k x hc.symm
    | succ o => simp at hc
  · rintro rfl
    simp [World.cell?, hh] at h1
theorem Old.keep {S : Nat → Prop} {W W' : World} {r N : Nat} {t : TypeId} {k : IntKind} {x : Int} (h : Old N [r] W W') (hN : W.heap.size ≤ N) (hr : Boxed W r t (.int k x)) : Keep S W W' :=
  keep_of_num hr fun b o v hne hc => h.cell (by have := lt_of_cell hc; omega) (by simpa using hne) hc
theorem Pairs0.keep {S : Nat → Prop} {W W' : World} (h : Keep S W W') {v : Value} {l : List (List UInt8 × List UInt8)} (k : Pairs0 W v l) : Pairs0 W' v l := by
  rcases k with k | ⟨hne, b, c, rfl, hc, hcells⟩
  · exact .inl k
  · have h0 := hcells 0 (List.length_pos_iff.2 hne)
    have hp := h.strs b _ h0.1
    exact .inr ⟨hne, b, c, rfl, hc, fun i hi => ⟨hp _ _ (hcells i hi).1, hp _ _ (hcells i hi).2⟩⟩
theorem Strs0.keep {S : Nat → Prop} {W W' : World} (h : Keep S W W') {v : Value} {l : List (List UInt8)} (k : Strs0 W v l) : Strs0 W' v l := by
  rcases k with k | ⟨hne, b, c, rfl, hc, hcells⟩
  · exact .inl k
  · have hp := h.strs b _ (hcells 0 (List.length_pos_iff.2 hne))
    exact .inr ⟨hne, b, c, rfl, hc, fun i hi => hp _ _ (hcells i hi)⟩
theorem PartAt.noNum {W : World} {S : Nat → Prop} {q : PartT} {v0 v1 v2 v3 v4 : Value} (h : PartAt W S q (.agg #[v0, v1, v2, v3, v4])) : ∀ x ∈ [v0, v1, v2, v3, v4], NoNum x := by
  cases q
  simp only [PartAt] at h
  obtain ⟨af, nf, cf, ap, np, cp, aq, nq, cq, hv, _⟩ := h
  simp only [Value.agg.injEq, Array.mk.injEq, List.cons.injEq, and_true] at hv
  obtain ⟨rfl, rfl, rfl, rfl, rfl⟩ := hv
  intro x hx
  simp only [List.mem_cons, List.not_mem_nil, or_false] at hx
  rcases hx with rfl | rfl | rfl | rfl | rfl
  · exact noNum_slice _ _ _
  · exact noNum_str _
  · exact noNum_slice _ _ _
  · exact noNum_str _
  · exact noNum_slice _ _ _
theorem CellsAt.noNum {W : World} {S : Nat → Prop} : ∀ {qs : List PartT} {xs : List Value}, CellsAt W S qs xs → ∀ x ∈ xs, NoNum x := by
  intro qs
  induction qs with
  | nil => intro xs h x hx; simp only [CellsAt] at h; subst h; simp at hx
  | cons q qs ih =>
    intro xs h x hx
    simp only [CellsAt] at h
    obtain ⟨v0, v1, v2, v3, v4, t, rfl, h1, h2⟩ := h
    rcases List.mem_append.1 (show x ∈ [v0, v1, v2, v3, v4] ++ t from hx) with hx | hx
    · exact h1.noNum x hx
    · exact ih h2 x hx
mutual
theorem PartAt.keep {S : Nat → Prop} {W W' : World} (h : Keep S W W') : ∀ (q : PartT) (v : Value), PartAt W S q v → PartAt W' S q v
  | .mk f t p b ps, v, hq => by
    simp only [PartAt] at hq ⊢
    obtain ⟨af, nf, cf, ap, np, cp, aq, nq, cq, hv, hf, hp, hn, hq⟩ := hq
    refine ⟨af, nf, cf, ap, np, cp, aq, nq, cq, hv, hf.keep h, hp.keep h, hn, ?_⟩
    rcases hq with hq | ⟨b', o, xs, ha, hb, hc, hcells, hat⟩
    · exact .inl hq
    · exact .inr ⟨b', o, xs, ha, hb, hc, fun i hi => h.cells _ _ _ hb (hat.noNum _ (List.getElem_mem hi)) (hcells i hi), CellsAt.keep h ps xs hat⟩
theorem CellsAt.keep {S : Nat → Prop} {W W' : World} (h : Keep S W W') : ∀ (qs : List PartT) (xs : List Value), CellsAt W S qs xs → CellsAt W' S qs xs
  | [], xs, hq => by simp only [CellsAt] at hq ⊢; exact hq
  | q :: qs, xs, hq => by
    simp only [CellsAt] at hq ⊢
    obtain ⟨v0, v1, v2, v3, v4, t, hx, h1, h2⟩ := hq
    exact ⟨v0, v1, v2, v3, v4, t, hx, PartAt.keep h q _ h1, CellsAt.keep h qs t h2⟩
end
theorem CellsAt.length {W : World} {S : Nat → Prop} : ∀ (qs : List PartT) (xs : List Value), CellsAt W S qs xs → xs.length = qs.length * 5 := by
  intro qs
  induction qs with
  | nil => intro xs h; simp only [CellsAt] at h; subst h; rfl
  | cons q qs ih =>
    intro xs h
    simp only [CellsAt] at h
    obtain ⟨v0, v1, v2, v3, v4, t, rfl, h1, h2⟩ := h
    have := ih _ h2
    simp only [List.length_cons]
    omega
mutual
theorem PartAt.mono {S T : Nat → Prop} {W : World} (h : ∀ b, b < W.heap.size → S b → T b) : ∀ (q : PartT) (v : Value), PartAt W S q v → PartAt W T q v
  | .mk f t p b ps, v, hq => by
    simp only [PartAt] at hq ⊢
    obtain ⟨af, nf, cf, ap, np, cp, aq, nq, cq, hv, hf, hp, hn, hq⟩ := hq
    refine ⟨af, nf, cf, ap, np, cp, aq, nq, cq, hv, hf, hp, hn, ?_⟩
    rcases hq with hq | ⟨b', o, xs, ha, hb, hc, hcells, hat⟩
    · exact .inl hq
    · by_cases hps : ps = []
      · exact .inl hps
      · refine .inr ⟨b', o, xs, ha, h b' ?_ hb, hc, hcells, CellsAt.mono h ps xs hat⟩
        have hl := CellsAt.length ps xs hat
        have := List.length_pos_iff.2 hps
        exact lt_of_cell (hcells 0 (by omega))
theorem CellsAt.mono {S T : Nat → Prop} {W : World} (h : ∀ b, b < W.heap.size → S b → T b) : ∀ (qs : List PartT) (xs : List Value), CellsAt W S qs xs → CellsAt W T qs xs
  | [], xs, hq => by simp only [CellsAt] at hq ⊢; exact hq
  | q :: qs, xs, hq => by
    simp only [CellsAt] at hq ⊢
    obtain ⟨v0, v1, v2, v3, v4, t, hx, h1, h2⟩ := hq
    exact ⟨v0, v1, v2, v3, v4, t, hx, PartAt.mono h q _ h1, CellsAt.mono h qs t h2⟩
end
theorem CellsAt.snoc {W : World} {S : Nat → Prop} {q : PartT} {u0 u1 u2 u3 u4 : Value} (hq : PartAt W S q (.agg #[u0, u1, u2, u3, u4])) : ∀ {qs : List PartT} {xs : List Value}, CellsAt W S qs xs → CellsAt W S (qs ++ [q]) (xs ++ [u0, u1, u2, u3, u4]) := by
  intro qs
  induction qs with
  | nil =>
    intro xs h
    simp only [CellsAt] at h
    subst h
    simp only [List.nil_append, CellsAt]
    exact ⟨u0, u1, u2, u3, u4, [], rfl, hq, rfl⟩
  | cons x qs ih =>
    intro xs h
    simp only [CellsAt, List.cons_append] at h ⊢
    obtain ⟨v0, v1, v2, v3, v4, t, rfl, h1, h2⟩ := h
    exact ⟨v0, v1, v2, v3, v4, _, rfl, h1, ih h2⟩
theorem CellsAt.at {W : World} {S : Nat → Prop} : ∀ {qs : List PartT} {xs : List Value}, CellsAt W S qs xs → ∀ i (hi : i < qs.length), ∃ v0 v1 v2 v3 v4, xs[i * 5]? = some v0 ∧ xs[i * 5 + 1]? = some v1 ∧ xs[i * 5 + 2]? = some v2 ∧ xs[i * 5 + 3]? = some v3 ∧ xs[i * 5 + 4]? = some v4 ∧
    PartAt W S qs[i] (.agg #[v0, v1, v2, v3, v4]) := by
  intro qs
  induction qs with
  | nil => intro xs h i hi; simp at hi
  | cons q qs ih =>
    intro xs h i hi
    simp only [CellsAt] at h
    obtain ⟨v0, v1, v2, v3, v4, t, rfl, h1, h2⟩ := h
    cases i with
    | zero => exact ⟨v0, v1, v2, v3, v4, rfl, rfl, rfl, rfl, rfl, h1⟩
    | succ i =>
      obtain ⟨u0, u1, u2, u3, u4, e0, e1, e2, e3, e4, he⟩ := ih h2 i (by simpa using hi)
      refine ⟨u0, u1, u2, u3, u4, ?_, ?_, ?_, ?_, ?_, he⟩
      · rw [← e0, show (i + 1) * 5 = i * 5 + 1 + 1 + 1 + 1 + 1 by omega]; rfl
      · rw [← e1, show (i + 1) * 5 + 1 = i * 5 + 1 + 1 + 1 + 1 + 1 + 1 by omega]; rfl
      · rw [← e2, show (i + 1) * 5 + 2 = i * 5 + 2 + 1 + 1 + 1 + 1 + 1 by omega]; rfl
      · rw [← e3, show (i + 1) * 5 + 3 = i * 5 + 3 + 1 + 1 + 1 + 1 + 1 by omega]; rfl
      · rw [← e4, show (i + 1) * 5 + 4 = i * 5 + 4 + 1 + 1 + 1 + 1 + 1 by omega]; rfl

/-- The parts' slice. -/
def PartsAt (W : World) (S : Nat → Prop) (ps : List PartT) (v : Value) : Prop :=
  ∃ aq nq cq, v = .slice aq nq cq ∧ nq = ps.length ∧ (ps = [] ∨ ∃ b' o xs, aq = some ⟨b', o, none⟩ ∧ S b' ∧ nq ≤ cq ∧ (∀ i (hi : i < xs.length), W.cell? ⟨b', o + i, none⟩ = some (xs[i]'hi)) ∧ CellsAt W S ps xs)
theorem PartsAt.of_owns {W : World} {S : Nat → Prop} {base : Nat} {e : TypeId} {v : Value} {qs : List PartT} {xs : List Value} (h : W.ownsRow base e 5 v qs.length xs) (hc : CellsAt W S qs xs) (hS : ∀ b, base ≤ b → S b) : PartsAt W S qs v := by
  by_cases hl : qs = []
  · subst hl
    rcases h.2 with ⟨rfl, _⟩ | ⟨g, cap, cur, rfl, _⟩
    · exact ⟨_, _, _, rfl, rfl, .inl rfl⟩
    · exact ⟨_, _, _, rfl, rfl, .inl rfl⟩
  · rcases h.2 with ⟨_, h0⟩ | ⟨g, cap, cur, hv, hb, hg, hn, _⟩
    · exact absurd (List.length_eq_zero_iff.1 h0) hl
    · subst hv
      refine ⟨_, _, _, rfl, rfl, .inr ⟨g, 0, xs, rfl, hS g hb, hn, fun i hi => ?_, hc⟩⟩
      rw [Nat.zero_add, World.ownsRow.cellAt h i (by have := CellsAt.length _ _ hc; omega)]
      simp [hi]
theorem PartAt.of_parts {W : World} {S : Nat → Prop} {f p : List (List UInt8 × List UInt8)} {t b : List UInt8} {ps : List PartT} {af ap aq : Option Addr} {nf cf np cp nq cq : Nat} (hf : Pairs0 W (.slice af nf cf) f) (hp : Pairs0 W (.slice ap np cp) p) (hq : PartsAt W S ps (.slice aq nq cq)) :
    PartAt W S (.mk f t p b ps) (.agg #[.slice af nf cf, vstr t, .slice ap np cp, vstr b, .slice aq nq cq]) := by
  simp only [PartAt]
  obtain ⟨_, _, _, he, h1, h2⟩ := hq
  cases he
  exact ⟨_, _, _, _, _, _, _, _, _, rfl, hf, hp, h1, h2⟩
theorem PartAt.open {W : World} {S : Nat → Prop} {q : PartT} {v : Value} (h : PartAt W S q v) : ∃ af nf cf ap np cp aq nq cq, v = .agg #[.slice af nf cf, vstr q.t, .slice ap np cp, vstr q.b, .slice aq nq cq] ∧ Pairs0 W (.slice af nf cf) q.f ∧ Pairs0 W (.slice ap np cp) q.p ∧ PartsAt W S q.ps (.slice aq nq cq) := by
  cases q
  simp only [PartAt] at h
  obtain ⟨af, nf, cf, ap, np, cp, aq, nq, cq, hv, hf, hp, hn, hq⟩ := h
  exact ⟨af, nf, cf, ap, np, cp, aq, nq, cq, hv, hf, hp, _, _, _, rfl, hn, hq⟩
theorem PartsAt.keep {S : Nat → Prop} {W W' : World} (h : Keep S W W') {qs : List PartT} {v : Value} (k : PartsAt W S qs v) : PartsAt W' S qs v := by
  obtain ⟨aq, nq, cq, hv, hn, hq⟩ := k
  refine ⟨aq, nq, cq, hv, hn, ?_⟩
  rcases hq with hq | ⟨b', o, xs, ha, hb, hc, hcells, hat⟩
  · exact .inl hq
  · exact .inr ⟨b', o, xs, ha, hb, hc, fun i hi => h.cells _ _ _ hb (hat.noNum _ (List.getElem_mem hi)) (hcells i hi), CellsAt.keep h qs xs hat⟩
theorem PartsAt.mono {S T : Nat → Prop} {W : World} (h : ∀ b, b < W.heap.size → S b → T b) {qs : List PartT} {v : Value} (k : PartsAt W S qs v) : PartsAt W T qs v := by
  obtain ⟨aq, nq, cq, hv, hn, hq⟩ := k
  refine ⟨aq, nq, cq, hv, hn, ?_⟩
  rcases hq with hq | ⟨b', o, xs, ha, hb, hc, hcells, hat⟩
  · exact .inl hq
  · by_cases hps : qs = []
    · exact .inl hps
    · refine .inr ⟨b', o, xs, ha, h b' ?_ hb, hc, hcells, CellsAt.mono h qs xs hat⟩
      have hl := CellsAt.length qs xs hat
      have := List.length_pos_iff.2 hps
      exact lt_of_cell (hcells 0 (by omega))
theorem PartsAt.nil (W : World) (S : Nat → Prop) (a : Option Addr) (c : Nat) : PartsAt W S [] (.slice a 0 c) := ⟨_, _, _, rfl, rfl, .inl rfl⟩

def plainB : List UInt8 := [116, 101, 120, 116, 47, 112, 108, 97, 105, 110]
def octB : List UInt8 := [97, 112, 112, 108, 105, 99, 97, 116, 105, 111, 110, 47, 111, 99, 116, 101, 116, 45, 115, 116, 114, 101, 97, 109]
/-- The parts of texts, one after the other. -/
def partsWith (g : List UInt8 → Nat → Option (PartT × Nat)) : List (List UInt8) → Nat → Option (List PartT × Nat)
  | [], k => some ([], k)
  | s :: t, k => match g s k with
    | none => none
    | some (q, k1) => match partsWith g t k1 with
      | none => none
      | some (qs, k2) => some (q :: qs, k2)
/-- The fields that are kept. -/
def keptB (fs : List (List UInt8 × List UInt8)) : List (List UInt8 × List UInt8) := fs.filter (fun x => !isMimeB x.1)
def typeB (fs : List (List UInt8 × List UInt8)) : List UInt8 := if formedB (lowerB (paramsB (getB fs ctB).1).1) then lowerB (paramsB (getB fs ctB).1).1 else plainB
def tparB (fs : List (List UInt8 × List UInt8)) : List (List UInt8 × List UInt8) := if formedB (lowerB (paramsB (getB fs ctB).1).1) then (paramsB (getB fs ctB).1).2 else []
/-- What (*reader).part computes, as far as 'dec' knows the encodings. -/
def partB (dec : List UInt8 → List UInt8 → Option (List UInt8)) : Nat → List UInt8 → Nat → Nat → Option (PartT × Nat)
  | 0, _, _, _ => none
  | n + 1, raw, level, known =>
    match dec (raw.drop (parseB raw).2) (getB (parseB raw).1 cteB).1 with
    | none => none
    | some c =>
      if containerB (typeB (parseB raw).1) then
        if (divideB (typeB (parseB raw).1) (tparB (parseB raw).1) c).1 = [] ∨ 40 ≤ level ∨ 300 < known + (divideB (typeB (parseB raw).1) (tparB (parseB raw).1) c).1.length then
          some (.mk (keptB (parseB raw).1) octB [] c [], known)
        else match partsWith (fun s k => partB dec n s (level + 1) k) (divideB (typeB (parseB raw).1) (tparB (parseB raw).1) c).1 (known + (divideB (typeB (parseB raw).1) (tparB (parseB raw).1) c).1.length) with
          | none => none
          | some (qs, k2) => some (.mk (keptB (parseB raw).1) (typeB (parseB raw).1) (divideB (typeB (parseB raw).1) (tparB (parseB raw).1) c).2 [] qs, k2)
      else some (.mk (keptB (parseB raw).1) (typeB (parseB raw).1) (tparB (parseB raw).1) c [], known)

/-! ### How long its pieces are -/
/-- Lines that lie one behind the other. -/
def Chained (len : Nat) : Nat → List (List UInt8 × Nat) → Prop
  | _, [] => True
  | a, x :: t => x.1.length + a ≤ x.2 ∧ x.2 ≤ len ∧ Chained len x.2 t
theorem strip_le (l : List UInt8) : (stripB l).length ≤ l.length := by
  unfold stripB Lib.trimSuffix
  split <;> simp
theorem linesGo_chained (len : Nat) : ∀ (l cur : List UInt8) (a st : Nat), st + cur.length ≤ a → a + l.length ≤ len → Chained len st (linesGo l cur a) := by
  intro l
  induction l with
  | nil =>
    intro cur a st h1 h2
    simp only [linesGo]
    split
    · trivial
    · have := strip_le cur
      refine ⟨?_, by simpa using h2, trivial⟩
      dsimp only
      omega
  | cons c t ih =>
    intro cur a st h1 h2
    simp only [linesGo]
    simp only [List.length_cons] at h2
    split
    · have := strip_le cur
      refine ⟨?_, by show a + 1 ≤ len; omega, ih [] (a + 1) (a + 1) (by simp) (by omega)⟩
      dsimp only
      omega
    · exact ih (cur ++ [c]) (a + 1) st (by simp; omega) (by omega)
theorem trimB_blank (c : UInt8) (t : List UInt8) (h : c = 32 ∨ c = 9) : (trimB (c :: t)).length ≤ t.length := by
  have hd : ∀ (p : UInt8 → Bool) (l : List UInt8), (l.dropWhile p).length ≤ l.length := fun p l => (List.dropWhile_suffix p).length_le
  have hr : Lib.trimRightS (c :: t) whiteB <+: (c :: t) := by
    unfold Lib.trimRightS
    have := List.dropWhile_suffix (fun x => whiteB.contains x) (l := (c :: t).reverse)
    have := List.reverse_prefix.2 this
    rwa [List.reverse_reverse] at this
  unfold trimB Lib.trimS Lib.trimLeftS
  obtain ⟨r, hr2⟩ : ∃ r, r = Lib.trimRightS (c :: t) whiteB := ⟨_, rfl⟩
  rw [← hr2] at hr ⊢
  cases r with
  | nil => simp
  | cons d r =>
    obtain ⟨rfl, h2⟩ := List.cons_prefix_cons.1 hr
    have hw : whiteB.contains d = true := by rcases h with rfl | rfl <;> decide
    have h3 := h2.length_le
    have h4 := hd (fun x => whiteB.contains x) r
    rw [List.dropWhile_cons, if_pos hw]
    omega
theorem parseGo_short (len : Nat) : ∀ (ls : List (List UInt8 × Nat)) (out : List (List UInt8 × List UInt8)) (beg a : Nat), a ≤ len → Chained len a ls → (∀ y ∈ out, y.1.length ≤ a ∧ y.2.length ≤ a) →
    ∀ y ∈ (parseGo len ls out beg).1, y.1.length ≤ len ∧ y.2.length ≤ len := by
  intro ls
  induction ls with
  | nil => intro out beg a ha _ ho y hy; have := ho y hy; omega
  | cons x t ih =>
    intro out beg a ha hc ho y hy
    obtain ⟨h1, h2, h3⟩ := hc
    obtain ⟨x1, x2⟩ := x
    dsimp only at h1 h2 h3
    cases x1 with
    | nil => have := ho y hy; omega
    | cons c r =>
      simp only [parseGo] at hy
      simp only [List.length_cons] at h1
      split at hy
      · rename_i hb
        split at hy
        · have := ho y hy; omega
        · refine ih _ _ x2 h2 h3 ?_ y hy
          intro z hz
          simp only [addMore] at hz
          split at hz
          · have := ho z hz; omega
          · simp only [setLast] at hz
            split at hz
            · have := ho z hz; omega
            · rename_i w hw
              rcases List.mem_append.1 hz with hz | hz
              · have := ho z (List.dropLast_subset _ hz); omega
              · simp only [List.mem_singleton] at hz
                subst hz
                have hw2 := ho w (List.mem_of_getLast? hw)
                have hl := trimB_len (w.2 ++ [32] ++ trimB (c :: r))
                have hl2 := trimB_blank c r hb
                simp only [List.length_append, List.length_cons, List.length_nil] at hl
                dsimp only
                omega
      · split at hy
        · refine ih _ _ x2 h2 h3 ?_ y hy
          intro z hz
          rcases List.mem_append.1 hz with hz | hz
          · have := ho z hz; omega
          · simp only [List.mem_singleton] at hz
            subst hz
            have a1 := cut1_len1 58 (c :: r)
            have a2 := cut1_len2 58 (c :: r)
            have a3 := trimB_len (cut1 58 (c :: r)).2.1
            simp only [List.length_cons] at a1 a2
            dsimp only
            omega
        · have := ho y hy; omega
theorem parseGo_le (len : Nat) : ∀ (ls : List (List UInt8 × Nat)) (out : List (List UInt8 × List UInt8)) (beg : Nat), (∀ x ∈ ls, x.2 ≤ len) → beg ≤ len → (parseGo len ls out beg).2 ≤ len := by
  intro ls
  induction ls with
  | nil => intro out beg _ _; exact Nat.le_refl _
  | cons x t ih =>
    intro out beg hx hb
    have hx0 := hx x (by simp)
    have hxt : ∀ x ∈ t, x.2 ≤ len := fun y hy => hx y (by simp [hy])
    obtain ⟨x1, x2⟩ := x
    cases x1 with
    | nil => exact hx0
    | cons c r =>
      simp only [parseGo]
      split
      · split
        · exact hb
        · exact ih _ _ hxt hx0
      · split
        · exact ih _ _ hxt hx0
        · exact hb
theorem parseGo_many (len : Nat) : ∀ (ls : List (List UInt8 × Nat)) (out : List (List UInt8 × List UInt8)) (beg : Nat), out.length ≤ 400 → (parseGo len ls out beg).1.length ≤ 400 := by
  intro ls
  induction ls with
  | nil => intro out beg h; exact h
  | cons x t ih =>
    intro out beg h
    obtain ⟨x1, x2⟩ := x
    cases x1 with
    | nil => exact h
    | cons c r =>
      simp only [parseGo]
      split
      · split
        · exact h
        · refine ih _ _ ?_
          simp only [addMore, setLast]
          split
          · exact h
          · split
            · exact h
            · rename_i w hw
              have : out ≠ [] := by rintro rfl; simp at hw
              have := List.length_pos_iff.2 this
              simp; omega
      · split
        · rename_i h2
          exact ih _ _ (by simp; omega)
        · exact h
theorem parseB_short (l : List UInt8) : ∀ y ∈ (parseB l).1, y.1.length ≤ l.length ∧ y.2.length ≤ l.length :=
  parseGo_short l.length (linesB l) [] 0 0 (Nat.zero_le _) (linesGo_chained l.length l [] 0 0 (by simp) (by simp)) (by simp)
theorem parseB_le (l : List UInt8) : (parseB l).2 ≤ l.length := parseGo_le l.length (linesB l) [] 0 (fun x hx => (linesB_mem hx).2) (Nat.zero_le _)
theorem parseB_many (l : List UInt8) : (parseB l).1.length ≤ 400 := parseGo_many l.length (linesB l) [] 0 (by simp)
theorem getB_le {fs : List (List UInt8 × List UInt8)} {n : List UInt8} {k : Nat} (h : ∀ y ∈ fs, y.1.length ≤ k ∧ y.2.length ≤ k) : (getB fs n).1.length ≤ k := by
  unfold getB
  split
  · rename_i x hx
    exact (h x (List.mem_of_find?_eq_some hx)).2
  · simp
end Go.Proofs.YtdjcjkpodggdpaaGreatDoor
