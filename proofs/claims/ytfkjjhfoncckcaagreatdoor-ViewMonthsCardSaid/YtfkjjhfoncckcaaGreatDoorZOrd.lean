/- The order of a month's views, and the selection of the least one. Rows of booleans in a block; the selection of the least view that is not done. The lines of a month's page, and what is read of them. date.Month yields some number. -/
import Derived.Test.YtfkjjhfoncckcaaGreatDoorYMonthW
import Derived.Deep.OwnRows
import Derived.Test.YtfkjjhfoncckcaaGreatDoorZDig
import Derived.Test.YtfkjjhfoncckcaaGreatDoorVUnhex
import Derived.Test.YtfkjjhfoncckcaaGreatDoorYDate
import Derived.Test.YtfkjjhfoncckcaaGreatDoorYList
namespace Go.Proofs.YtfkjjhfoncckcaaGreatDoor
open Go.RowKit Go.Sort

def lessQ (a b : ViewT) : Bool := decide (a.date < b.date ∨ a.date = b.date ∧ a.id < b.id)
theorem bless : ∀ (x y : List UInt8), Op.bytesLess x y = decide (x < y)
  | [], [] => by simp [Op.bytesLess]
  | _ :: _, [] => by simp [Op.bytesLess]
  | [], _ :: _ => by simp [Op.bytesLess]
  | a :: x, b :: y => by
    rw [Op.bytesLess, bless x y]
    simp only [List.cons_lt_cons_iff]
    by_cases h1 : a < b <;> by_cases h2 : a = b <;> by_cases h3 : x < y <;> simp [h1, h2, h3]
theorem cmp_less (x y : VC) : ltOf VC.cmp x y = lessQ x.q y.q := by
  have hs : compareS x.q.id y.q.id < 0 ↔ x.q.id < y.q.id := by
    unfold compareS
    rw [bless]
    by_cases h : x.q.id < y.q.id
    · simp [h]
    · simp only [h, decide_false, Bool.false_eq_true, if_false, iff_false]
      split <;> decide
  have hi : Lib.compareInt x.q.date y.q.date < 0 ↔ x.q.date < y.q.date := by
    unfold Lib.compareInt
    repeat' split
    all_goals (first | omega | simp_all)
  have h0 : Lib.compareInt x.q.date y.q.date = 0 ↔ x.q.date = y.q.date := by
    unfold Lib.compareInt
    repeat' split
    all_goals (first | omega | simp_all)
  unfold ltOf lessQ VC.cmp orI
  rw [decide_eq_decide]
  by_cases h : Lib.compareInt x.q.date y.q.date = 0
  · rw [if_pos h, hs]
    have := h0.1 h
    constructor
    · exact fun h => .inr ⟨this, h⟩
    · rintro (h | ⟨_, h⟩)
      · omega
      · exact h
  · rw [if_neg h, hi]
    constructor
    · exact .inl
    · rintro (h2 | ⟨h2, _⟩)
      · exact h2
      · exact absurd (h0.2 h2) h
theorem lessQ_irrefl (a : ViewT) : lessQ a a = false := by simp [lessQ, List.lt_irrefl]
theorem lessQ_total (a b : ViewT) (h1 : lessQ a b = false) (h2 : lessQ b a = false) : a.id = b.id := by
  simp only [lessQ, decide_eq_false_iff_not, not_or, not_and] at h1 h2
  have hd : a.date = b.date := by omega
  exact List.le_antisymm (List.not_lt.1 (h2.2 hd.symm)) (List.not_lt.1 (h1.2 hd))
theorem swo_vc : SWO (ltOf VC.cmp) where
  irrefl x := by rw [cmp_less, lessQ_irrefl]
  trans x y z h1 h2 := by
    rw [cmp_less] at *
    simp only [lessQ, decide_eq_true_eq] at *
    rcases h1 with h1 | ⟨h1, h3⟩ <;> rcases h2 with h2 | ⟨h2, h4⟩
    · left; omega
    · left; omega
    · left; omega
    · exact .inr ⟨by omega, List.lt_trans h3 h4⟩
  ntrans x y z h1 h2 := by
    rw [cmp_less] at *
    simp only [lessQ, decide_eq_false_iff_not, not_or, not_and, List.not_lt] at *
    refine ⟨by omega, fun h => ?_⟩
    exact List.le_trans (h2.2 (by omega)) (h1.2 (by omega))
/-- A row of views in order: a permutation of qs, no later one less than an earlier one. -/
structure Ord (qs D : List ViewT) : Prop where
  perm : D.Perm qs
  sorted : ∀ i j (hi : i < D.length) (hj : j < D.length), i < j → lessQ D[j] D[i] = false
theorem ord_sortV (d : Array VC) : Ord (d.toList.map VC.q) ((sortV d).toList.map VC.q) := by
  obtain ⟨hp, hs⟩ := insertionSort_holds swo_vc d 0 d.size (Nat.zero_le _) (Nat.le_refl _)
  have hsz := hp.1
  refine ⟨?_, fun i j hi hj hij => ?_⟩
  · have h := hp.2.2
    rw [Array.extract_eq_self_of_le (Nat.le_of_eq hsz), Array.extract_eq_self_of_le (Nat.le_refl _)] at h
    exact h.map _
  · have hi' : i < (sortV d).size := by simpa using hi
    have hj' : j < (sortV d).size := by simpa using hj
    have h := hs i j (Nat.zero_le _) hij (by rw [← hsz]; exact hj')
    have e1 : (insertionSort (ltOf VC.cmp) d 0 d.size)[j]! = (sortV d)[j] := getElem!_pos (sortV d) j hj'
    have e2 : (insertionSort (ltOf VC.cmp) d 0 d.size)[i]! = (sortV d)[i] := getElem!_pos (sortV d) i hi'
    rw [e1, e2, cmp_less] at h
    simpa using h
def DistIds (qs : List ViewT) : Prop := (qs.map ViewT.id).Nodup
/-- Is the view among the first j? -/
def doneQ (D : List ViewT) (j : Nat) (q : ViewT) : Bool := ((D.take j).map ViewT.id).contains q.id
theorem nodup_inj {l : List ViewT} (h : DistIds l) {i j : Nat} (hi : i < l.length) (hj : j < l.length) (e : l[i].id = l[j].id) : i = j := by
  have h1 : (l.map ViewT.id)[i]'(by simpa using hi) = (l.map ViewT.id)[j]'(by simpa using hj) := by simpa using e
  have hp := List.pairwise_iff_getElem.1 h
  rcases Nat.lt_trichotomy i j with hlt | he | hlt
  · exact absurd h1 (hp i j (by simpa using hi) (by simpa using hj) hlt)
  · exact he
  · exact absurd h1.symm (hp j i (by simpa using hj) (by simpa using hi) hlt)
theorem not_done {D : List ViewT} (h : DistIds D) {j p : Nat} (hp : p < D.length) : doneQ D j D[p] = decide (p < j) := by
  unfold doneQ
  rw [Bool.eq_iff_iff]
  simp only [List.contains_iff_mem, List.mem_map, decide_eq_true_eq]
  constructor
  · rintro ⟨q, hq, he⟩
    obtain ⟨k, hk, rfl⟩ := List.getElem_of_mem hq
    rw [List.length_take] at hk
    rw [List.getElem_take] at he
    have := nodup_inj h (i := k) (j := p) (by omega) hp he
    omega
  · intro hlt
    refine ⟨D[p], ?_, rfl⟩
    rw [List.mem_take_iff_getElem]
    exact ⟨p, by omega, rfl⟩
theorem select {qs D : List ViewT} (ho : Ord qs D) (hd : DistIds qs) (j : Nat) (hj : j < D.length) (q : ViewT) (hq : q ∈ qs) (hn : doneQ D j q = false) (hmin : ∀ p ∈ qs, doneQ D j p = false → lessQ p q = false) : q = D[j] := by
  have hD : DistIds D := (ho.perm.map _).nodup_iff.2 hd
  obtain ⟨p, hp, rfl⟩ := List.getElem_of_mem (ho.perm.mem_iff.2 hq)
  rw [not_done hD hp, decide_eq_false_iff_not] at hn
  by_cases hpj : p = j
  · subst hpj; rfl
  exfalso
  have h1 := hmin D[j] (ho.perm.mem_iff.1 (List.getElem_mem hj)) (by rw [not_done hD hj]; simp)
  have h2 := ho.sorted j p hj hp (by omega)
  exact hpj (nodup_inj hD hp hj (lessQ_total _ _ h2 h1))
theorem ord_unique {qs D E : List ViewT} (h1 : Ord qs D) (h2 : Ord qs E) (hd : DistIds qs) : D = E := by
  have hl : D.length = E.length := (h1.perm.trans h2.perm.symm).length_eq
  have hE : DistIds E := (h2.perm.map _).nodup_iff.2 hd
  have key : ∀ j, j ≤ D.length → D.take j = E.take j := by
    intro j
    induction j with
    | zero => intro _; rfl
    | succ j ih =>
      intro hj
      have ih := ih (by omega)
      have hjE : j < E.length := by omega
      have e : E[j] = D[j] := by
        refine select h1 hd j (by omega) E[j] (h2.perm.mem_iff.1 (List.getElem_mem hjE)) ?_ ?_
        · have : doneQ D j = doneQ E j := by unfold doneQ; rw [ih]
          rw [this, not_done hE hjE]
          simp
        · intro p hp hn
          have : doneQ D j = doneQ E j := by unfold doneQ; rw [ih]
          rw [this] at hn
          obtain ⟨k, hk, rfl⟩ := List.getElem_of_mem (h2.perm.mem_iff.2 hp)
          rw [not_done hE hk, decide_eq_false_iff_not] at hn
          by_cases hkj : k = j
          · subst hkj; exact lessQ_irrefl _
          · exact h2.sorted j k hjE hk (by omega)
      rw [List.take_succ_eq_append_getElem (by omega : j < D.length), List.take_succ_eq_append_getElem hjE, ih, e]
  have := key D.length (Nat.le_refl _)
  rw [List.take_length, hl, List.take_length] at this
  exact this
end Go.Proofs.YtfkjjhfoncckcaaGreatDoor
namespace Go.Proofs.YtfkjjhfoncckcaaGreatDoor
open Go.RowKit Go.Sort

/-- A block of booleans. -/
def Bools (W : World) (g : Nat) (ds : List Bool) : Prop := W.heap[g]? = some (.cells (ds.map Value.bool).toArray 4 (0, 0))
section
variable {W W' : World} {g : Nat} {ds : List Bool}
theorem Bools.lt (h : Bools W g ds) : g < W.heap.size := (Array.getElem?_eq_some_iff.1 h).1
theorem Bools.cell (h : Bools W g ds) (i : Nat) (hi : i < ds.length) : W.cell? ⟨g, i, none⟩ = some (.bool ds[i]) := by
  rw [Lib.cell_of_heap h]
  simp [hi]
theorem Bools.frozen (h : Bools W g ds) (o : Nat) : W.frozen? ⟨g, o, none⟩ = false := by
  have h' : W.heap[g]? = some (.cells (ds.map Value.bool).toArray 4 (0, 0)) := h
  simp [World.frozen?, h']
theorem Bools.put (h : Bools W g ds) (i : Nat) (v : Bool) : Bools (W.setCell ⟨g, i, none⟩ (.bool v)) g (ds.set i v) := by
  have := setCell_cs W g i (.bool v) h
  unfold Bools
  rw [this]
  congr 2
  rw [List.setIfInBounds_toArray, List.map_set]
theorem Bools.ext (h : Bools W g ds) (x : Ext W W') : Bools W' g ds := (x.heap h.lt).trans h
end
theorem infoBool : (Tryz.prog.info? 4).map (fun i => (i.zero, i.size, i.bytes)) = some (some (.bool false), 1, 1) := by kernel_rfl
theorem made_bools (W : World) (n : Nat) : Bools (W.alloc (.cells (madeCells #[.bool false] n) 4)) W.heap.size (List.replicate n false) := by
  have e : madeCells #[.bool false] n = ((List.replicate n false).map Value.bool).toArray := by
    apply Array.toList_inj.1
    rw [toList_madeCells_one]
    simp
  unfold Bools
  rw [e]
  exact heap_new W _
theorem lessQ_trans {a b c : ViewT} (h1 : lessQ a b = true) (h2 : lessQ b c = true) : lessQ a c = true := by
  simp only [lessQ, decide_eq_true_eq] at *
  rcases h1 with h1 | ⟨h1, h3⟩ <;> rcases h2 with h2 | ⟨h2, h4⟩
  · left; omega
  · left; omega
  · left; omega
  · exact .inr ⟨by omega, List.lt_trans h3 h4⟩
/-- The least of the first i views that are not done: its number. -/
def Best (qs D : List ViewT) (j i : Nat) (t : Int) : Prop :=
  (t = -1 ∧ ∀ a (ha : a < qs.length), a < i → doneQ D j qs[a] = true) ∨
  ∃ b : Nat, t = b ∧ b < i ∧ ∃ hb : b < qs.length, doneQ D j qs[b] = false ∧ ∀ a (ha : a < qs.length), a < i → doneQ D j qs[a] = false → lessQ qs[a] qs[b] = false
theorem Best.zero (qs D : List ViewT) (j : Nat) : Best qs D j 0 (-1) := .inl ⟨rfl, fun a _ h => absurd h (Nat.not_lt_zero _)⟩
section
variable {qs D : List ViewT} {j i : Nat} {t : Int}
theorem Best.done (h : Best qs D j i t) (hi : i < qs.length) (hd : doneQ D j qs[i] = true) : Best qs D j (i + 1) t := by
  rcases h with ⟨h1, h2⟩ | ⟨b, h1, h2, hb, h3, h4⟩
  · refine .inl ⟨h1, fun a ha hai => ?_⟩
    by_cases e : a = i
    · subst e; exact hd
    · exact h2 a ha (by omega)
  · refine .inr ⟨b, h1, by omega, hb, h3, fun a ha hai hn => ?_⟩
    by_cases e : a = i
    · subst e; rw [hd] at hn; cases hn
    · exact h4 a ha (by omega) hn
theorem Best.first (h : Best qs D j i t) (ht : t < 0) (hi : i < qs.length) (hd : doneQ D j qs[i] = false) : Best qs D j (i + 1) i := by
  rcases h with ⟨h1, h2⟩ | ⟨b, h1, _⟩
  · refine .inr ⟨i, rfl, by omega, hi, hd, fun a ha hai hn => ?_⟩
    by_cases e : a = i
    · subst e; exact lessQ_irrefl _
    · rw [h2 a ha (by omega)] at hn; cases hn
  · omega
theorem Best.less (h : Best qs D j i t) {b : Nat} (ht : t = b) (hb : b < qs.length) (hi : i < qs.length) (hd : doneQ D j qs[i] = false) (hl : lessQ qs[i] qs[b] = true) : Best qs D j (i + 1) i := by
  rcases h with ⟨h1, _⟩ | ⟨b2, h1, h2, hb2, h3, h4⟩
  · omega
  · obtain rfl : b = b2 := by omega
    refine .inr ⟨i, rfl, by omega, hi, hd, fun a ha hai hn => ?_⟩
    by_cases e : a = i
    · subst e; exact lessQ_irrefl _
    · cases hq : lessQ qs[a] qs[i] with
      | false => rfl
      | true =>
        have := h4 a ha (by omega) hn
        rw [lessQ_trans hq hl] at this
        cases this
theorem Best.keep (h : Best qs D j i t) {b : Nat} (ht : t = b) (hb : b < qs.length) (hi : i < qs.length) (hl : lessQ qs[i] qs[b] = false) : Best qs D j (i + 1) t := by
  rcases h with ⟨h1, _⟩ | ⟨b2, h1, h2, hb2, h3, h4⟩
  · omega
  · obtain rfl : b = b2 := by omega
    refine .inr ⟨b, h1, by omega, hb2, h3, fun a ha hai hn => ?_⟩
    by_cases e : a = i
    · subst e; exact hl
    · exact h4 a ha (by omega) hn
theorem Best.last (ho : Ord qs D) (hd : DistIds qs) (h : Best qs D j qs.length t) (hj : j < D.length) : ∃ b : Nat, t = b ∧ ∃ hb : b < qs.length, qs[b] = D[j] := by
  rcases h with ⟨_, h2⟩ | ⟨b, h1, _, hb, h3, h4⟩
  · exfalso
    obtain ⟨a, ha, he⟩ := List.getElem_of_mem (ho.perm.mem_iff.1 (List.getElem_mem hj))
    have := h2 a ha ha
    rw [he, not_done ((ho.perm.map _).nodup_iff.2 hd) hj] at this
    simp at this
  · refine ⟨b, h1, hb, select ho hd j hj _ (List.getElem_mem hb) h3 fun p hp hn => ?_⟩
    obtain ⟨a, ha, rfl⟩ := List.getElem_of_mem hp
    exact h4 a ha ha hn
theorem doneQ_zero (D : List ViewT) (qs : List ViewT) : qs.map (doneQ D 0) = List.replicate qs.length false := by
  apply List.ext_getElem
  · simp
  · intro i h1 h2
    simp [doneQ]
theorem doneQ_set (ho : Ord qs D) (hd : DistIds qs) (hj : j < D.length) {b : Nat} (hb : b < qs.length) (he : qs[b] = D[j]) : (qs.map (doneQ D j)).set b true = qs.map (doneQ D (j + 1)) := by
  have hD : DistIds D := (ho.perm.map _).nodup_iff.2 hd
  apply List.ext_getElem
  · simp
  · intro c h1 h2
    have hc : c < qs.length := by simpa using h2
    rw [List.getElem_set, List.getElem_map, List.getElem_map]
    obtain ⟨p, hp, hpe⟩ := List.getElem_of_mem (ho.perm.mem_iff.2 (List.getElem_mem hc))
    by_cases e : b = c
    · subst e
      rw [if_pos rfl, he, not_done hD hj]
      simp
    · rw [if_neg e, ← hpe, not_done hD hp, not_done hD hp]
      have hpj : p ≠ j := fun h => by
        subst h
        exact e (nodup_inj hd hb hc (by rw [he, ← hpe]))
      rw [decide_eq_decide]
      omega
end
end Go.Proofs.YtfkjjhfoncckcaaGreatDoor
namespace Go.Proofs.YtfkjjhfoncckcaaGreatDoor
open Go.RowKit Go.Sort

/-- Lines, each followed by a line feed. -/
def joinLF (ls : List (List UInt8)) : List UInt8 := (ls.map (· ++ [10])).flatten
theorem joinLF_append (a b : List (List UInt8)) : joinLF (a ++ b) = joinLF a ++ joinLF b := by simp [joinLF]
theorem linesB_join (ls : List (List UInt8)) (h : ∀ l ∈ ls, Cl l) : linesB (joinLF ls) = ls := by
  induction ls with
  | nil => rfl
  | cons l ls ih =>
    have hl := h l List.mem_cons_self
    have e : joinLF (l :: ls) = l ++ [10] ++ joinLF ls := by simp [joinLF]
    rw [e, linesB_line l _ (fun c hc he => by have := hl c hc; rw [he] at this; exact absurd this (by decide)) (fun c hc he => by have := hl c hc; rw [he] at this; exact absurd this (by decide)),
      ih (fun x hx => h x (List.mem_cons_of_mem _ hx))]
theorem linesE_join {α : Type} (f : α → List (List UInt8)) (l : List α) : ∀ E : List (List UInt8), linesE f (joinLF E) l = joinLF (E ++ l.map (fun x => (f x).flatten)) := by
  induction l with
  | nil => intro E; rw [List.map_nil, List.append_nil]; rfl
  | cons x l ih =>
    intro E
    have e : putL (joinLF E) (f x) = joinLF (E ++ [(f x).flatten]) := by rw [joinLF_append, putL]; simp [joinLF]
    show linesE f (putL (joinLF E) (f x)) l = _
    rw [e, ih, List.append_assoc]
    rfl
def monthL0 (nm : List UInt8) (x : ListT) : List UInt8 := [109, 111, 110, 116, 104, 32] ++ nm ++ [32, 111, 102, 32] ++ escapeB x.name
def monthL1 (m : MonthT) : List UInt8 := [109, 101, 115, 115, 97, 103, 101, 115, 32] ++ Lib.itoa m.count
def monthL2 (m : MonthT) : List UInt8 := [114, 111, 111, 116, 32] ++ hexB m.root
def lineQ (q : ViewT) : List UInt8 := hexB q.commit ++ [32] ++ escapeB q.id
theorem month_lines (nm : List UInt8) (hn : Cl nm) (x : ListT) (m : MonthT) (D : List ViewT) : linesB (linesE monthL (monthE3 nm x m) D) = monthL0 nm x :: monthL1 m :: monthL2 m :: D.map lineQ := by
  have e3 : monthE3 nm x m = joinLF [monthL0 nm x, monthL1 m, monthL2 m] := by
    unfold monthE3 monthE2 monthE1 putL joinLF monthL0 monthL1 monthL2
    simp
  have e4 : D.map (fun q => (monthL q).flatten) = D.map lineQ := List.map_congr_left fun q _ => by simp [monthL, lineQ]
  rw [e3, linesE_join, e4, linesB_join]
  · rfl
  · intro l hl
    simp only [List.cons_append, List.nil_append, List.mem_cons, List.mem_map] at hl
    rcases hl with rfl | rfl | rfl | ⟨q, _, rfl⟩
    · exact (((Cl.of rfl).append hn).append (Cl.of rfl)).append (Cl.esc _)
    · exact (Cl.of rfl).append (Cl.itoa _)
    · exact (Cl.of rfl).append (Cl.hex _)
    · exact ((Cl.hex _).append (Cl.of rfl)).append (Cl.esc _)
theorem idx_dig : ∀ n, n < 16 → idxD (digB.getD n 0) = some n := by decide
theorem dig_nospace : ∀ n, n < 16 → digB.getD n 0 ≠ 32 := by decide
theorem unhex_hex (s : List UInt8) : unhexB (hexB s) = some s := by
  induction s with
  | nil => rfl
  | cons c s ih =>
    have h1 : c.toNat / 16 < 16 := by have := c.toNat_lt; omega
    have h2 : c.toNat % 16 < 16 := by omega
    have e : hexB (c :: s) = digB.getD (c.toNat / 16) 0 :: digB.getD (c.toNat % 16) 0 :: hexB s := by simp [hexB, hex2]
    rw [e, unhexB, idx_dig _ h1, idx_dig _ h2]
    show (unhexB (hexB s)).map _ = _
    rw [ih]
    show some (_ :: s) = _
    congr 2
    rw [show 16 * (c.toNat / 16) + c.toNat % 16 = c.toNat by omega]
    exact UInt8.ofNat_toNat
theorem hex_nospace (s : List UInt8) : ∀ c ∈ hexB s, c ≠ 32 := by
  intro c hc
  obtain ⟨b, _, h⟩ := List.mem_flatMap.1 hc
  have h1 : b.toNat / 16 < 16 := by have := b.toNat_lt; omega
  have h2 : b.toNat % 16 < 16 := by omega
  simp only [hex2, List.mem_cons, List.not_mem_nil, or_false] at h
  rcases h with rfl | rfl
  · exact dig_nospace _ h1
  · exact dig_nospace _ h2
end Go.Proofs.YtfkjjhfoncckcaaGreatDoor
namespace Go.Proofs.YtfkjjhfoncckcaaGreatDoor
open Go.RowKit Go.Sort

/-- Some int is returned. -/
def RN (e : Ending) : Prop := ∃ n, I64 n ∧ e = .returned (.int .i64 n)
theorem wrap_I64 (n : Int) : I64 (wrap64 n) := by
  unfold I64 wrap64
  omega
set_option maxHeartbeats 1000000 in
set_option maxRecDepth 100000 in
theorem civilms_some (x : Int) (w : World) : Calls Tryz.prog 42 #[.int .i64 x] w fun e w' => RIII e ∧ w' = w := by
  go_enter Tryz.func42, Tryz.ntmps42
  go_wp2_with fail
  refine (is_some x w).mono ?_
  rintro e w1 ⟨⟨b, rfl⟩, rfl⟩
  cases b with
  | false =>
    go_wp2
    go_ret3
    exact ⟨RIII.i _ _ _, rfl⟩
  | true =>
    go_wp2_with fail
    refine (civil_some _ _).mono ?_
    rintro e w2 ⟨⟨a, b, c, rfl⟩, rfl⟩
    go_wp2_with fail
    go_ret3
    exact ⟨RIII.i _ _ _, rfl⟩
set_option maxHeartbeats 1000000 in
set_option maxRecDepth 100000 in
theorem monthn_some (x : Int) (w : World) : Calls Tryz.prog 17 #[.int .i64 x] w fun e w' => RN e ∧ w' = w := by
  go_enter Tryz.func17, Tryz.ntmps17
  go_wp2_with fail
  refine (is_some x w).mono ?_
  rintro e w1 ⟨⟨b, rfl⟩, rfl⟩
  cases b with
  | false =>
    go_wp2
    go_ret
    exact ⟨⟨-1, ⟨by decide, by decide⟩, rfl⟩, rfl⟩
  | true =>
    go_wp2_with fail
    refine (civilms_some x _).mono ?_
    rintro e w2 ⟨⟨a, b, c, rfl⟩, rfl⟩
    go_wp2_with fail
    go_ret
    exact ⟨⟨_, wrap_I64 _, rfl⟩, rfl⟩
end Go.Proofs.YtfkjjhfoncckcaaGreatDoor
