/- A row of lines in a block of its own; hidden lines with other texts. -/
import Derived.Test.YtfkjjhfoncckcaaGreatDoorYMonthW
namespace Go.Proofs.YtfkjjhfoncckcaaGreatDoor
open Go.RowKit Go.Sort

/-- A line with other text and salt where it is hidden. -/
def hideS (s : List UInt8) (x : ShownT) : ShownT := if x.hid then ⟨true, s, s, x.hash⟩ else x
theorem hideS_tx (s : List UInt8) (x : ShownT) : shownTx (hideS s x) = shownTx x := by
  unfold shownTx hideS
  cases h : x.hid <;> simp [h]
theorem hideS_E (s : List UInt8) (E : List UInt8) (x : ShownT) : shownE E (hideS s x) = shownE E x := by
  unfold shownE hideS
  cases h : x.hid <;> simp [h]
theorem hide_text (s : List UInt8) (l : List ShownT) : textB (l.map (hideS s)) = textB l := by
  unfold textB
  rw [List.map_map]
  congr 1
  exact List.map_congr_left fun x _ => hideS_tx s x
theorem hide_shown (s : List UInt8) (l : List ShownT) : ∀ E, (l.map (hideS s)).foldl shownE E = l.foldl shownE E := by
  induction l with
  | nil => exact fun _ => rfl
  | cons x l ih => intro E; rw [List.map_cons, List.foldl_cons, List.foldl_cons, hideS_E]; exact ih _
theorem hide_message (s : List UInt8) (q : ViewT) : messageB { q with lines := q.lines.map (hideS s) } = messageB q := by
  show putL ((q.lines.map (hideS s)).foldl shownE (headB q)) _ = putL (q.lines.foldl shownE (headB q)) _
  rw [hide_shown]

def shownCells (l : List ShownT) : List Value := (l.map fun x => [.bool x.hid, vstr x.salt, vstr x.text, vstr x.hash]).flatten
theorem shownCells_length (l : List ShownT) : (shownCells l).length = l.length * 4 := by
  induction l with
  | nil => rfl
  | cons x l ih => simp only [shownCells, List.map_cons, List.flatten_cons, List.length_append, List.length_cons, List.length_nil] at ih ⊢; omega
theorem shownCells_at (l : List ShownT) : ∀ i (hi : i < l.length), (shownCells l)[i * 4]? = some (.bool l[i].hid) ∧ (shownCells l)[i * 4 + 1]? = some (vstr l[i].salt) ∧ (shownCells l)[i * 4 + 2]? = some (vstr l[i].text) ∧ (shownCells l)[i * 4 + 3]? = some (vstr l[i].hash) := by
  induction l with
  | nil => intro i hi; simp at hi
  | cons x l ih =>
    intro i hi
    cases i with
    | zero => simp [shownCells]
    | succ i =>
      have h := ih i (by simpa using hi)
      have e0 : (i + 1) * 4 = i * 4 + 1 + 1 + 1 + 1 := by omega
      have e1 : (i + 1) * 4 + 1 = i * 4 + 1 + 1 + 1 + 1 + 1 := by omega
      have e2 : (i + 1) * 4 + 2 = i * 4 + 2 + 1 + 1 + 1 + 1 := by omega
      have e3 : (i + 1) * 4 + 3 = i * 4 + 3 + 1 + 1 + 1 + 1 := by omega
      have e : shownCells (x :: l) = .bool x.hid :: vstr x.salt :: vstr x.text :: vstr x.hash :: shownCells l := by simp [shownCells]
      rw [e3, e2, e1, e0, e]
      simpa using h
theorem shownCells_one (l : List ShownT) : ∀ u ∈ shownCells l, u.oneCell' = true := by
  intro u hu
  obtain ⟨c, hc, hu2⟩ := List.mem_flatten.1 hu
  obtain ⟨x, _, rfl⟩ := List.mem_map.1 hc
  simp only [List.mem_cons, List.not_mem_nil, or_false] at hu2
  rcases hu2 with rfl | rfl | rfl | rfl <;> rfl
theorem showns_cells {W : World} {l : List ShownT} {b o : Nat} (h : ∀ i, i < l.length → ∀ h : i < l.length, ShownAt W l[i] b (o + i * 4)) : ∀ j u, (shownCells l)[j]? = some u → W.cell? ⟨b, o + j, none⟩ = some u := by
  intro j u hu
  have hj : j < l.length * 4 := by
    have := (List.getElem?_eq_some_iff.1 hu).1
    rwa [shownCells_length] at this
  have hi : j / 4 < l.length := by omega
  obtain ⟨a0, a1, a2, a3⟩ := h _ hi hi
  obtain ⟨c0, c1, c2, c3⟩ := shownCells_at l _ hi
  have hr : j % 4 = 0 ∨ j % 4 = 1 ∨ j % 4 = 2 ∨ j % 4 = 3 := by omega
  rcases hr with hr | hr | hr | hr
  · have e : j = j / 4 * 4 := by omega
    rw [e] at hu ⊢
    rw [c0] at hu
    rw [← Option.some.inj hu]
    have e2 : j / 4 * 4 / 4 = j / 4 := by omega
    simpa [e2] using a0
  · have e : j = j / 4 * 4 + 1 := by omega
    have e4 : o + j = o + j / 4 * 4 + 1 := by omega
    rw [e] at hu
    rw [show (j / 4 * 4 + 1) = j / 4 * 4 + 1 from rfl, c1] at hu
    rw [← Option.some.inj hu, e4]
    exact a1
  · have e : j = j / 4 * 4 + 2 := by omega
    have e4 : o + j = o + j / 4 * 4 + 2 := by omega
    rw [e, c2] at hu
    rw [← Option.some.inj hu, e4]
    exact a2
  · have e : j = j / 4 * 4 + 3 := by omega
    have e4 : o + j = o + j / 4 * 4 + 3 := by omega
    rw [e, c3] at hu
    rw [← Option.some.inj hu, e4]
    exact a3
/-- A row of lines. -/
def SRow (W : World) (g : Nat) (l : List ShownT) : Prop := ∃ cs : Array Value, W.heap[g]? = some (.cells cs 45 (0, 0)) ∧ ∀ i (hi : i < l.length), cs[i * 4]? = some (.bool l[i].hid) ∧ cs[i * 4 + 1]? = some (vstr l[i].salt) ∧ cs[i * 4 + 2]? = some (vstr l[i].text) ∧ cs[i * 4 + 3]? = some (vstr l[i].hash)
theorem SRow.lt {W : World} {g : Nat} {l : List ShownT} (h : SRow W g l) : g < W.heap.size := by
  obtain ⟨cs, h1, _⟩ := h
  exact (Array.getElem?_eq_some_iff.1 h1).1
theorem SRow.ext {W W' : World} {g : Nat} {l : List ShownT} (h : SRow W g l) (x : Ext W W') : SRow W' g l := by
  obtain ⟨cs, h1, h2⟩ := h
  exact ⟨cs, (x.heap (Array.getElem?_eq_some_iff.1 h1).1).trans h1, h2⟩
theorem SRow.other {W : World} {g : Nat} {l : List ShownT} (h : SRow W g l) {a : Addr} (v : Value) (hb : g ≠ a.block) : SRow (W.setCell a v) g l := by
  obtain ⟨cs, h1, h2⟩ := h
  exact ⟨cs, (Below.heap_setCell W a v g hb).trans h1, h2⟩
theorem SRow.frozen {W : World} {g : Nat} {l : List ShownT} (h : SRow W g l) (o : Nat) : W.frozen? ⟨g, o, none⟩ = false := by
  obtain ⟨cs, h1, _⟩ := h
  simp [World.frozen?, h1]
theorem SRow.cells {W : World} {g : Nat} {l : List ShownT} (h : SRow W g l) (i : Nat) (hi : i < l.length) : ShownAt W l[i] g (i * 4) := by
  obtain ⟨cs, h1, h2⟩ := h
  obtain ⟨a, b, c, d⟩ := h2 i hi
  exact ⟨by rw [Lib.cell_of_heap h1]; exact a, by rw [Lib.cell_of_heap h1]; exact b, by rw [Lib.cell_of_heap h1]; exact c, by rw [Lib.cell_of_heap h1]; exact d⟩
theorem SRow.at {W : World} {g cap : Nat} {l : List ShownT} (h : SRow W g l) (hc : l.length ≤ cap) : ShownsAt W l (.slice (some ⟨g, 0, none⟩) l.length cap) :=
  ⟨_, _, rfl, hc, .inr ⟨g, 0, rfl, fun i _ hi => by rw [Nat.zero_add]; exact h.cells i hi⟩⟩
theorem SRow.put {W : World} {g : Nat} {l : List ShownT} (h : SRow W g l) (i : Nat) (hi : i < l.length) (hh : l[i].hid = true) (s : List UInt8) :
    SRow ((W.setCell ⟨g, i * 4 + 2, none⟩ (vstr s)).setCell ⟨g, i * 4 + 1, none⟩ (vstr s)) g (l.set i (hideS s l[i])) := by
  obtain ⟨cs, h1, h2⟩ := h
  have e1 := setCell_cs W g (i * 4 + 2) (vstr s) h1
  have e2 := setCell_cs _ g (i * 4 + 1) (vstr s) e1
  have hb : hideS s l[i] = ⟨true, s, s, l[i].hash⟩ := if_pos hh
  obtain ⟨d0, d1, d2, d3⟩ := h2 i hi
  have z1 : i * 4 + 1 < cs.size := (Array.getElem?_eq_some_iff.1 d1).1
  have z2 : i * 4 + 2 < cs.size := (Array.getElem?_eq_some_iff.1 d2).1
  refine ⟨_, e2, fun j hj => ?_⟩
  have hj2 : j < l.length := by rwa [List.length_set] at hj
  obtain ⟨c0, c1, c2, c3⟩ := h2 j hj2
  by_cases hij : j = i
  · subst hij
    have e : (l.set j (hideS s l[j]))[j]'hj = ⟨true, s, s, l[j].hash⟩ := by rw [List.getElem_set_self, hb]
    rw [e]
    refine ⟨?_, ?_, ?_, ?_⟩
    · rw [Array.getElem?_setIfInBounds_ne (by omega), Array.getElem?_setIfInBounds_ne (by omega), c0, hh]
    · rw [Array.getElem?_setIfInBounds_self_of_lt (by rw [Array.size_setIfInBounds]; exact z1)]
    · rw [Array.getElem?_setIfInBounds_ne (by omega), Array.getElem?_setIfInBounds_self_of_lt z2]
    · rw [Array.getElem?_setIfInBounds_ne (by omega), Array.getElem?_setIfInBounds_ne (by omega), c3]
  · have e : (l.set i (hideS s l[i]))[j]'hj = l[j] := List.getElem_set_ne (fun h => hij h.symm) _
    rw [e]
    refine ⟨?_, ?_, ?_, ?_⟩
    · rw [Array.getElem?_setIfInBounds_ne (by omega), Array.getElem?_setIfInBounds_ne (by omega), c0]
    · rw [Array.getElem?_setIfInBounds_ne (by omega), Array.getElem?_setIfInBounds_ne (by omega), c1]
    · rw [Array.getElem?_setIfInBounds_ne (by omega), Array.getElem?_setIfInBounds_ne (by omega), c2]
    · rw [Array.getElem?_setIfInBounds_ne (by omega), Array.getElem?_setIfInBounds_ne (by omega), c3]
theorem SRow.of_own {W : World} {base g n cap : Nat} {l : List ShownT} (h : W.ownsRow base 45 4 (.slice (some ⟨g, 0, none⟩) n cap) n (shownCells l)) (hn : n = l.length) : SRow W g l ∧ base ≤ g ∧ n ≤ cap := by
  rcases h.2 with ⟨h0, _⟩ | ⟨g', cap', cur, hv, hb, hh, hc, _, hs, htake⟩
  · cases h0
  · cases hv
    refine ⟨⟨cur, hh, fun i hi => ?_⟩, hb, hc⟩
    obtain ⟨a, b, c, d⟩ := shownCells_at l i hi
    have key : ∀ j, j < n * 4 → cur[j]? = (shownCells l)[j]? := fun j hj => by
      rw [← htake, List.getElem?_take, if_pos hj, Array.getElem?_toList]
    exact ⟨(key _ (by omega)).trans a, (key _ (by omega)).trans b, (key _ (by omega)).trans c, (key _ (by omega)).trans d⟩
end Go.Proofs.YtfkjjhfoncckcaaGreatDoor
