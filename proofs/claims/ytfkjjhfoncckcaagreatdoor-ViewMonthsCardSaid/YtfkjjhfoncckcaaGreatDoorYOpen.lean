/- Rows of structs that came in, opened to what the walks want: views, nodes, subscriptions, strings. -/
import Derived.Test.YtfkjjhfoncckcaaGreatDoorYMonth
import Derived.ProofKit
import Derived.OpenShut
import Derived.Deep.Slices
import Derived.Deep.Fields
import Derived.ChangeSame
namespace Go.Proofs.YtfkjjhfoncckcaaGreatDoor
open Go.ChangeShapes Go.WideShapes Go.ChangeAt Go.RowKit Go.Deep

section
variable {H : Type} {enc : TypeId × Value → H} {P : Program} {w : World} {base : Nat} {spare : Nat → Bool} {held : Bool}
/-- A struct of one-cell fields, field by field. -/
theorem trod_fields {e : TypeId} {fs : Array Field} {n : Nat} {ls : List Value} {y : DataW H × List MemPlace} (he : P.underlying e = some (.struct fs)) (hone : oneCellFields P fs = true) (hl : ls.length = fs.size)
    (h : DataW.trod enc P w base spare held n e ls = some y) :
    ∃ m, ∀ (j : Nat) (f : Field), fs[j]? = some f → ∃ v z, ls[j]? = some v ∧ DataW.trod enc P w base spare held m f.type [v] = some z := by
  obtain ⟨ys, m, _, _, _, hyl, hf⟩ := DataW.trod_struct he h
  refine ⟨m, fun j f hj => ?_⟩
  obtain ⟨ho, hk⟩ := hone_of hone j f hj
  have hjl : j < fs.size := (Array.getElem?_eq_some_iff.1 hj).1
  have hv : ls[j]? = some (ls[j]'(by omega)) := List.getElem?_eq_getElem (by omega)
  have h1 := hf j f hj
  rw [ho, hk] at h1
  have h2 : (ls.drop j).take 1 = [ls[j]'(by omega)] := by
    rw [List.drop_eq_getElem_cons (by omega)]
    rfl
  rw [h2, List.getElem?_eq_getElem (by omega)] at h1
  exact ⟨_, _, hv, h1⟩
/-- A slice whose elements are read as members of α. -/
theorem open_row {α : Type} {t e : TypeId} {k fuel : Nat} {cs : List Value} {x : DataW H × List MemPlace} (ht : P.underlying t = some (.slice e)) (hC : P.cellsOf e = k) (hk : 0 < k) (At : World → α → Nat → Nat → Prop)
    (hel : ∀ (n b o : Nat) (ls : List Value) (y : DataW H × List MemPlace), ls.length = k → (∀ j, j < k → w.cell? ⟨b, o + j, none⟩ = ls[j]?) → DataW.trod enc P w base spare held n e ls = some y → ∃ q, At w q b o)
    (h : DataW.trod enc P w base spare held fuel t cs = some x) :
    ∃ (qs : List α) (v : Value), cs = [v] ∧ qs.length ≤ 9223372036854775807 ∧ RowAt k qs.length (fun i b o => ∀ h : i < qs.length, At w qs[i] b o) v := by
  rcases open_slice ht h with ⟨rfl, -⟩ | ⟨a, len, cap, m, n, D, Pl, rfl, hb, hl, hm, hmm, -, hx⟩
  · exact ⟨[], _, rfl, Nat.zero_le _, none, 0, rfl, Nat.le_refl _, .inl rfl⟩
  have hlm : len ≤ m := by rw [hmm]; split <;> omega
  have hcap : len ≤ 9223372036854775807 := by have h9 : cap ≤ 2 ^ 63 - 1 := hm; omega
  by_cases hz : len = 0
  · subst hz
    exact ⟨[], _, rfl, Nat.zero_le _, some a, cap, rfl, Nat.zero_le _, .inl rfl⟩
  obtain ⟨b, o, spot⟩ := a
  have key : ∀ i, i < len → ∃ q, At w q b (o + i * k) ∧ (spot = none ∨ i ≠ 0) := by
    intro i hi
    obtain ⟨cs', hc, hd⟩ := hx i (by omega)
    rw [hC] at hc
    obtain ⟨_, hcl, hat⟩ := World.cells?_some hc
    have hs : spot = none ∨ i ≠ 0 := by
      by_cases h0 : i = 0
      · left
        subst h0
        have g0 := hat 0 hk
        rw [List.getElem?_eq_getElem (by omega)] at g0
        simpa [Addr.add] using World.cell?_spot g0
      · exact .inr h0
    have hadd : ∀ j, ((⟨b, o, spot⟩ : Addr).add (i * k)).add j = ⟨b, o + i * k + j, none⟩ := by
      intro j
      rcases hs with rfl | h0
      · rw [add_plain, add_plain]
      · have hik : i * k ≠ 0 := Nat.mul_ne_zero h0 (by omega)
        rw [show (⟨b, o, spot⟩ : Addr).add (i * k) = ⟨b, o + i * k, none⟩ by unfold Addr.add; rw [if_neg hik], add_plain]
    obtain ⟨q, hq⟩ := hel n b (o + i * k) cs' _ hcl (fun j hj => by rw [← hadd j]; exact hat j hj) hd
    exact ⟨q, hq, hs⟩
  have hsp : spot = none := by
    rcases (key 0 (by omega)).choose_spec.2 with h | h
    · exact h
    · exact absurd rfl h
  subst hsp
  obtain ⟨q0, -⟩ := key 0 (by omega)
  have : Inhabited α := ⟨q0⟩
  obtain ⟨Q, hQ⟩ := choose_lt (α := α) (p := fun i q => At w q b (o + i * k)) (fun i hi => by
    obtain ⟨q, hq, -⟩ := key i hi
    exact ⟨q, hq⟩)
  refine ⟨(List.range len).map Q, _, rfl, by simpa using hcap, some ⟨b, o, none⟩, cap, by rw [List.length_map, List.length_range], by simpa using hl, .inr ⟨b, o, rfl, fun i hi _ => ?_⟩⟩
  have hi' : i < len := by simpa using hi
  have hg : ((List.range len).map Q)[i] = Q i := by simp
  rw [hg]
  exact hQ i hi'
end
/-- A row read with a further condition: the row and the condition. -/
theorem row_both {α : Type} {k : Nat} {W : World} {At : World → α → Nat → Nat → Prop} {Ok : α → Prop} {qs : List α} {v : Value}
    (h : RowAt k qs.length (fun i b o => ∀ h : i < qs.length, At W qs[i] b o ∧ Ok qs[i]) v) :
    RowAt k qs.length (fun i b o => ∀ h : i < qs.length, At W qs[i] b o) v ∧ ∀ q ∈ qs, Ok q := by
  refine ⟨RowAt.mono h fun _ _ _ _ g hi => (g hi).1, fun q hq => ?_⟩
  obtain ⟨i, hi, rfl⟩ := List.getElem_of_mem hq
  obtain ⟨a, c, _, _, h⟩ := h
  rcases h with h | ⟨b, o, _, h⟩
  · omega
  · exact (h i hi hi).2

section
variable {H : Type} {enc : TypeId × Value → H} {w : World} {base : Nat} {spare : Nat → Bool} {held : Bool}
theorem cell_str {n b o j : Nat} {v : Value} {z : DataW H × List MemPlace} {ls : List Value} (hc : w.cell? ⟨b, o + j, none⟩ = ls[j]?) (hv : ls[j]? = some v) (h : DataW.trod enc Tryz.prog w base spare held n 9 [v] = some z) :
    ∃ s : List UInt8, w.cell? ⟨b, o + j, none⟩ = some (vstr s) := by
  obtain ⟨s, e, -⟩ := DataW.trod_string Tryz.underlying9 h
  cases e
  exact ⟨s.data.toList, hc.trans hv⟩
theorem cell_int {n b o j : Nat} {v : Value} {z : DataW H × List MemPlace} {ls : List Value} (hc : w.cell? ⟨b, o + j, none⟩ = ls[j]?) (hv : ls[j]? = some v) (h : DataW.trod enc Tryz.prog w base spare held n 3 [v] = some z) :
    ∃ m : Int, w.cell? ⟨b, o + j, none⟩ = some (.int .i64 m) ∧ I64 m := by
  obtain ⟨m, e, -, wf⟩ := DataW.trod_int Tryz.underlying3 h
  cases e
  exact ⟨m, by rw [hc, hv], bounds_i64 wf⟩
theorem cell_bool {n b o j : Nat} {v : Value} {z : DataW H × List MemPlace} {ls : List Value} (hc : w.cell? ⟨b, o + j, none⟩ = ls[j]?) (hv : ls[j]? = some v) (h : DataW.trod enc Tryz.prog w base spare held n 4 [v] = some z) :
    ∃ m : Bool, w.cell? ⟨b, o + j, none⟩ = some (.bool m) := by
  obtain ⟨m, e, -⟩ := DataW.trod_bool Tryz.underlying4 h
  cases e
  exact ⟨m, by rw [hc, hv]⟩
theorem open_ids {n : Nat} {cs : List Value} {x : DataW H × List MemPlace} (h : DataW.trod enc Tryz.prog w base spare held n 29 cs = some x) :
    ∃ (l : List (List UInt8)) (v : Value), cs = [v] ∧ l.length ≤ 9223372036854775807 ∧ IdsAt w l v :=
  open_row Tryz.underlying29 (by kernel_rfl) (by decide) (fun W s b o => W.cell? ⟨b, o, none⟩ = some (vstr s)) (fun n b o ls y hl hc h => by
    match ls, hl with
    | [u], _ => exact cell_str (hc 0 (by decide)) rfl h) h
theorem open_nums {n : Nat} {cs : List Value} {x : DataW H × List MemPlace} (h : DataW.trod enc Tryz.prog w base spare held n 41 cs = some x) :
    ∃ (l : List Int) (v : Value), cs = [v] ∧ IntsAt w l v ∧ ∀ n ∈ l, I64 n := by
  obtain ⟨l, v, e, -, hr⟩ := open_row (α := Int) Tryz.underlying41 (by kernel_rfl) (k := 1) (by decide) (fun W s b o => W.cell? ⟨b, o, none⟩ = some (.int .i64 s) ∧ I64 s) (fun n b o ls y hl hc h => by
    match ls, hl with
    | [u], _ => exact cell_int (hc 0 (by decide)) rfl h) h
  obtain ⟨h1, h2⟩ := row_both (W := w) (At := fun W s b o => W.cell? ⟨b, o, none⟩ = some (.int .i64 s)) (Ok := I64) hr
  exact ⟨l, v, e, h1, h2⟩
theorem open_shown {n b o : Nat} {ls : List Value} {y : DataW H × List MemPlace} (hl : ls.length = 4) (hc : ∀ j, j < 4 → w.cell? ⟨b, o + j, none⟩ = ls[j]?) (h : DataW.trod enc Tryz.prog w base spare held n 45 ls = some y) :
    ∃ q, ShownAt w q b o := by
  obtain ⟨m, hf⟩ := trod_fields Tryz.underlying45 (by kernel_rfl) hl h
  obtain ⟨v0, z0, e0, t0⟩ := hf 0 _ rfl
  obtain ⟨v1, z1, e1, t1⟩ := hf 1 _ rfl
  obtain ⟨v2, z2, e2, t2⟩ := hf 2 _ rfl
  obtain ⟨v3, z3, e3, t3⟩ := hf 3 _ rfl
  obtain ⟨a0, c0⟩ := cell_bool (hc 0 (by decide)) e0 t0
  obtain ⟨a1, c1⟩ := cell_str (hc 1 (by decide)) e1 t1
  obtain ⟨a2, c2⟩ := cell_str (hc 2 (by decide)) e2 t2
  obtain ⟨a3, c3⟩ := cell_str (hc 3 (by decide)) e3 t3
  exact ⟨⟨a0, a1, a2, a3⟩, c0, c1, c2, c3⟩
theorem open_showns {n : Nat} {cs : List Value} {x : DataW H × List MemPlace} (h : DataW.trod enc Tryz.prog w base spare held n 40 cs = some x) :
    ∃ (l : List ShownT) (v : Value), cs = [v] ∧ ShownsAt w l v := by
  obtain ⟨l, v, e, -, hr⟩ := open_row Tryz.underlying40 (by kernel_rfl) (by decide) ShownAt (fun n b o ls y hl hc h => open_shown hl hc h) h
  exact ⟨l, v, e, hr⟩
theorem open_view {n b o : Nat} {ls : List Value} {y : DataW H × List MemPlace} (hl : ls.length = 8) (hc : ∀ j, j < 8 → w.cell? ⟨b, o + j, none⟩ = ls[j]?) (h : DataW.trod enc Tryz.prog w base spare held n 43 ls = some y) :
    ∃ q, ViewAt w q b o ∧ (I64 q.date ∧ I64 q.state ∧ ∀ n ∈ q.lists, I64 n) := by
  obtain ⟨m, hf⟩ := trod_fields Tryz.underlying43 (by kernel_rfl) hl h
  obtain ⟨v0, z0, e0, t0⟩ := hf 0 _ rfl
  obtain ⟨v1, z1, e1, t1⟩ := hf 1 _ rfl
  obtain ⟨v2, z2, e2, t2⟩ := hf 2 _ rfl
  obtain ⟨v3, z3, e3, t3⟩ := hf 3 _ rfl
  obtain ⟨v4, z4, e4, t4⟩ := hf 4 _ rfl
  obtain ⟨v5, z5, e5, t5⟩ := hf 5 _ rfl
  obtain ⟨v6, z6, e6, t6⟩ := hf 6 _ rfl
  obtain ⟨v7, z7, e7, t7⟩ := hf 7 _ rfl
  obtain ⟨a0, c0⟩ := cell_str (hc 0 (by decide)) e0 t0
  obtain ⟨a1, c1⟩ := cell_str (hc 1 (by decide)) e1 t1
  obtain ⟨a2, c2⟩ := cell_str (hc 2 (by decide)) e2 t2
  obtain ⟨a3, c3, i3⟩ := cell_int (hc 3 (by decide)) e3 t3
  obtain ⟨a4, c4, i4⟩ := cell_int (hc 4 (by decide)) e4 t4
  obtain ⟨a5, u5, x5, s5⟩ := open_showns t5
  obtain ⟨a6, c6⟩ := cell_str (hc 6 (by decide)) e6 t6
  obtain ⟨a7, u7, x7, s7, i7⟩ := open_nums t7
  cases x5
  cases x7
  have c5 := (hc 5 (by decide)).trans e5
  have c7 := (hc 7 (by decide)).trans e7
  obtain ⟨la, lc, rfl, hS⟩ := s5
  obtain ⟨ma, mc, rfl, hI⟩ := s7
  exact ⟨⟨a0, a1, a2, a3, a4, a5, a6, a7⟩, ⟨la, _, lc, ma, _, mc, c0, c1, c2, c3, c4, c5, c6, c7, ⟨la, lc, rfl, hS⟩, ⟨ma, mc, rfl, hI⟩⟩, i3, i4, i7⟩
theorem open_views {n : Nat} {cs : List Value} {x : DataW H × List MemPlace} (h : DataW.trod enc Tryz.prog w base spare held n 22 cs = some x) :
    ∃ (l : List ViewT) (v : Value), cs = [v] ∧ l.length ≤ 9223372036854775807 ∧ ViewsAt w l v ∧ ∀ q ∈ l, I64 q.date ∧ I64 q.state ∧ ∀ n ∈ q.lists, I64 n := by
  obtain ⟨l, v, e, hn, hr⟩ := open_row (α := ViewT) Tryz.underlying22 (by kernel_rfl) (k := 8) (by decide) (fun W q b o => ViewAt W q b o ∧ (I64 q.date ∧ I64 q.state ∧ ∀ n ∈ q.lists, I64 n)) (fun n b o ls y hl hc h => open_view hl hc h) h
  obtain ⟨h1, h2⟩ := row_both (W := w) (At := ViewAt) (Ok := fun q => I64 q.date ∧ I64 q.state ∧ ∀ n ∈ q.lists, I64 n) hr
  exact ⟨l, v, e, hn, h1, h2⟩
theorem open_node {n b o : Nat} {ls : List Value} {y : DataW H × List MemPlace} (hl : ls.length = 4) (hc : ∀ j, j < 4 → w.cell? ⟨b, o + j, none⟩ = ls[j]?) (h : DataW.trod enc Tryz.prog w base spare held n 62 ls = some y) :
    ∃ q, NodeAt w q b o := by
  obtain ⟨m, hf⟩ := trod_fields Tryz.underlying62 (by kernel_rfl) hl h
  obtain ⟨v0, z0, e0, t0⟩ := hf 0 _ rfl
  obtain ⟨v1, z1, e1, t1⟩ := hf 1 _ rfl
  obtain ⟨v2, z2, e2, t2⟩ := hf 2 _ rfl
  obtain ⟨v3, z3, e3, t3⟩ := hf 3 _ rfl
  obtain ⟨a0, c0⟩ := cell_str (hc 0 (by decide)) e0 t0
  obtain ⟨a1, c1⟩ := cell_bool (hc 1 (by decide)) e1 t1
  obtain ⟨a2, c2, -⟩ := cell_int (hc 2 (by decide)) e2 t2
  obtain ⟨a3, c3, -⟩ := cell_int (hc 3 (by decide)) e3 t3
  exact ⟨⟨a0, a1, a2, a3⟩, c0, c1, c2, c3⟩
theorem open_nodes {n : Nat} {cs : List Value} {x : DataW H × List MemPlace} (h : DataW.trod enc Tryz.prog w base spare held n 23 cs = some x) :
    ∃ (l : List NodeT) (v : Value), cs = [v] ∧ l.length ≤ 9223372036854775807 ∧ NodesAt w l v :=
  open_row Tryz.underlying23 (by kernel_rfl) (by decide) NodeAt (fun n b o ls y hl hc h => open_node hl hc h) h
theorem open_sub {n b o : Nat} {ls : List Value} {y : DataW H × List MemPlace} (hl : ls.length = 5) (hc : ∀ j, j < 5 → w.cell? ⟨b, o + j, none⟩ = ls[j]?) (h : DataW.trod enc Tryz.prog w base spare held n 66 ls = some y) :
    ∃ q, SubAt w q b o := by
  obtain ⟨m, hf⟩ := trod_fields Tryz.underlying66 (by kernel_rfl) hl h
  obtain ⟨v0, z0, e0, t0⟩ := hf 0 _ rfl
  obtain ⟨v1, z1, e1, t1⟩ := hf 1 _ rfl
  obtain ⟨v2, z2, e2, t2⟩ := hf 2 _ rfl
  obtain ⟨v3, z3, e3, t3⟩ := hf 3 _ rfl
  obtain ⟨v4, z4, e4, t4⟩ := hf 4 _ rfl
  obtain ⟨a0, c0, -⟩ := cell_int (hc 0 (by decide)) e0 t0
  obtain ⟨a1, c1⟩ := cell_str (hc 1 (by decide)) e1 t1
  obtain ⟨a2, c2, -⟩ := cell_int (hc 2 (by decide)) e2 t2
  obtain ⟨a3, c3⟩ := cell_str (hc 3 (by decide)) e3 t3
  obtain ⟨a4, c4, -⟩ := cell_int (hc 4 (by decide)) e4 t4
  exact ⟨⟨a0, a1, a2, a3, a4⟩, c0, c1, c2, c3, c4⟩
theorem open_subs {n : Nat} {cs : List Value} {x : DataW H × List MemPlace} (h : DataW.trod enc Tryz.prog w base spare held n 28 cs = some x) :
    ∃ (l : List SubT) (v : Value), cs = [v] ∧ l.length ≤ 9223372036854775807 ∧ SubsAt w l v :=
  open_row Tryz.underlying28 (by kernel_rfl) (by decide) SubAt (fun n b o ls y hl hc h => open_sub hl hc h) h
set_option maxRecDepth 100000 in
/-- A list by value. -/
theorem open_list {r : Reach} {b0 : Nat} {v : Value} {d : DataW H} {p : List MemPlace} (hv : Value.okWide Tryz.prog w r b0 25 v) (h : DataW.Trod enc Tryz.prog w base spare held 25 v d p) :
    ∃ x : ListT, v = .agg #[.int .i64 x.id, .int .i64 x.into, .int .i64 x.parent, vstr x.name, vstr x.remote] ∧ I64 x.id ∧ I64 x.into ∧ I64 x.parent := by
  obtain ⟨cs, rfl, hsz⟩ := okWide_struct Tryz.underlying25 hv
  rw [show Tryz.prog.cellsOf 25 = 5 by kernel_rfl] at hsz
  obtain ⟨ls⟩ := cs
  obtain ⟨fuel, hf⟩ := h
  have hl : ls.length = 5 := hsz
  obtain ⟨m, hg⟩ := trod_fields (ls := ls) Tryz.underlying25 (by kernel_rfl) hl hf
  match ls, hl with
  | [u0, u1, u2, u3, u4], _ =>
    obtain ⟨v0, z0, e0, t0⟩ := hg 0 _ rfl
    obtain ⟨v1, z1, e1, t1⟩ := hg 1 _ rfl
    obtain ⟨v2, z2, e2, t2⟩ := hg 2 _ rfl
    obtain ⟨v3, z3, e3, t3⟩ := hg 3 _ rfl
    obtain ⟨v4, z4, e4, t4⟩ := hg 4 _ rfl
    cases e0; cases e1; cases e2; cases e3; cases e4
    obtain ⟨a0, x0, -, w0⟩ := DataW.trod_int Tryz.underlying3 t0
    obtain ⟨a1, x1, -, w1⟩ := DataW.trod_int Tryz.underlying3 t1
    obtain ⟨a2, x2, -, w2⟩ := DataW.trod_int Tryz.underlying3 t2
    obtain ⟨a3, x3, -⟩ := DataW.trod_string Tryz.underlying9 t3
    obtain ⟨a4, x4, -⟩ := DataW.trod_string Tryz.underlying9 t4
    cases x0; cases x1; cases x2; cases x3; cases x4
    exact ⟨⟨a0, a1, a2, a3.data.toList, a4.data.toList⟩, rfl, bounds_i64 w0, bounds_i64 w1, bounds_i64 w2⟩
set_option maxRecDepth 100000 in
/-- A month by value. -/
theorem open_month {r : Reach} {b0 : Nat} {v : Value} {d : DataW H} {p : List MemPlace} (hv : Value.okWide Tryz.prog w r b0 27 v) (h : DataW.Trod enc Tryz.prog w base spare held 27 v d p) :
    ∃ x : MonthT, v = .agg #[.int .i64 x.list, .int .i64 x.month, .int .i64 x.count, vstr x.root] ∧ I64 x.month ∧ I64 x.count := by
  obtain ⟨cs, rfl, hsz⟩ := okWide_struct Tryz.underlying27 hv
  rw [show Tryz.prog.cellsOf 27 = 4 by kernel_rfl] at hsz
  obtain ⟨ls⟩ := cs
  obtain ⟨fuel, hf⟩ := h
  have hl : ls.length = 4 := hsz
  obtain ⟨m, hg⟩ := trod_fields (ls := ls) Tryz.underlying27 (by kernel_rfl) hl hf
  match ls, hl with
  | [u0, u1, u2, u3], _ =>
    obtain ⟨v0, z0, e0, t0⟩ := hg 0 _ rfl
    obtain ⟨v1, z1, e1, t1⟩ := hg 1 _ rfl
    obtain ⟨v2, z2, e2, t2⟩ := hg 2 _ rfl
    obtain ⟨v3, z3, e3, t3⟩ := hg 3 _ rfl
    cases e0; cases e1; cases e2; cases e3
    obtain ⟨a0, x0, -, _⟩ := DataW.trod_int Tryz.underlying3 t0
    obtain ⟨a1, x1, -, w1⟩ := DataW.trod_int Tryz.underlying3 t1
    obtain ⟨a2, x2, -, w2⟩ := DataW.trod_int Tryz.underlying3 t2
    obtain ⟨a3, x3, -⟩ := DataW.trod_string Tryz.underlying9 t3
    cases x0; cases x1; cases x2; cases x3
    exact ⟨⟨a0, a1, a2, a3.data.toList⟩, rfl, bounds_i64 w1, bounds_i64 w2⟩
end
end Go.Proofs.YtfkjjhfoncckcaaGreatDoor
