/- A page that is written line by line. -/
import Derived.Test.YtfkjjhfoncckcaaGreatDoorYName
import Derived.Test.YtfkjjhfoncckcaaGreatDoorYLight
namespace Go.Proofs.YtfkjjhfoncckcaaGreatDoor
open Go.RowKit Go.Sort

/-- A page lies in block b0, and E is written; nothing below it has changed since W0. -/
structure Pq (W0 W : World) (b0 : Nat) (E : List UInt8) : Prop where
  bld : Bld 72 b0 b0 E W
  low : Below b0 W0 W
  tab : Tab W
  tl : 2 < b0
  sz : b0 < W.heap.size
theorem Pq.mono {W0 W W' : World} {b0 : Nat} {E : List UInt8} (h : Pq W0 W b0 E) (x : Ext W W') : Pq W0 W' b0 E :=
  ⟨h.bld.ext x, h.low.trans (x.below (Nat.le_of_lt h.sz)), h.tab.ext x, h.tl, Nat.lt_of_lt_of_le h.sz x.size⟩
theorem Pq.cell {W0 W : World} {b0 : Nat} {E : List UInt8} (h : Pq W0 W b0 E) {b o : Nat} {v : Value} (hb : b < b0) (hc : W0.cell? ⟨b, o, none⟩ = some v) : W.cell? ⟨b, o, none⟩ = some v :=
  (World.cell?_of_block (w := W0) (w' := W) (a := ⟨b, o, none⟩) (h.low.block b hb)).trans hc
theorem Pq.ext {w W0 W : World} {b0 : Nat} {E : List UInt8} (h : Pq W0 W b0 E) (x : Ext w W0) (hb : w.heap.size ≤ b0) : Ext w W := x.upon (Below.mono h.low hb)
theorem Pq.line {W0 W W' : World} {b0 : Nat} {E : List UInt8} (h : Pq W0 W b0 E) (x : Ext W W') (xs : List (List UInt8)) (hn : xs.length ≤ 1073741824) (hl : (putL E xs).length ≤ 1073741824) :
    Calls Tryz.prog 29 #[.pointer (some ⟨b0, 0, none⟩), .slice (some ⟨W'.heap.size, 0, none⟩) xs.length xs.length] (W'.alloc (.cells (xs.map vstr).toArray 9)) fun e w'' =>
      e = .returned (.tuple #[]) ∧ Pq W0 w'' b0 (putL E xs) := by
  have x1 : Ext W (W'.alloc (.cells (xs.map vstr).toArray 9)) := x.alloc _
  have h1 := h.mono x1
  rw [putL_len] at hl
  refine (line_any b0 b0 E W'.heap.size 0 xs.length xs _ h1.bld (parts_new W' 9 xs) (Nat.le_refl _) (by omega) hn (Nat.le_of_lt h1.sz)).mono ?_
  rintro e w5 ⟨rfl, h5, hb5, _⟩
  exact ⟨rfl, ⟨h5, h1.low.trans hb5, h1.tab.below hb5 h.tl, h.tl, Nat.lt_of_lt_of_le h1.sz hb5.size⟩⟩
theorem Pq.line2 {W0 W W' : World} {b0 : Nat} {E : List UInt8} (h : Pq W0 W b0 E) (x : Ext W W') (xs : List (List UInt8)) (hn : xs.length ≤ 1073741824) (hl : (putL E xs).length ≤ 1073741824) :
    Calls Tryz.prog 29 #[.pointer (some ⟨b0, 0, none⟩), .slice (some ⟨W'.heap.size, 0, none⟩) xs.length xs.length] (W'.alloc (.cells (xs.map vstr).toArray 9)) fun e w'' =>
      e = .returned (.tuple #[]) ∧ Pq W0 w'' b0 (putL E xs) ∧ Lib.OthersKept 5 (some b0) W w'' := by
  have x1 : Ext W (W'.alloc (.cells (xs.map vstr).toArray 9)) := x.alloc _
  have h1 := h.mono x1
  rw [putL_len] at hl
  refine (line_any b0 b0 E W'.heap.size 0 xs.length xs _ h1.bld (parts_new W' 9 xs) (Nat.le_refl _) (by omega) hn (Nat.le_of_lt h1.sz)).mono ?_
  rintro e w5 ⟨rfl, h5, hb5, ho5⟩
  exact ⟨rfl, ⟨h5, h1.low.trans hb5, h1.tab.below hb5 h.tl, h.tl, Nat.lt_of_lt_of_le h1.sz hb5.size⟩, Lib.OthersKept.trans (fun k o hk _ _ => (x1.heap (Array.getElem?_eq_some_iff.1 hk).1).trans hk) ho5⟩
theorem Pq.new {w : World} (hT : Tab w) : Pq (w.alloc (.cells #[.pointer none, .slice none 0 0] 72)) (w.alloc (.cells #[.pointer none, .slice none 0 0] 72)) w.heap.size [] :=
  ⟨bld_new (Nat.le_refl _) (heap_new w _), Below.refl _ _, hT.ext ((Ext.refl w).alloc _), hT.lt, by simp⟩

def linesE {α : Type} (f : α → List (List UInt8)) (E : List UInt8) (l : List α) : List UInt8 := l.foldl (fun E x => putL E (f x)) E
theorem linesE_len {α : Type} (f : α → List (List UInt8)) (l : List α) : ∀ E : List UInt8, E.length ≤ (linesE f E l).length := by
  induction l with
  | nil => exact fun _ => Nat.le_refl _
  | cons x l ih =>
    intro E
    have h := ih (putL E (f x))
    rw [putL_len] at h
    show _ ≤ (linesE f (putL E (f x)) l).length
    omega
theorem linesE_take {α : Type} (f : α → List (List UInt8)) (l : List α) (E : List UInt8) (k : Nat) : (linesE f E (l.take k)).length ≤ (linesE f E l).length := by
  have h : linesE f E l = linesE f (linesE f E (l.take k)) (l.drop k) := by rw [linesE, linesE, linesE, ← List.foldl_append, List.take_append_drop]
  rw [h]
  exact linesE_len f _ _
theorem linesE_snoc {α : Type} (f : α → List (List UInt8)) (l : List α) (E : List UInt8) (k : Nat) (hk : k < l.length) : linesE f E (l.take (k + 1)) = putL (linesE f E (l.take k)) (f l[k]) := by
  rw [List.take_succ_eq_append_getElem hk, linesE, List.foldl_append]; rfl
theorem Lns.lines {α : Type} (f : α → List (List UInt8)) (l : List α) (hf : ∀ x, ∀ y ∈ f x, Cl y) : ∀ (E : List UInt8) (n : Nat), Lns E n → Lns (linesE f E l) (n + l.length) := by
  induction l with
  | nil => exact fun _ _ h => h
  | cons x l ih =>
    intro E n h
    rw [List.length_cons, show n + (l.length + 1) = n + 1 + l.length by omega]
    exact ih _ _ (h.line (hf x))

/-! ### view.Search -/
def searchH (q : List UInt8) (n : Nat) : List UInt8 := putL (putL [] [[115, 101, 97, 114, 99, 104, 32], escapeB q]) [[114, 101, 115, 117, 108, 116, 115, 32], Lib.itoa n]
def searchB (q : List UInt8) (ids : List (List UInt8)) (vs : List ViewT) : List UInt8 := linesE (fun id => [entryB id vs]) (searchH q ids.length) ids
theorem Lns.search (q : List UInt8) (ids : List (List UInt8)) (vs : List ViewT) : Lns (searchB q ids vs) (2 + ids.length) :=
  Lns.lines _ _ (fun _ => cl1 (Cl.entry _ _)) _ _ (Lns.line (n := 1) (Lns.line (n := 0) .nil (cl2 (Cl.of rfl) (Cl.esc _))) (cl2 (Cl.of rfl) (Cl.itoa _)))
set_option maxHeartbeats 1000000 in
set_option maxRecDepth 100000 in
theorem search_any (q : List UInt8) (ids : List (List UInt8)) (vs : List ViewT) (iv v : Value) (w : World) (hi : IdsAt w ids iv) (hv : ViewsAt w vs v) (hil : ids.length ≤ 1073741824) (hl : vs.length ≤ 1073741824) (hq : ∀ q ∈ vs, ShortV 100000000 q) (hid : ∀ s ∈ ids, s.length ≤ 100000000)
    (hql : q.length ≤ 100000000) (ht : (searchB q ids vs).length ≤ 1073741824) (hT : Tab w) :
    Calls Tryz.prog 14 #[vstr q, iv, v] w fun e w' => e = .returned (vstr (searchB q ids vs)) ∧ Ext w w' := by
  obtain ⟨a, c, rfl, hc, hr⟩ := hi
  obtain ⟨W0, hW0⟩ : ∃ W0, W0 = w.alloc (.cells #[.pointer none, .slice none 0 0] 72) := ⟨_, rfl⟩
  have x0 : Ext w W0 := by rw [hW0]; exact (Ext.refl w).alloc _
  have k0 := Pq.new hT
  rw [← hW0] at k0
  obtain ⟨b0, hb0⟩ : ∃ b0, b0 = w.heap.size := ⟨_, rfl⟩
  rw [← hb0] at k0
  have hbw : w.heap.size ≤ b0 := Nat.le_of_eq hb0.symm
  have hle0 := linesE_len (fun id => [entryB id vs]) ids (searchH q ids.length)
  have hH : (searchH q ids.length).length ≤ 1073741824 := Nat.le_trans hle0 ht
  obtain ⟨A, hA⟩ : ∃ A, A = escapeB q := ⟨_, rfl⟩
  obtain ⟨E1, hE1⟩ : ∃ E1, E1 = putL [] [[115, 101, 97, 114, 99, 104, 32], A] := ⟨_, rfl⟩
  obtain ⟨E2, hE2⟩ : ∃ E2, E2 = putL E1 [[114, 101, 115, 117, 108, 116, 115, 32], Lib.itoa ids.length] := ⟨_, rfl⟩
  have e2 : searchH q ids.length = E2 := by rw [searchH, hE2, hE1, hA]
  have hS : searchB q ids vs = linesE (fun id => [entryB id vs]) E2 ids := by rw [searchB, e2]
  rw [e2] at hH
  have hE1l : E1.length ≤ 1073741824 := by rw [hE2, putL_len] at hH; omega
  rw [hS] at ht ⊢
  have HA := Lib.hid hA
  have H1 := Lib.hid hE1
  have H2 := Lib.hid hE2
  have HW := Lib.hid hW0
  have Hb := Lib.hid hb0
  have K0 := Lib.hid k0
  have X0 := Lib.hid x0
  have Hr := Lib.hid hr
  have Hv := Lib.hid hv
  have Hq := Lib.hid hq
  have Hi := Lib.hid hid
  have HT := Lib.hid ht
  clear hA hE1 hE2 hW0 hb0 k0 x0 hr hv hq hid hT ht hS e2 hle0
  go_enter Tryz.func14, Tryz.ntmps14
  go_wp2_with fail
  rw [show w.alloc (.cells #[.pointer none, .slice none 0 0] 72) = W0 from HW.out.symm, ← Hb.out]
  refine (escape_any q W0 (by omega) K0.out.tab).mono ?_
  rintro e w1 ⟨rfl, x1⟩
  rw [← HA.out]
  go_wp2_with fail
  refine (K0.out.line x1 [[115, 101, 97, 114, 99, 104, 32], A] (Nat.le_of_ble_eq_true rfl) (by rw [← H1.out]; exact hE1l)).mono ?_
  rintro e w2 ⟨rfl, k⟩
  rw [← H1.out] at k
  have K1 := Lib.hid k
  clear k x1
  go_wp2_with fail
  refine (decimal_any ids.length (by omega) (by omega) w2 K1.out.tab).mono ?_
  rintro e w3 ⟨rfl, x3⟩
  go_wp2_with fail
  refine (K1.out.line x3 [[114, 101, 115, 117, 108, 116, 115, 32], Lib.itoa ids.length] (Nat.le_of_ble_eq_true rfl) (by rw [← H2.out]; exact hH)).mono ?_
  rintro e w4 ⟨rfl, k⟩
  rw [← H2.out] at k
  have K2 := Lib.hid k
  clear k x3
  go_wp2_with fail
  go_loopw [21] (fun i wr => ∃ k : Nat, k ≤ ids.length ∧ i = .int .i64 k ∧ Pq W0 wr b0 (linesE (fun id => [entryB id vs]) E2 (ids.take k))) (fun i _ => ids.length - (intOf i).toNat)
  case atStart => exact ⟨0, Nat.zero_le _, rfl, K2.out⟩
  case round =>
    obtain ⟨k, hk, rfl, hp⟩ := hrel
    have HP := Lib.hid hp
    clear hp
    by_cases hlt : k < ids.length
    · rcases Hr.out with h0 | ⟨b, o, ha, hrow⟩
      · omega
      subst ha
      have hcell := (HP.out.ext X0.out hbw).holds (hrow k hlt hlt)
      rw [Nat.mul_one] at hcell
      have hsn := linesE_snoc (fun id => [entryB id vs]) ids E2 k hlt
      have hle := Nat.le_trans (linesE_take (fun id => [entryB id vs]) ids E2 (k + 1)) HT.out
      have hidk := Hi.out ids[k] (List.getElem_mem hlt)
      obtain ⟨E, hE⟩ : ∃ E, E = linesE (fun id => [entryB id vs]) E2 (ids.take k) := ⟨_, rfl⟩
      obtain ⟨s, hs⟩ : ∃ s, s = ids[k] := ⟨_, rfl⟩
      rw [← hE, ← hs] at hsn
      rw [← hE] at HP
      rw [← hs] at hidk hcell
      rw [hsn] at hle
      have Hsn := Lib.hid hsn
      have Hle := Lib.hid hle
      clear hsn hE hs hrow hle
      go_wp2_with fail
      refine (entry_any s vs v wr (Hv.out.ext (HP.out.ext X0.out hbw)) hl hidk Hq.out HP.out.tab).mono ?_
      rintro e w5 ⟨rfl, x5⟩
      go_wp2_with fail
      refine (HP.out.line x5 [entryB s vs] (Nat.le_of_ble_eq_true rfl) Hle.out).mono ?_
      rintro e w6 ⟨rfl, kq⟩
      have KQ := Lib.hid kq
      clear kq x5 hcell
      go_wp2
      go_roundw
      case rel => exact ⟨k + 1, by omega, by go_num, by rw [Hsn.out]; exact KQ.out⟩
      case measure => simp [intOf]; omega
    · obtain rfl : k = ids.length := by omega
      rw [List.take_length] at HP
      go_wp2_with fail
      refine (builder_string b0 b0 _ _ HP.out.bld (Nat.le_of_lt HP.out.sz)).mono ?_
      rintro e w9 ⟨rfl, _, h9, _⟩
      have x9 : Ext w w9 := (HP.out.ext X0.out hbw).upon (Below.mono h9 hbw)
      go_wp2
      go_ret
      exact ⟨rfl, x9⟩
end Go.Proofs.YtfkjjhfoncckcaaGreatDoor
