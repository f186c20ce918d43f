/- view.Message. -/
import Derived.Test.YtfkjjhfoncckcaaGreatDoorVThread
import Derived.Lib.ItoaLen
namespace Go.Proofs.YtfkjjhfoncckcaaGreatDoor
open Go.RowKit Go.Sort

/-- A line of parts behind E. -/
def putL (E : List UInt8) (xs : List (List UInt8)) : List UInt8 := E ++ xs.flatten ++ [10]
theorem putL_len (E : List UInt8) (xs : List (List UInt8)) : (putL E xs).length = E.length + xs.flatten.length + 1 := by simp [putL]; omega
def listsB (ns : List Int) : List UInt8 := ns.foldl (fun a n => a ++ ([32] ++ Lib.itoa n)) [108, 105, 115, 116, 115]
def shownE (E : List UInt8) (x : ShownT) : List UInt8 := if x.hid then putL E [[45], hexB x.hash] else putL E [[43], hexB x.salt, [32], escapeB x.text]
def headB (q : ViewT) : List UInt8 :=
  putL (putL (putL (putL (putL (putL (putL [] [[109, 101, 115, 115, 97, 103, 101, 32], escapeB q.id]) [[102, 114, 111, 109, 32], escapeB q.sender]) [[115, 117, 98, 106, 101, 99, 116, 32], escapeB q.subject]) [[100, 97, 116, 101, 32], Lib.itoa q.date])
    [[115, 116, 97, 116, 101, 32], Lib.itoa q.state]) [listsB q.lists]) [[99, 111, 109, 109, 105, 116, 32], hexB q.commit]
def messageB (q : ViewT) : List UInt8 := putL (q.lines.foldl shownE (headB q)) [[101, 110, 100]]
theorem shownE_len (E : List UInt8) (x : ShownT) : E.length ≤ (shownE E x).length := by
  unfold shownE
  split <;> rw [putL_len] <;> omega
theorem shownsE_len (l : List ShownT) (E : List UInt8) : E.length ≤ (l.foldl shownE E).length := by
  induction l generalizing E with
  | nil => exact Nat.le_refl _
  | cons x l ih => exact Nat.le_trans (shownE_len E x) (ih _)
theorem foldl_snoc {α β : Type} (f : β → α → β) (l : List α) (a : β) (k : Nat) (h : k < l.length) : (l.take (k + 1)).foldl f a = f ((l.take k).foldl f a) l[k] := by
  rw [List.take_succ_eq_append_getElem h, List.foldl_append]
  rfl
theorem showns_take (l : List ShownT) (E : List UInt8) (k : Nat) : ((l.take k).foldl shownE E).length ≤ (l.foldl shownE E).length := by
  have e : l.foldl shownE E = (l.drop k).foldl shownE ((l.take k).foldl shownE E) := by rw [← List.foldl_append, List.take_append_drop]
  rw [e]
  exact shownsE_len _ _
theorem lists_take (l : List Int) (k : Nat) : (listsB (l.take k)).length ≤ (listsB l).length := by
  have key : ∀ (l : List Int) (E : List UInt8), E.length ≤ (l.foldl (fun a n => a ++ ([32] ++ Lib.itoa n)) E).length := by
    intro l
    induction l with
    | nil => exact fun _ => Nat.le_refl _
    | cons x l ih => exact fun E => Nat.le_trans (by simp) (ih _)
  have e : listsB l = (l.drop k).foldl (fun a n => a ++ ([32] ++ Lib.itoa n)) (listsB (l.take k)) := by rw [listsB, listsB, ← List.foldl_append, List.take_append_drop]
  rw [e]
  exact key _ _

/-- A page is being written: the page lies in block b0, behind the box of what it shows. -/
structure Pg (w W : World) (b0 : Nat) (V : Obj) (E : List UInt8) : Prop where
  b : b0 = w.heap.size + 1
  bld : Bld 72 b0 b0 E W
  tab : Tab W
  tl : 2 < b0
  ext : Ext w W
  box : W.heap[w.heap.size]? = some V
  sz : b0 < W.heap.size
theorem Pg.mono {w W W' : World} {b0 : Nat} {V : Obj} {E : List UInt8} (h : Pg w W b0 V E) (x : Ext W W') : Pg w W' b0 V E :=
  ⟨h.b, h.bld.ext x, h.tab.ext x, h.tl, h.ext.trans x, (x.heap (Array.getElem?_eq_some_iff.1 h.box).1).trans h.box, Nat.lt_of_lt_of_le h.sz x.size⟩
theorem Pg.line {w W W' : World} {b0 : Nat} {V : Obj} {E : List UInt8} (h : Pg w W b0 V E) (x : Ext W W') (xs : List (List UInt8)) (hn : xs.length ≤ 1073741824) (hl : (putL E xs).length ≤ 1073741824) :
    Calls Tryz.prog 29 #[.pointer (some ⟨b0, 0, none⟩), .slice (some ⟨W'.heap.size, 0, none⟩) xs.length xs.length] (W'.alloc (.cells (xs.map vstr).toArray 9)) fun e w'' =>
      e = .returned (.tuple #[]) ∧ Pg w w'' b0 V (putL E xs) ∧ Below b0 W w'' ∧ Lib.OthersKept 5 (some b0) W w'' := by
  have x1 : Ext W (W'.alloc (.cells (xs.map vstr).toArray 9)) := x.alloc _
  have h1 := h.mono x1
  rw [putL_len] at hl
  refine (line_any b0 b0 E W'.heap.size 0 xs.length xs _ h1.bld (parts_new W' 9 xs) (Nat.le_refl _) (by omega) hn (Nat.le_of_lt h1.sz)).mono ?_
  rintro e w5 ⟨rfl, h5, hb5, ho5⟩
  have hle : w.heap.size ≤ b0 := by have := h.b; omega
  refine ⟨rfl, ⟨h.b, h5, h1.tab.below hb5 h.tl, h.tl, h1.ext.upon (Below.mono hb5 hle), (hb5.block _ (by have := h.b; omega)).trans h1.box, Nat.lt_of_lt_of_le h1.sz hb5.size⟩, (x1.below (Nat.le_of_lt h.sz)).trans hb5, ?_⟩
  exact Lib.OthersKept.trans (fun k o hk _ _ => (x1.heap (Array.getElem?_eq_some_iff.1 hk).1).trans hk) ho5

theorem pg_cells {w W : World} {b0 : Nat} {E : List UInt8} {v0 v1 v2 v3 v4 v5 v6 v7 : Value} (h : Pg w W b0 (.cells #[v0, v1, v2, v3, v4, v5, v6, v7] 43 (0, 0)) E) :
    W.cell? ⟨w.heap.size, 0, none⟩ = some v0 ∧ W.cell? ⟨w.heap.size, 1, none⟩ = some v1 ∧ W.cell? ⟨w.heap.size, 2, none⟩ = some v2 ∧ W.cell? ⟨w.heap.size, 3, none⟩ = some v3 ∧ W.cell? ⟨w.heap.size, 4, none⟩ = some v4 ∧ W.cell? ⟨w.heap.size, 5, none⟩ = some v5 ∧ W.cell? ⟨w.heap.size, 6, none⟩ = some v6 ∧ W.cell? ⟨w.heap.size, 7, none⟩ = some v7 := by
  have hb := h.box
  refine ⟨?_, ?_, ?_, ?_, ?_, ?_, ?_, ?_⟩ <;> (rw [Lib.cell_of_heap hb]; rfl)

set_option maxHeartbeats 1000000 in
set_option maxRecDepth 100000 in
theorem message_any (q : ViewT) (v : Value) (w : World) (hv : ViewVal w q v) (hlen : (messageB q).length ≤ 1073741824) (hln : q.lines.length ≤ 1073741824) (hlo : q.lists.length ≤ 1073741824)
    (hd : -9223372036854775808 ≤ q.date ∧ q.date ≤ 9223372036854775807) (hs : -9223372036854775808 ≤ q.state ∧ q.state ≤ 9223372036854775807) (hi : ∀ n ∈ q.lists, -9223372036854775808 ≤ n ∧ n ≤ 9223372036854775807) (hT : Tab w) :
    Calls Tryz.prog 16 #[v] w fun e w' => e = .returned (vstr (messageB q)) ∧ Ext w w' := by
  have htl := hT.lt
  obtain ⟨la, ln, lc, ma, mn, mc, rfl, hls, hms⟩ := hv
  obtain ⟨b0, hb0⟩ : ∃ b0, b0 = w.heap.size + 1 := ⟨_, rfl⟩
  obtain ⟨W0, hW0⟩ : ∃ W0, W0 = (w.alloc (.cells #[vstr q.id, vstr q.sender, vstr q.subject, .int .i64 q.date, .int .i64 q.state, .slice la ln lc, vstr q.commit, .slice ma mn mc] 43)).alloc (.cells #[.pointer none, .slice none 0 0] 72) := ⟨_, rfl⟩
  have P0 : Pg w W0 b0 (.cells #[vstr q.id, vstr q.sender, vstr q.subject, .int .i64 q.date, .int .i64 q.state, .slice la ln lc, vstr q.commit, .slice ma mn mc] 43 (0, 0)) [] := by
    rw [hW0, hb0]
    refine ⟨rfl, bld_new (Nat.le_refl _) ?_, hT.ext (((Ext.refl w).alloc _).alloc _), by omega, ((Ext.refl w).alloc _).alloc _, ?_, by simp⟩
    · have := heap_new (w.alloc (.cells #[vstr q.id, vstr q.sender, vstr q.subject, .int .i64 q.date, .int .i64 q.state, .slice la ln lc, vstr q.commit, .slice ma mn mc] 43)) (.cells #[.pointer none, .slice none 0 0] 72)
      rwa [World.size_alloc] at this
    · rw [Below.heap_alloc _ _ _ (by simp)]
      exact heap_new w _
  obtain ⟨l1, hl1⟩ : ∃ l1, l1 = q.lines.foldl shownE (headB q) := ⟨_, rfl⟩
  have hm : (headB q).length ≤ l1.length := by rw [hl1]; exact shownsE_len _ _
  rw [messageB, ← hl1, putL_len] at hlen
  have hlen1 : l1.length + 4 ≤ 1073741824 := hlen
  rw [messageB]
  obtain ⟨E1, hE1⟩ : ∃ E1, E1 = putL [] [[109, 101, 115, 115, 97, 103, 101, 32], escapeB q.id] := ⟨_, rfl⟩
  have n1 := congrArg List.length hE1
  rw [putL_len] at n1
  simp only [List.flatten_cons, List.flatten_nil, List.length_append, List.length_nil, List.length_cons] at n1
  obtain ⟨E2, hE2⟩ : ∃ E2, E2 = putL E1 [[102, 114, 111, 109, 32], escapeB q.sender] := ⟨_, rfl⟩
  have n2 := congrArg List.length hE2
  rw [putL_len] at n2
  simp only [List.flatten_cons, List.flatten_nil, List.length_append, List.length_nil, List.length_cons] at n2
  obtain ⟨E3, hE3⟩ : ∃ E3, E3 = putL E2 [[115, 117, 98, 106, 101, 99, 116, 32], escapeB q.subject] := ⟨_, rfl⟩
  have n3 := congrArg List.length hE3
  rw [putL_len] at n3
  simp only [List.flatten_cons, List.flatten_nil, List.length_append, List.length_nil, List.length_cons] at n3
  obtain ⟨E4, hE4⟩ : ∃ E4, E4 = putL E3 [[100, 97, 116, 101, 32], Lib.itoa q.date] := ⟨_, rfl⟩
  have n4 := congrArg List.length hE4
  rw [putL_len] at n4
  simp only [List.flatten_cons, List.flatten_nil, List.length_append, List.length_nil, List.length_cons] at n4
  obtain ⟨E5, hE5⟩ : ∃ E5, E5 = putL E4 [[115, 116, 97, 116, 101, 32], Lib.itoa q.state] := ⟨_, rfl⟩
  have n5 := congrArg List.length hE5
  rw [putL_len] at n5
  simp only [List.flatten_cons, List.flatten_nil, List.length_append, List.length_nil, List.length_cons] at n5
  obtain ⟨E6, hE6⟩ : ∃ E6, E6 = putL E5 [listsB q.lists] := ⟨_, rfl⟩
  have n6 := congrArg List.length hE6
  rw [putL_len] at n6
  simp only [List.flatten_cons, List.flatten_nil, List.length_append, List.length_nil, List.length_cons] at n6
  obtain ⟨E7, hE7⟩ : ∃ E7, E7 = putL E6 [[99, 111, 109, 109, 105, 116, 32], hexB q.commit] := ⟨_, rfl⟩
  have n7 := congrArg List.length hE7
  rw [putL_len] at n7
  simp only [List.flatten_cons, List.flatten_nil, List.length_append, List.length_nil, List.length_cons] at n7
  have hh : headB q = E7 := by rw [hE7, hE6, hE5, hE4, hE3, hE2, hE1]; rfl
  rw [hh] at hm hl1 ⊢
  have i1 := escapeB_len q.id
  have i2 := escapeB_len q.sender
  have i3 := escapeB_len q.subject
  have i7 := hexB_len q.commit
  obtain ⟨c0, c1, c2, c3, c4, c5, c6, c7⟩ := pg_cells P0
  have H1 := Lib.hid hE1
  have H2 := Lib.hid hE2
  have H3 := Lib.hid hE3
  have H4 := Lib.hid hE4
  have H5 := Lib.hid hE5
  have H6 := Lib.hid hE6
  have H7 := Lib.hid hE7
  have Hl1 := Lib.hid hl1
  have HP0 := Lib.hid P0
  have HW0 := Lib.hid hW0
  have Hb0 := Lib.hid hb0
  have HLs := Lib.hid hls
  have HMs := Lib.hid hms
  have HI := Lib.hid hi
  clear hE1 hE2 hE3 hE4 hE5 hE6 hE7 hl1 P0 hW0 hb0 hls hms hi hh hT htl
  go_enter Tryz.func16, Tryz.ntmps16
  go_wp2_with fail
  rw [show (w.alloc (.cells #[.string ⟨q.id.toArray⟩, .string ⟨q.sender.toArray⟩, .string ⟨q.subject.toArray⟩, .int .i64 q.date, .int .i64 q.state, .slice la ln lc, .string ⟨q.commit.toArray⟩, .slice ma mn mc] 43)).alloc (.cells #[.pointer none, .slice none 0 0] 72) = W0 from HW0.out.symm, ← Hb0.out]
  clear c0 c1 c2 c3 c4 c5 c6 c7
  refine (escape_any q.id W0 (by omega) HP0.out.tab).mono ?_
  rintro e u1 ⟨rfl, y1⟩
  go_wp2_with fail
  refine (HP0.out.line y1 [[109, 101, 115, 115, 97, 103, 101, 32], escapeB q.id] (Nat.le_of_ble_eq_true rfl) (by rw [← H1.out]; omega)).mono ?_
  rintro e w1 ⟨rfl, P1, -, -⟩
  rw [← H1.out] at P1
  obtain ⟨c0, c1, c2, c3, c4, c5, c6, c7⟩ := pg_cells P1
  have HP1 := Lib.hid P1
  clear P1 y1
  go_wp2_with fail
  clear c0 c1 c2 c3 c4 c5 c6 c7
  refine (escape_any q.sender w1 (by omega) HP1.out.tab).mono ?_
  rintro e u2 ⟨rfl, y2⟩
  go_wp2_with fail
  refine (HP1.out.line y2 [[102, 114, 111, 109, 32], escapeB q.sender] (Nat.le_of_ble_eq_true rfl) (by rw [← H2.out]; omega)).mono ?_
  rintro e w2 ⟨rfl, P2, -, -⟩
  rw [← H2.out] at P2
  obtain ⟨c0, c1, c2, c3, c4, c5, c6, c7⟩ := pg_cells P2
  have HP2 := Lib.hid P2
  clear P2 y2
  go_wp2_with fail
  clear c0 c1 c2 c3 c4 c5 c6 c7
  refine (escape_any q.subject w2 (by omega) HP2.out.tab).mono ?_
  rintro e u3 ⟨rfl, y3⟩
  go_wp2_with fail
  refine (HP2.out.line y3 [[115, 117, 98, 106, 101, 99, 116, 32], escapeB q.subject] (Nat.le_of_ble_eq_true rfl) (by rw [← H3.out]; omega)).mono ?_
  rintro e w3 ⟨rfl, P3, -, -⟩
  rw [← H3.out] at P3
  obtain ⟨c0, c1, c2, c3, c4, c5, c6, c7⟩ := pg_cells P3
  have HP3 := Lib.hid P3
  clear P3 y3
  go_wp2_with fail
  clear c0 c1 c2 c3 c4 c5 c6 c7
  refine (decimal_any q.date hd.1 hd.2 w3 HP3.out.tab).mono ?_
  rintro e u4 ⟨rfl, y4⟩
  go_wp2_with fail
  refine (HP3.out.line y4 [[100, 97, 116, 101, 32], Lib.itoa q.date] (Nat.le_of_ble_eq_true rfl) (by rw [← H4.out]; omega)).mono ?_
  rintro e w4 ⟨rfl, P4, -, -⟩
  rw [← H4.out] at P4
  obtain ⟨c0, c1, c2, c3, c4, c5, c6, c7⟩ := pg_cells P4
  have HP4 := Lib.hid P4
  clear P4 y4
  go_wp2_with fail
  clear c0 c1 c2 c3 c4 c5 c6 c7
  refine (decimal_any q.state hs.1 hs.2 w4 HP4.out.tab).mono ?_
  rintro e u5 ⟨rfl, y5⟩
  go_wp2_with fail
  refine (HP4.out.line y5 [[115, 116, 97, 116, 101, 32], Lib.itoa q.state] (Nat.le_of_ble_eq_true rfl) (by rw [← H5.out]; omega)).mono ?_
  rintro e w5 ⟨rfl, P5, -, -⟩
  rw [← H5.out] at P5
  obtain ⟨c0, c1, c2, c3, c4, c5, c6, c7⟩ := pg_cells P5
  have HP5 := Lib.hid P5
  clear P5 y5
  obtain ⟨am, cm, hem, hcm, hrm⟩ := HMs.out
  obtain ⟨rfl, rfl, rfl⟩ : ma = am ∧ mn = q.lists.length ∧ mc = cm := by cases hem; exact ⟨rfl, rfl, rfl⟩
  clear hem
  have Hrm := Lib.hid hrm
  clear hrm
  go_wp2_with fail
  go_loopw [4, 37] (fun s i wr => ∃ k : Nat, k ≤ q.lists.length ∧ i = .int .i64 k ∧ s = vstr (listsB (q.lists.take k)) ∧ Pg w wr b0 (.cells #[vstr q.id, vstr q.sender, vstr q.subject, .int .i64 q.date, .int .i64 q.state, .slice la ln lc, vstr q.commit, .slice ma q.lists.length mc] 43 (0, 0)) E5) (fun _ i _ => q.lists.length - (intOf i).toNat)
  case atStart => exact ⟨0, Nat.zero_le _, rfl, rfl, HP5.out⟩
  case round =>
    obtain ⟨k, hk, rfl, rfl, Pk⟩ := hrel
    clear c0 c1 c2 c3 c4 c5 c6 c7
    obtain ⟨c0, c1, c2, c3, c4, c5, c6, c7⟩ := pg_cells Pk
    have HPk := Lib.hid Pk
    clear Pk
    by_cases hlt : k < q.lists.length
    · rcases Hrm.out with h0 | ⟨bm, om, hbm, hrow⟩
      · omega
      have hcell := HPk.out.ext.holds (hrow k hlt hlt)
      rw [Nat.mul_one] at hcell
      have hle := lists_take q.lists (k + 1)
      have hsn : listsB (q.lists.take (k + 1)) = listsB (q.lists.take k) ++ ([32] ++ Lib.itoa q.lists[k]) := foldl_snoc (fun a n => a ++ ([32] ++ Lib.itoa n)) q.lists [108, 105, 115, 116, 115] k hlt
      have hin := HI.out q.lists[k] (List.getElem_mem hlt)
      subst hbm
      obtain ⟨L, hL⟩ : ∃ L, L = listsB (q.lists.take k) := ⟨_, rfl⟩
      obtain ⟨D, hD⟩ : ∃ D, D = Lib.itoa q.lists[k] := ⟨_, rfl⟩
      rw [← hL, ← hD] at hsn
      rw [← hL]
      have hx := congrArg List.length hsn
      simp only [List.length_append, List.length_cons, List.length_nil] at hx
      have hz1 : ¬ 9223372036854775807 < 1 + D.length := by omega
      have hz2 : ¬ 9223372036854775807 < L.length + (1 + D.length) := by omega
      have HL := Lib.hid hL
      have HD := Lib.hid hD
      have Hsn := Lib.hid hsn
      clear hL hD hsn hrow
      go_wp2_with fail
      refine (decimal_any q.lists[k] hin.1 hin.2 wr HPk.out.tab).mono ?_
      rintro e w6 ⟨rfl, y6⟩
      rw [← HD.out]
      have Q6 := Lib.hid (HPk.out.mono y6)
      clear y6 hcell
      go_wp2
      go_roundw
      case rel => exact ⟨k + 1, by omega, by go_num, by rw [Hsn.out]; rfl, Q6.out⟩
      case measure => simp [intOf]; omega
    · obtain rfl : k = q.lists.length := by omega
      rw [List.take_length]
      go_wp2_with fail
      refine (HPk.out.line (Ext.refl _) [listsB q.lists] (Nat.le_of_ble_eq_true rfl) (by rw [← H6.out]; omega)).mono ?_
      rintro e w6 ⟨rfl, P6, -, -⟩
      rw [← H6.out] at P6
      clear c0 c1 c2 c3 c4 c5 c6 c7
      obtain ⟨c0, c1, c2, c3, c4, c5, c6, c7⟩ := pg_cells P6
      have HP6 := Lib.hid P6
      clear P6
      go_wp2_with fail
      clear c0 c1 c2 c3 c4 c5 c6 c7
      refine (hex_any q.commit w6 (by omega)).mono ?_
      rintro e u7 ⟨rfl, y7⟩
      go_wp2_with fail
      refine (HP6.out.line y7 [[99, 111, 109, 109, 105, 116, 32], hexB q.commit] (Nat.le_of_ble_eq_true rfl) (by rw [← H7.out]; omega)).mono ?_
      rintro e w7 ⟨rfl, P7, -, -⟩
      rw [← H7.out] at P7
      obtain ⟨c0, c1, c2, c3, c4, c5, c6, c7⟩ := pg_cells P7
      have HP7 := Lib.hid P7
      clear P7 y7
      obtain ⟨aL, cL, heL, hcL, hrL⟩ := HLs.out
      obtain ⟨rfl, rfl, rfl⟩ : la = aL ∧ ln = q.lines.length ∧ lc = cL := by cases heL; exact ⟨rfl, rfl, rfl⟩
      clear heL
      have HrL := Lib.hid hrL
      clear hrL
      go_wp2_with fail
      go_loopw [58] (fun i wr => ∃ k : Nat, k ≤ q.lines.length ∧ i = .int .i64 k ∧ Pg w wr b0 (.cells #[vstr q.id, vstr q.sender, vstr q.subject, .int .i64 q.date, .int .i64 q.state, .slice la q.lines.length lc, vstr q.commit, .slice ma q.lists.length mc] 43 (0, 0)) ((q.lines.take k).foldl shownE E7)) (fun i _ => q.lines.length - (intOf i).toNat)
      case atStart => exact ⟨0, Nat.zero_le _, rfl, HP7.out⟩
      case round =>
        obtain ⟨j, hj, rfl, Pj⟩ := hrel
        clear c0 c1 c2 c3 c4 c5 c6 c7
        have HPj := Lib.hid Pj
        clear Pj
        by_cases hjl : j < q.lines.length
        · rcases HrL.out with h0 | ⟨bL, oL, hbL, hrow⟩
          · omega
          subst hbL
          obtain ⟨s0, s1, s2, s3⟩ := (hrow j hjl hjl).ext HPj.out.ext
          have hsn := foldl_snoc shownE q.lines E7 j hjl
          have hle := showns_take q.lines E7 (j + 1)
          rw [← Hl1.out] at hle
          obtain ⟨x, hx⟩ : ∃ x, x = q.lines[j] := ⟨_, rfl⟩
          rw [← hx] at s0 s1 s2 s3 hsn
          obtain ⟨E, hE⟩ : ∃ E, E = (q.lines.take j).foldl shownE E7 := ⟨_, rfl⟩
          rw [← hE] at hsn HPj
          rw [hsn] at hle
          have Hsn := Lib.hid hsn
          clear hsn hx hE hrow
          obtain ⟨bs, hbs⟩ : ∃ bs, bs = wr.heap.size := ⟨_, rfl⟩
          obtain ⟨V1, hV1⟩ : ∃ V1, V1 = wr.alloc (.cells #[.bool x.hid, vstr x.salt, vstr x.text, vstr x.hash] 45) := ⟨_, rfl⟩
          have xv : Ext wr V1 := by rw [hV1]; exact (Ext.refl wr).alloc _
          have hc1 : V1.heap[bs]? = some (.cells #[.bool x.hid, vstr x.salt, vstr x.text, vstr x.hash] 45 (0, 0)) := by rw [hV1, hbs]; exact heap_new wr _
          have d0 : V1.cell? ⟨bs, 0, none⟩ = some (.bool x.hid) := by rw [Lib.cell_of_heap hc1]; rfl
          have d1 : V1.cell? ⟨bs, 1, none⟩ = some (vstr x.salt) := by rw [Lib.cell_of_heap hc1]; rfl
          have d2 : V1.cell? ⟨bs, 2, none⟩ = some (vstr x.text) := by rw [Lib.cell_of_heap hc1]; rfl
          have d3 : V1.cell? ⟨bs, 3, none⟩ = some (vstr x.hash) := by rw [Lib.cell_of_heap hc1]; rfl
          have QV := Lib.hid (HPj.out.mono xv)
          have HV1 := Lib.hid hV1
          have Hbs := Lib.hid hbs
          clear hV1 hbs hc1 xv
          cases hxh : x.hid with
          | true =>
            rw [hxh] at s0 d0
            have en : shownE E x = putL E [[45], hexB x.hash] := by rw [shownE, hxh]; rfl
            rw [en] at Hsn hle
            have hlx := hle
            rw [putL_len] at hlx
            simp only [List.flatten_cons, List.flatten_nil, List.length_append, List.length_nil, List.length_cons] at hlx
            have hxl := hexB_len x.hash
            clear en
            have hw : wr.alloc (.cells #[.bool true, .string ⟨x.salt.toArray⟩, .string ⟨x.text.toArray⟩, .string ⟨x.hash.toArray⟩] 45) = V1 := by rw [HV1.out, hxh]
            have Hw := Lib.hid hw
            clear hw hxh
            go_wp2_with fail
            rw [Hw.out]
            refine (hex_any x.hash V1 (by omega)).mono ?_
            rintro e wa ⟨rfl, ya⟩
            clear d0 d1 d2 d3
            go_wp2_with fail
            refine (QV.out.line ya [[45], hexB x.hash] (Nat.le_of_ble_eq_true rfl) (by omega)).mono ?_
            rintro e wz ⟨rfl, Pz, -, -⟩
            have HPz := Lib.hid Pz
            clear Pz ya
            go_wp2
            go_roundw
            case rel => exact ⟨j + 1, by omega, by go_num, by rw [Hsn.out]; exact HPz.out⟩
            case measure => simp [intOf]; omega
          | false =>
            rw [hxh] at s0 d0
            have en : shownE E x = putL E [[43], hexB x.salt, [32], escapeB x.text] := by rw [shownE, hxh]; rfl
            rw [en] at Hsn hle
            have hlx := hle
            rw [putL_len] at hlx
            simp only [List.flatten_cons, List.flatten_nil, List.length_append, List.length_nil, List.length_cons] at hlx
            have hxl := hexB_len x.salt
            have hxt := escapeB_len x.text
            clear en
            have hw : wr.alloc (.cells #[.bool false, .string ⟨x.salt.toArray⟩, .string ⟨x.text.toArray⟩, .string ⟨x.hash.toArray⟩] 45) = V1 := by rw [HV1.out, hxh]
            have Hw := Lib.hid hw
            clear hw hxh
            go_upto_region 20 with fail
            rw [Hw.out, ← Hbs.out]
            go_region_with (first
              | (go_at_call 24; (with_reducible refine (hex_any x.salt _ (by omega)).mono ?_); rintro e wa ⟨rfl, ya⟩; have ya' : Ext V1 wa := ((Ext.refl V1).drew).trans ya; have e2 := ya'.holds d2)
              | (go_at_call 26; (with_reducible refine (escape_any x.text _ (by omega) (QV.out.mono ya').tab).mono ?_); rintro e wb ⟨rfl, yb⟩; have yb' : Ext V1 wb := ya'.trans yb)
              | (go_at_call 29; (refine (QV.out.line yb' [[43], hexB x.salt, [32], escapeB x.text] (Nat.le_of_ble_eq_true rfl) (by omega)).mono ?_); rintro e wz ⟨rfl, Pz, -, -⟩))
            all_goals
              have HPz := Lib.hid Pz
              clear Pz ya
              go_wp2
              go_roundw
              case rel => exact ⟨j + 1, by omega, by go_num, by rw [Hsn.out]; exact HPz.out⟩
              case measure => simp [intOf]; omega
        · obtain rfl : j = q.lines.length := by omega
          rw [List.take_length, ← Hl1.out] at HPj
          go_wp2_with fail
          refine (HPj.out.line (Ext.refl _) [[101, 110, 100]] (Nat.le_of_ble_eq_true rfl) (by rw [putL_len]; show _ + 3 + 1 ≤ _; omega)).mono ?_
          rintro e w8 ⟨rfl, P8, -, -⟩
          have HP8 := Lib.hid P8
          clear P8
          go_wp2_with fail
          refine (builder_string b0 b0 _ _ HP8.out.bld (Nat.le_of_lt HP8.out.sz)).mono ?_
          rintro e w9 ⟨rfl, _, h9, _⟩
          have x9 : Ext w w9 := HP8.out.ext.upon (Below.mono h9 (by rw [Hb0.out]; exact Nat.le_succ _))
          go_wp2
          go_ret
          exact ⟨congrArg (fun z => Ending.returned (vstr (putL z [[101, 110, 100]]))) Hl1.out, x9⟩
end Go.Proofs.YtfkjjhfoncckcaaGreatDoor
