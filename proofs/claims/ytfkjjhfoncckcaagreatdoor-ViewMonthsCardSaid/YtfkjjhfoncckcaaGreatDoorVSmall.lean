/- small yields true. -/
import Derived.Test.YtfkjjhfoncckcaaGreatDoorVRead
namespace Go.Proofs.YtfkjjhfoncckcaaGreatDoor
open Go.RowKit Go.Sort

def smNodeCells : Array Value := #[vstr [97], .bool true, .int .i64 (-1), .int .i64 0, vstr [98], .bool false, .int .i64 0, .int .i64 1]
def smViewCells : Array Value := #[vstr [98], vstr [120], vstr [83], .int .i64 0, .int .i64 0, .slice none 0 0, vstr [], .slice none 0 0]
def smShownCells : Array Value := #[.bool false, vstr [115], vstr [60], vstr [], .bool true, vstr [], vstr [], vstr [104]]
theorem cell_new (w : World) (cs : Array Value) (t : TypeId) (o : Nat) : (w.alloc (.cells cs t)).cell? ⟨w.heap.size, o, none⟩ = cs[o]? := World.cell?_alloc_mark ..
theorem nodes_new (w : World) : NodesAt (w.alloc (.cells smNodeCells 62)) smNodes (.slice (some ⟨w.heap.size, 0, none⟩) 2 2) := by
  refine ⟨_, _, rfl, by decide, .inr ⟨w.heap.size, 0, rfl, fun i hi h => ?_⟩⟩
  have h2 : i < 2 := hi
  obtain rfl | rfl : i = 0 ∨ i = 1 := by omega
  · exact ⟨by rw [cell_new]; rfl, by rw [cell_new]; rfl, by rw [cell_new]; rfl, by rw [cell_new]; rfl⟩
  · exact ⟨by rw [cell_new]; rfl, by rw [cell_new]; rfl, by rw [cell_new]; rfl, by rw [cell_new]; rfl⟩
theorem views_new (w : World) : ViewsAt (w.alloc (.cells smViewCells 43)) smViews (.slice (some ⟨w.heap.size, 0, none⟩) 1 1) := by
  refine ⟨_, _, rfl, by decide, .inr ⟨w.heap.size, 0, rfl, fun i hi h => ?_⟩⟩
  have h2 : i < 1 := hi
  obtain rfl : i = 0 := by omega
  refine ⟨none, 0, 0, none, 0, 0, ?_, ?_, ?_, ?_, ?_, ?_, ?_, ?_, ⟨_, _, rfl, Nat.le_refl _, .inl rfl⟩, ⟨_, _, rfl, Nat.le_refl _, .inl rfl⟩⟩ <;> (rw [cell_new]; rfl)
theorem ints_new (w : World) : IntsAt (w.alloc (.cells #[.int .i64 1, .int .i64 2] 3)) [1, 2] (.slice (some ⟨w.heap.size, 0, none⟩) 2 2) := by
  refine ⟨_, _, rfl, by decide, .inr ⟨w.heap.size, 0, rfl, fun i hi h => ?_⟩⟩
  have h2 : i < 2 := hi
  obtain rfl | rfl : i = 0 ∨ i = 1 := by omega
  · rw [cell_new]; rfl
  · rw [cell_new]; rfl
theorem showns_new (w : World) : ShownsAt (w.alloc (.cells smShownCells 45)) smView.lines (.slice (some ⟨w.heap.size, 0, none⟩) 2 2) := by
  refine ⟨_, _, rfl, by decide, .inr ⟨w.heap.size, 0, rfl, fun i hi h => ?_⟩⟩
  have h2 : i < 2 := hi
  obtain rfl | rfl : i = 0 ∨ i = 1 := by omega
  · exact ⟨by rw [cell_new]; rfl, by rw [cell_new]; rfl, by rw [cell_new]; rfl, by rw [cell_new]; rfl⟩
  · exact ⟨by rw [cell_new]; rfl, by rw [cell_new]; rfl, by rw [cell_new]; rfl, by rw [cell_new]; rfl⟩
theorem sm_short : ∀ q ∈ smViews, ShortV 100000000 q := by
  intro q hq
  simp only [smViews, List.mem_singleton] at hq
  subst hq
  exact ⟨by decide, by decide, by decide⟩
theorem sm_ids : ∀ q ∈ smNodes, q.id.length ≤ 100000000 := by
  intro q hq
  simp only [smNodes, List.mem_cons, List.not_mem_nil, or_false] at hq
  rcases hq with rfl | rfl <;> decide
theorem sm_ints : ∀ n ∈ smView.lists, (-9223372036854775808 : Int) ≤ n ∧ n ≤ 9223372036854775807 := by
  intro n hn
  simp only [smView, List.mem_cons, List.not_mem_nil, or_false] at hn
  rcases hn with rfl | rfl <;> decide

set_option maxHeartbeats 1000000 in
set_option maxRecDepth 100000 in
theorem small_true (w : World) (hT : Tab w) :
    Calls Tryz.prog 5 #[] w fun e w' => e = .returned (.bool true) ∧ Ext w w' := by
  have HT := Lib.hid hT
  clear hT
  go_enter Tryz.func5, Tryz.ntmps5
  go_wp2_with fail
  refine (unescape_any [38, 108, 116] w (by decide) HT.out).mono ?_
  rintro e w1 ⟨rfl, x1⟩
  rw [sm_one]
  have T1 := Lib.hid (HT.out.ext x1)
  have X1 := Lib.hid x1
  clear x1
  go_wp2_with fail
  refine (unescape_any [38, 35, 48, 49, 48, 59] w1 (by decide) T1.out).mono ?_
  rintro e w2 ⟨rfl, x2⟩
  rw [sm_two]
  have T2 := Lib.hid (T1.out.ext x2)
  have X2 := Lib.hid (X1.out.trans x2)
  clear x2
  go_wp2_with fail
  obtain ⟨W3, hW3⟩ : ∃ W3, W3 = (w2.alloc (.cells smNodeCells 62)).alloc (.cells smViewCells 43) := ⟨_, rfl⟩
  have n3 : NodesAt W3 smNodes (.slice (some ⟨w2.heap.size, 0, none⟩) 2 2) := by rw [hW3]; exact (nodes_new w2).ext ((Ext.refl _).alloc _)
  have v3 : ViewsAt W3 smViews (.slice (some ⟨w2.heap.size + 1, 0, none⟩) 1 1) := by
    have := views_new (w2.alloc (.cells smNodeCells 62))
    rw [hW3]
    rwa [World.size_alloc] at this
  have x3 : Ext w2 W3 := by rw [hW3]; exact ((Ext.refl w2).alloc _).alloc _
  rw [show (w2.alloc (.cells #[.string ⟨#[97]⟩, .bool true, .int .i64 (-1), .int .i64 0, .string ⟨#[98]⟩, .bool false, .int .i64 0, .int .i64 1] 62)).alloc (.cells #[.string ⟨#[98]⟩, .string ⟨#[120]⟩, .string ⟨#[83]⟩, .int .i64 0, .int .i64 0, .slice none 0 0, .string ⟨#[]⟩, .slice none 0 0] 43) = W3 from hW3.symm]
  have T3 := Lib.hid (T2.out.ext x3)
  have X3 := Lib.hid (X2.out.trans x3)
  clear hW3 x3
  refine (thread_any smNodes smViews _ _ W3 n3 v3 (by decide) (by decide) sm_short sm_ids (by rw [sm_thread]; decide) T3.out).mono ?_
  rintro e w4 ⟨rfl, x4⟩
  rw [sm_thread]
  have T4 := Lib.hid (T3.out.ext x4)
  have X4 := Lib.hid (X3.out.trans x4)
  clear x4 n3 v3
  go_wp2_with fail
  obtain ⟨W5, hW5⟩ : ∃ W5, W5 = (w4.alloc (.cells #[.int .i64 1, .int .i64 2] 3)).alloc (.cells smShownCells 45) := ⟨_, rfl⟩
  have n5 : IntsAt W5 [1, 2] (.slice (some ⟨w4.heap.size, 0, none⟩) 2 2) := by rw [hW5]; exact (ints_new w4).ext ((Ext.refl _).alloc _)
  have v5 : ShownsAt W5 smView.lines (.slice (some ⟨w4.heap.size + 1, 0, none⟩) 2 2) := by
    have := showns_new (w4.alloc (.cells #[.int .i64 1, .int .i64 2] 3))
    rw [hW5]
    rwa [World.size_alloc] at this
  have x5 : Ext w4 W5 := by rw [hW5]; exact ((Ext.refl w4).alloc _).alloc _
  rw [show (w4.alloc (.cells #[.int .i64 1, .int .i64 2] 3)).alloc (.cells #[.bool false, .string ⟨#[115]⟩, .string ⟨#[60]⟩, .string ⟨#[]⟩, .bool true, .string ⟨#[]⟩, .string ⟨#[]⟩, .string ⟨#[104]⟩] 45) = W5 from hW5.symm]
  have T5 := Lib.hid (T4.out.ext x5)
  have X5 := Lib.hid (X4.out.trans x5)
  clear hW5 x5
  refine (message_any smView _ W5 ⟨_, _, _, _, _, _, rfl, v5, n5⟩ (by rw [sm_message, sp0_page]; exact Nat.le_trans sp_len.1 (by decide)) (by decide) (by decide) (by decide) (by decide) sm_ints T5.out).mono ?_
  rintro e w6 ⟨rfl, x6⟩
  rw [sm_message, sp0_page]
  have T6 := Lib.hid (T5.out.ext x6)
  have X6 := Lib.hid (X5.out.trans x6)
  clear x6 n5 v5
  go_wp2_with fail
  refine (read_small w6 T6.out).mono ?_
  rintro e w7 ⟨⟨la, lc, na, nc, rfl⟩, x7⟩
  unfold viewR
  have T7 := Lib.hid (T6.out.ext x7)
  have X7 := Lib.hid (X6.out.trans x7)
  clear x7
  go_wp2_with fail
  obtain ⟨W8, hW8⟩ : ∃ W8, W8 = w7.alloc (.cells #[vstr [105], vstr [], vstr [], .int .i64 0, .int .i64 0, .slice na 2 nc, vstr [], .slice la 2 lc] 43) := ⟨_, rfl⟩
  rw [← hW8]
  have e8 : Eight W8 w7.heap.size (vstr [105]) (vstr []) (vstr []) (.int .i64 0) (.int .i64 0) (.slice na 2 nc) (vstr []) (.slice la 2 lc) := by rw [hW8]; exact heap_new w7 _
  have x8 : Ext w7 W8 := by rw [hW8]; exact (Ext.refl w7).alloc _
  have T8 := Lib.hid (T7.out.ext x8)
  have X8 := Lib.hid (X7.out.trans x8)
  clear hW8 x8
  refine (escape_any [97, 60, 98, 32, 38, 32, 99, 10] W8 (by decide) T8.out).mono ?_
  rintro e w9 ⟨rfl, x9⟩
  rw [sm_esc]
  have e9 := e8.ext x9
  have c0 := e9.cell0
  obtain ⟨_, _, c5, _, c7⟩ := e9.cells
  have X9 := Lib.hid (X8.out.trans x9)
  clear e8 x9
  go_wp2
  go_ret
  exact ⟨rfl, X9.out⟩
end Go.Proofs.YtfkjjhfoncckcaaGreatDoor
