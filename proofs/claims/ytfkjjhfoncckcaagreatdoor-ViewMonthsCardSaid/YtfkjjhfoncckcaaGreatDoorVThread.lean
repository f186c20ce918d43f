/- view.Thread. -/
import Derived.Test.YtfkjjhfoncckcaaGreatDoorVEntry
namespace Go.Proofs.YtfkjjhfoncckcaaGreatDoor
open Go.RowKit Go.Sort

def indentB (d : Int) : List UInt8 := Lib.repeatL [32, 32] (min (max d 0) 100).toNat
def nodeB (vs : List ViewT) (q : NodeT) : List UInt8 := if q.ghost then indentB q.depth ++ [63, 32] ++ escapeB q.id ++ [10] else indentB q.depth ++ entryB q.id vs ++ [10]
def threadB (vs : List ViewT) (ns : List NodeT) : List UInt8 := (ns.map (nodeB vs)).flatten
theorem threadB_snoc (vs : List ViewT) (ns : List NodeT) (k : Nat) (h : k < ns.length) : threadB vs (ns.take (k + 1)) = threadB vs (ns.take k) ++ nodeB vs ns[k] := by
  rw [List.take_succ_eq_append_getElem h, threadB, List.map_append, List.flatten_append, ← threadB]
  congr 1
  simp
theorem threadB_le (vs : List ViewT) (ns : List NodeT) (k : Nat) : (threadB vs (ns.take k)).length ≤ (threadB vs ns).length := by
  have : threadB vs ns = threadB vs (ns.take k) ++ threadB vs (ns.drop k) := by
    rw [threadB, threadB, threadB, ← List.flatten_append, ← List.map_append, List.take_append_drop]
  rw [this, List.length_append]
  omega
theorem parts_new (w : World) (t : TypeId) (xs : List (List UInt8)) : PartsOf (w.alloc (.cells (xs.map vstr).toArray t)) w.heap.size 0 xs := by
  refine ⟨by simp, fun j x hx => ?_⟩
  rw [Nat.zero_add, Lib.cell_of_heap (heap_new w _)]
  simp [hx]

theorem indentB_le (d : Int) : (indentB d).length ≤ 200 := by
  rw [indentB, Lib.repeatL_length]
  have : (min (max d 0) 100).toNat ≤ 100 := by omega
  show _ * 2 ≤ 200
  omega
theorem indent_any (d : Int) (w : World) : Calls Tryz.prog 28 #[.string ⟨#[32, 32]⟩, .int .i64 (min (max d 0) 100)] w fun e w' => e = .returned (vstr (indentB d)) ∧ Ext w w' := by
  have h : ((min (max d 0) 100).toNat : Int) = min (max d 0) 100 := by omega
  have h2 := Tryz.strings_Repeat ⟨#[32, 32]⟩ (min (max d 0) 100).toNat w (by omega) (by show 2 * _ ≤ _; omega)
  rw [h] at h2
  exact h2

set_option maxHeartbeats 1000000 in
set_option maxRecDepth 100000 in
theorem thread_any (ns : List NodeT) (vs : List ViewT) (nv v : Value) (w : World) (hn : NodesAt w ns nv) (hv : ViewsAt w vs v) (hnl : ns.length ≤ 1073741824) (hl : vs.length ≤ 1073741824) (hq : ∀ q ∈ vs, ShortV 100000000 q) (hid : ∀ q ∈ ns, q.id.length ≤ 100000000)
    (ht : (threadB vs ns).length ≤ 1073741824) (hT : Tab w) :
    Calls Tryz.prog 11 #[nv, v] w fun e w' => e = .returned (vstr (threadB vs ns)) ∧ Ext w w' := by
  have htl := hT.lt
  obtain ⟨a, c, rfl, hc, hr⟩ := hn
  have Hr := Lib.hid hr
  have Hv := Lib.hid hv
  have Hq := Lib.hid hq
  have Hi := Lib.hid hid
  clear hr hv hq hid
  go_enter Tryz.func11, Tryz.ntmps11
  go_wp2_with fail
  obtain ⟨b0, hb0⟩ : ∃ b0, b0 = w.heap.size := ⟨_, rfl⟩
  obtain ⟨W0, hW0⟩ : ∃ W0, W0 = w.alloc (.cells #[.pointer none, .slice none 0 0] 72) := ⟨_, rfl⟩
  have x0 : Ext w W0 := by rw [hW0]; exact (Ext.refl w).alloc _
  have k0 : Bld 72 b0 b0 [] W0 := bld_new (Nat.le_refl _) (by rw [hW0, hb0]; exact heap_new w _)
  have hz0 : W0.heap.size = b0 + 1 := by rw [hW0, hb0]; simp
  rw [← hW0, ← hb0]
  have Hb := Lib.hid hb0
  have t0 := hT.ext x0
  clear hW0 hb0 hT
  go_loopw [11] (fun i wr => ∃ k : Nat, k ≤ ns.length ∧ i = .int .i64 k ∧ Bld 72 b0 b0 (threadB vs (ns.take k)) wr ∧ Tab wr ∧ Ext w wr ∧ b0 < wr.heap.size) (fun i _ => ns.length - (intOf i).toNat)
  case atStart => exact ⟨0, Nat.zero_le _, rfl, k0, t0, x0, by omega⟩
  case round =>
    obtain ⟨k, hk, rfl, kb, kt, kx, ksz⟩ := hrel
    by_cases hlt : k < ns.length
    · rcases Hr.out with h0 | ⟨b, o, ha, hrow⟩
      · omega
      subst ha
      obtain ⟨n0, n1, n2, n3⟩ := (hrow k hlt hlt).ext kx
      have hsn := threadB_snoc vs ns k hlt
      have hle := threadB_le vs ns (k + 1)
      have hidk := Hi.out ns[k] (List.getElem_mem hlt)
      obtain ⟨E, hE⟩ : ∃ E, E = threadB vs (ns.take k) := ⟨_, rfl⟩
      rw [← hE] at hsn kb
      have Hsn := Lib.hid hsn
      have HT := Lib.hid kt
      have HX := Lib.hid kx
      have HB := Lib.hid kb
      clear hsn hE kt kx kb t0 x0 k0 hrow
      obtain ⟨q, hqk⟩ : ∃ q, q = ns[k] := ⟨_, rfl⟩
      rw [← hqk] at Hsn hidk
      rw [← hqk] at n0 n1 n2 n3
      obtain ⟨bn, hbn⟩ : ∃ bn, bn = wr.heap.size := ⟨_, rfl⟩
      obtain ⟨W1, hW1⟩ : ∃ W1, W1 = wr.alloc (.cells #[vstr q.id, .bool q.ghost, .int .i64 q.parent, .int .i64 q.depth] 62) := ⟨_, rfl⟩
      have x1 : Ext wr W1 := by rw [hW1]; exact (Ext.refl wr).alloc _
      have hc1 : W1.heap[bn]? = some (.cells #[vstr q.id, .bool q.ghost, .int .i64 q.parent, .int .i64 q.depth] 62 (0, 0)) := by rw [hW1, hbn]; exact heap_new wr _
      have HW := Lib.hid hW1
      have Hbn := Lib.hid hbn
      have Hqk := Lib.hid hqk
      clear hqk hW1 hbn
      go_wp2_with fail
      rw [show (wr.alloc (.cells #[.string ⟨q.id.toArray⟩, .bool q.ghost, .int .i64 q.parent, .int .i64 q.depth] 62)) = W1 from HW.out.symm, ← Hbn.out]
      refine (indent_any q.depth W1).mono ?_
      rintro e w2 ⟨rfl, x2⟩
      have hc2 := (x2.heap (Array.getElem?_eq_some_iff.1 hc1).1).trans hc1
      have d0 : w2.cell? ⟨bn, 0, none⟩ = some (vstr q.id) := by rw [Lib.cell_of_heap hc2]; rfl
      have d1 : w2.cell? ⟨bn, 1, none⟩ = some (.bool q.ghost) := by rw [Lib.cell_of_heap hc2]; rfl
      have x12 := x1.trans x2
      obtain ⟨ind, hind⟩ : ∃ ind, ind = indentB q.depth := ⟨_, rfl⟩
      have hil := indentB_le q.depth
      rw [← hind] at hil ⊢
      have Hind := Lib.hid hind
      clear hind hc1 hc2 x1 x2 n0 n1 n2 n3
      have H12 := Lib.hid x12
      have nb : nodeB vs q = (if q.ghost then ind ++ [63, 32] ++ escapeB q.id ++ [10] else ind ++ entryB q.id vs ++ [10]) := by rw [nodeB, Hind.out]
      have Hnb := Lib.hid nb
      clear nb x12
      cases hg : q.ghost with
      | true =>
        rw [hg] at d1 Hnb
        go_wp2_with fail
        refine (escape_any q.id w2 (by omega) ((HT.out.ext H12.out))).mono ?_
        rintro e w3 ⟨rfl, x3⟩
        obtain ⟨A, hA⟩ : ∃ A, A = escapeB q.id := ⟨_, rfl⟩
        have en : nodeB vs q = (ind ++ ([63, 32] ++ A)) ++ [10] := by rw [Hnb.out, ← hA]; simp
        have hle2 : E.length + (ind ++ ([63, 32] ++ A)).length ≤ 1073741824 := by
          rw [Hsn.out, en] at hle
          simp only [List.length_append] at hle ⊢
          omega
        have en' := Lib.hid en
        rw [← hA]
        have HA := Lib.hid hA
        have x13 := Lib.hid (H12.out.trans x3)
        clear hA x3 d0 d1 en
        go_wp2_with fail
        have x4 : Ext wr (w3.alloc (.cells #[vstr ind, vstr [63, 32], vstr A] 9)) := x13.out.alloc _
        have hb4 : b0 < (w3.alloc (.cells #[vstr ind, vstr [63, 32], vstr A] 9)).heap.size := by have := x4.size; omega
        refine (line_any b0 b0 E w3.heap.size 0 3 [ind, [63, 32], A] _ (HB.out.ext x4) (parts_new w3 9 [ind, [63, 32], A]) (Nat.le_refl _) (by simpa using hle2) (Nat.le_of_ble_eq_true rfl) (Nat.le_of_lt hb4)).mono ?_
        rintro e w5 ⟨rfl, h5, hb5, ho5⟩
        have x5 : Ext w w5 := (HX.out.trans x4).upon (by rw [← Hb.out]; exact hb5)
        have t5 : Tab w5 := (HT.out.ext x4).below hb5 (by rw [Hb.out]; exact htl)
        have z5 := hb5.size
        have H5 := Lib.hid h5
        have T5 := Lib.hid t5
        have X5 := Lib.hid x5
        clear h5 hb5 ho5 t5 x5 x4
        go_wp2
        go_roundw
        case rel => exact ⟨k + 1, by omega, by go_num, by rw [Hsn.out, en'.out]; simpa using H5.out, T5.out, X5.out, by omega⟩
        case measure => simp [intOf]; omega
      | false =>
        rw [hg] at d1 Hnb
        go_wp2_with fail
        refine (entry_any q.id vs v w2 (Hv.out.ext (HX.out.trans H12.out)) hl hidk Hq.out ((HT.out.ext H12.out))).mono ?_
        rintro e w3 ⟨rfl, x3⟩
        obtain ⟨A, hA⟩ : ∃ A, A = entryB q.id vs := ⟨_, rfl⟩
        have en : nodeB vs q = (ind ++ A) ++ [10] := by rw [Hnb.out, ← hA]; simp
        have hle2 : E.length + (ind ++ A).length ≤ 1073741824 := by
          rw [Hsn.out, en] at hle
          simp only [List.length_append] at hle ⊢
          omega
        have en' := Lib.hid en
        rw [← hA]
        have HA := Lib.hid hA
        have x13 := Lib.hid (H12.out.trans x3)
        clear hA x3 d0 d1 en
        go_wp2_with fail
        have x4 : Ext wr (w3.alloc (.cells #[vstr ind, vstr A] 9)) := x13.out.alloc _
        have hb4 : b0 < (w3.alloc (.cells #[vstr ind, vstr A] 9)).heap.size := by have := x4.size; omega
        refine (line_any b0 b0 E w3.heap.size 0 2 [ind, A] _ (HB.out.ext x4) (parts_new w3 9 [ind, A]) (Nat.le_refl _) (by simpa using hle2) (Nat.le_of_ble_eq_true rfl) (Nat.le_of_lt hb4)).mono ?_
        rintro e w5 ⟨rfl, h5, hb5, ho5⟩
        have x5 : Ext w w5 := (HX.out.trans x4).upon (by rw [← Hb.out]; exact hb5)
        have t5 : Tab w5 := (HT.out.ext x4).below hb5 (by rw [Hb.out]; exact htl)
        have z5 := hb5.size
        have H5 := Lib.hid h5
        have T5 := Lib.hid t5
        have X5 := Lib.hid x5
        clear h5 hb5 ho5 t5 x5 x4
        go_wp2
        go_roundw
        case rel => exact ⟨k + 1, by omega, by go_num, by rw [Hsn.out, en'.out]; simpa using H5.out, T5.out, X5.out, by omega⟩
        case measure => simp [intOf]; omega
    · obtain rfl : k = ns.length := by omega
      rw [List.take_length] at kb
      clear t0 x0 k0
      go_wp2_with fail
      refine (builder_string b0 b0 (threadB vs ns) _ kb (by omega)).mono ?_
      rintro e w2 ⟨rfl, _, h2, _⟩
      go_wp2
      go_ret
      exact ⟨rfl, kx.upon (by rw [← Hb.out]; exact h2)⟩
end Go.Proofs.YtfkjjhfoncckcaaGreatDoor
