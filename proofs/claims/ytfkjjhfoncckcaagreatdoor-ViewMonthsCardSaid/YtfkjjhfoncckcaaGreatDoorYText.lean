/- text.Unlines and piece.Text. -/
import Derived.Test.YtfkjjhfoncckcaaGreatDoorYLight
import Derived.OwnWalk
namespace Go.Proofs.YtfkjjhfoncckcaaGreatDoor
open Go.RowKit Go.Sort

def unlinesB (l : List (List UInt8)) : List UInt8 := (l.map fun s => s ++ [10]).flatten
theorem unlinesB_snoc (l : List (List UInt8)) (k : Nat) (h : k < l.length) : unlinesB (l.take (k + 1)) = unlinesB (l.take k) ++ l[k] ++ [10] := by
  rw [List.take_succ_eq_append_getElem h, unlinesB, List.map_append, List.flatten_append, ← unlinesB]
  simp
theorem unlinesB_le (l : List (List UInt8)) (k : Nat) : (unlinesB (l.take k)).length ≤ (unlinesB l).length := by
  have h : unlinesB l = unlinesB (l.take k) ++ unlinesB (l.drop k) := by rw [unlinesB, unlinesB, unlinesB, ← List.flatten_append, ← List.map_append, List.take_append_drop]
  rw [h, List.length_append]
  omega
set_option maxHeartbeats 1000000 in
set_option maxRecDepth 100000 in
theorem unlines_any (l : List (List UInt8)) (v : Value) (w : World) (h : IdsAt w l v) (hl : l.length ≤ 1073741824) (ht : (unlinesB l).length ≤ 1073741824) :
    Calls Tryz.prog 73 #[v] w fun e w' => e = .returned (vstr (unlinesB l)) ∧ Ext w w' := by
  obtain ⟨a, c, rfl, hc, hr⟩ := h
  obtain ⟨W0, hW0⟩ : ∃ W0, W0 = w.alloc (.cells #[.pointer none, .slice none 0 0] 70) := ⟨_, rfl⟩
  have x0 : Ext w W0 := by rw [hW0]; exact (Ext.refl w).alloc _
  obtain ⟨b0, hb0⟩ : ∃ b0, b0 = w.heap.size := ⟨_, rfl⟩
  have k0 : Bld 70 b0 b0 [] W0 := bld_new (Nat.le_refl _) (by rw [hW0, hb0]; exact heap_new w _)
  have hz0 : b0 < W0.heap.size := by rw [hW0, hb0]; simp
  have Hr := Lib.hid hr
  have HW := Lib.hid hW0
  have Hb := Lib.hid hb0
  have K0 := Lib.hid (And.intro k0 (And.intro x0 hz0))
  clear hr hW0 hb0 k0 x0 hz0
  go_enter Tryz.func73, Tryz.ntmps73
  go_wp2_with fail
  rw [show w.alloc (.cells #[.pointer none, .slice none 0 0] 70) = W0 from HW.out.symm, ← Hb.out]
  go_loopw [8] (fun i wr => ∃ k : Nat, k ≤ l.length ∧ i = .int .i64 k ∧ Bld 70 b0 b0 (unlinesB (l.take k)) wr ∧ Ext w wr ∧ b0 < wr.heap.size) (fun i _ => l.length - (intOf i).toNat)
  case atStart => exact ⟨0, Nat.zero_le _, rfl, K0.out.1, K0.out.2.1, K0.out.2.2⟩
  case round =>
    obtain ⟨k, hk, rfl, kb, kx, ksz⟩ := hrel
    have HB := Lib.hid kb
    have HX := Lib.hid kx
    clear kb kx
    by_cases hlt : k < l.length
    · rcases Hr.out with h0 | ⟨b, o, ha, hrow⟩
      · omega
      subst ha
      have hcell := HX.out.holds (hrow k hlt hlt)
      rw [Nat.mul_one] at hcell
      have hsn := unlinesB_snoc l k hlt
      have hle := Nat.le_trans (unlinesB_le l (k + 1)) ht
      obtain ⟨E, hE⟩ : ∃ E, E = unlinesB (l.take k) := ⟨_, rfl⟩
      obtain ⟨s, hs⟩ : ∃ s, s = l[k] := ⟨_, rfl⟩
      rw [← hE, ← hs] at hsn
      rw [← hE] at HB
      rw [← hs] at hcell
      rw [hsn] at hle
      simp only [List.length_append, List.length_cons, List.length_nil] at hle
      have Hsn := Lib.hid hsn
      clear hsn hE hs hrow
      go_wp2_with fail
      refine (writeString_any lies_builder b0 b0 E ⟨s.toArray⟩ _ HB.out (by rw [size_mk]; omega) (Nat.le_of_lt ksz)).mono ?_
      rintro e w3 ⟨rfl, h3, hb3, _⟩
      have z3 := hb3.size
      have H3 := Lib.hid h3
      have X3 := Lib.hid (HX.out.upon (by rw [← Hb.out]; exact hb3))
      clear h3 hb3 hcell
      go_wp2_with fail
      refine (writeByte_any lies_builder b0 b0 (E ++ s) 10 _ H3.out (by rw [List.length_append]; omega) (by omega)).mono ?_
      rintro e w4 ⟨rfl, h4, hb4, _⟩
      have z4 := hb4.size
      have H4 := Lib.hid h4
      have X4 := Lib.hid (X3.out.upon (by rw [← Hb.out]; exact hb4))
      clear h4 hb4
      go_wp2
      go_roundw
      case rel => exact ⟨k + 1, by omega, by go_num, by rw [Hsn.out]; exact H4.out, X4.out, by omega⟩
      case measure => simp [intOf]; omega
    · obtain rfl : k = l.length := by omega
      rw [List.take_length] at HB
      go_wp2_with fail
      refine (builder_string b0 b0 _ _ HB.out (Nat.le_of_lt ksz)).mono ?_
      rintro e w9 ⟨rfl, _, h9, _⟩
      have x9 : Ext w w9 := HX.out.upon (by rw [← Hb.out]; exact h9)
      go_wp2
      go_ret
      exact ⟨rfl, x9⟩

/-- What is shown of a line: its text, or that it is redacted. -/
def shownTx (s : ShownT) : List UInt8 := if s.hid then [91, 114, 101, 100, 97, 99, 116, 101, 100, 93] else s.text
def textB (l : List ShownT) : List UInt8 := unlinesB (l.map shownTx)
theorem Tryz.info9 : (Tryz.prog.info? 9).map (fun i => (i.zero, i.size, i.bytes)) = some (some (.string ByteArray.empty), 1, 16) := by kernel_rfl
/-- A row of n strings in a block of its own, of which the first k are laid. -/
def RowK (W : World) (g n k : Nat) (l : List (List UInt8)) : Prop := ∃ cs : Array Value, W.heap[g]? = some (.cells cs 9 (0, 0)) ∧ cs.size = n ∧ ∀ i (hi : i < l.length), i < k → cs[i]? = some (vstr l[i])
theorem RowK.lt {W : World} {g n k : Nat} {l : List (List UInt8)} (h : RowK W g n k l) : g < W.heap.size := by
  obtain ⟨cs, h1, _⟩ := h
  exact (Array.getElem?_eq_some_iff.1 h1).1
theorem RowK.ext {W W' : World} {g n k : Nat} {l : List (List UInt8)} (h : RowK W g n k l) (x : Ext W W') : RowK W' g n k l := by
  obtain ⟨cs, h1, h2, h3⟩ := h
  exact ⟨cs, (x.heap (Array.getElem?_eq_some_iff.1 h1).1).trans h1, h2, h3⟩
theorem RowK.put {W : World} {g n k : Nat} {l : List (List UInt8)} (h : RowK W g n k l) (u : List UInt8) (hk : k < l.length) (hn : k < n) : RowK (W.setCell ⟨g, k, none⟩ (vstr u)) g n k l ∧ (u = l[k] → RowK (W.setCell ⟨g, k, none⟩ (vstr u)) g n (k + 1) l) := by
  obtain ⟨cs, h1, h2, h3⟩ := h
  have e := setCell_cs W g k (vstr u) h1
  refine ⟨⟨_, e, by rw [Array.size_setIfInBounds]; exact h2, fun i hi hik => ?_⟩, fun hu => ⟨_, e, by rw [Array.size_setIfInBounds]; exact h2, fun i hi hik => ?_⟩⟩
  · rw [Array.getElem?_setIfInBounds_ne (by omega)]
    exact h3 i hi hik
  · by_cases hik2 : i = k
    · subst hik2
      rw [Array.getElem?_setIfInBounds_self_of_lt (by omega), hu]
    · rw [Array.getElem?_setIfInBounds_ne (by omega)]
      exact h3 i hi (by omega)
theorem RowK.cell {W : World} {g n k : Nat} {l : List (List UInt8)} (h : RowK W g n k l) (j : Nat) (hj : j < n) : ∃ u, W.cell? ⟨g, j, none⟩ = some u := by
  obtain ⟨cs, h1, h2, h3⟩ := h
  rw [Lib.cell_of_heap h1]
  exact ⟨cs[j]'(by omega), by simp [h2, hj]⟩
theorem RowK.frozen {W : World} {g n k : Nat} {l : List (List UInt8)} (h : RowK W g n k l) (o : Nat) : W.frozen? ⟨g, o, none⟩ = false := by
  obtain ⟨cs, h1, _⟩ := h
  simp [World.frozen?, h1]
theorem RowK.ids {W : World} {g : Nat} {l : List (List UInt8)} (h : RowK W g l.length l.length l) : IdsAt W l (.slice (some ⟨g, 0, none⟩) l.length l.length) := by
  obtain ⟨cs, h1, h2, h3⟩ := h
  refine ⟨_, _, rfl, Nat.le_refl _, .inr ⟨g, 0, rfl, fun i hi hl => ?_⟩⟩
  rw [Lib.cell_of_heap h1, Nat.zero_add, Nat.mul_one]
  exact h3 i hl hl
theorem RowK.new {W : World} {n : Nat} {zs : List Value} {base : Nat} (l : List (List UInt8)) {g : Nat} (h : W.ownsRow base 9 1 (.slice (some ⟨g, 0, none⟩) n n) n zs) : RowK W g n 0 l := by
  rcases h.2 with ⟨h0, _⟩ | ⟨g', cap, cur, hv, _, hh, _, _, hs, _⟩
  · cases h0
  · cases hv
    exact ⟨cur, hh, by omega, fun i _ hi => absurd hi (Nat.not_lt_zero _)⟩
set_option maxHeartbeats 1000000 in
set_option maxRecDepth 100000 in
theorem text_any (l : List ShownT) (v : Value) (w : World) (h : ShownsAt w l v) (hl : l.length ≤ 1073741824) (ht : (textB l).length ≤ 1073741824) :
    Calls Tryz.prog 40 #[v] w fun e w' => e = .returned (vstr (textB l)) ∧ Ext w w' := by
  obtain ⟨a, c, rfl, hc, hr⟩ := h
  have Hr := Lib.hid hr
  clear hr
  obtain ⟨i0, hi, hz0, hz1, hz2⟩ := info_parts Tryz.info9
  go_enter Tryz.func40, Tryz.ntmps40
  go_wp2_with (at_make; refine wpList_make_full _ rfl _ _ 29 rfl w.heap.size 9 i0 (.string ByteArray.empty) 1 Tryz.underlying29 hi hz0 hz1 .i64 .i64 _ _ l.length rfl rfl rfl rfl (by rw [hz2]; omega) (by unfold maxLen; omega) (Nat.le_refl _) ?_; intro w0 hown0 hgrow0)
  have xw : Ext w w0 := ⟨hgrow0.os, hgrow0.tape, hgrow0.output, hgrow0.size, fun k hk => hgrow0.block k hk (by simp)⟩
  obtain ⟨L, hL⟩ : ∃ L, L = l.map shownTx := ⟨_, rfl⟩
  have hLl : L.length = l.length := by rw [hL, List.length_map]
  have r0 : RowK w0 w.heap.size l.length 0 L := RowK.new L hown0
  have hg : w.heap.size ≤ w.heap.size := Nat.le_refl _
  obtain ⟨g, hgg⟩ : ∃ g, g = w.heap.size := ⟨_, rfl⟩
  have hgw : w.heap.size ≤ g := Nat.le_of_eq hgg.symm
  rw [← hgg] at r0 ⊢
  have HL := Lib.hid hL
  have R0 := Lib.hid r0
  have XW := Lib.hid xw
  have HT : Hid ((unlinesB L).length ≤ 1073741824) := Lib.hid (by rw [hL]; exact ht)
  clear hL r0 xw hgg hown0 hgrow0 hi hz0 hz1 hz2 ht hg
  go_loopw [11] (fun i wr => ∃ k : Nat, k ≤ l.length ∧ i = .int .i64 k ∧ RowK wr g l.length k L ∧ Ext w wr) (fun i _ => l.length - (intOf i).toNat)
  case atStart => exact ⟨0, Nat.zero_le _, rfl, R0.out, XW.out⟩
  case round =>
    obtain ⟨k, hk, rfl, kr, kx⟩ := hrel
    have HR := Lib.hid kr
    have HX := Lib.hid kx
    clear kr kx
    by_cases hlt : k < l.length
    · rcases Hr.out with h0 | ⟨b, o, ha, hrow⟩
      · omega
      subst ha
      obtain ⟨s0, s1, s2, s3⟩ := (hrow k hlt hlt).ext HX.out
      have hkL : k < L.length := by omega
      have htx : L[k] = shownTx l[k] := by
        have e : L[k]? = (l.map shownTx)[k]? := by rw [← HL.out]
        rw [List.getElem?_map, List.getElem?_eq_getElem hlt, List.getElem?_eq_getElem hkL] at e
        exact Option.some.inj e
      obtain ⟨x, hx⟩ : ∃ x, x = l[k] := ⟨_, rfl⟩
      rw [← hx] at s0 s1 s2 s3 htx
      have Htx := Lib.hid htx
      have xa : Ext wr (wr.alloc (.cells #[.bool x.hid, vstr x.salt, vstr x.text, vstr x.hash] 45)) := (Ext.refl wr).alloc _
      have ra := HR.out.ext xa
      obtain ⟨u0, cu⟩ := ra.cell k hlt
      have fu := ra.frozen k
      obtain ⟨p1, p2⟩ := ra.put x.text hkL hlt
      have y1 : Ext w ((wr.alloc (.cells #[.bool x.hid, vstr x.salt, vstr x.text, vstr x.hash] 45)).setCell ⟨g, k, none⟩ (vstr x.text)) := (HX.out.trans xa).setCell (p := ⟨g, k, none⟩) hgw _
      have hgb : g ≠ wr.heap.size := by have := HR.out.lt; omega
      have hbg : wr.heap.size ≠ g := hgb.symm
      clear hrow hx htx xa ra
      cases hh : x.hid with
      | false =>
        have q : RowK ((wr.alloc (.cells #[.bool false, vstr x.salt, vstr x.text, vstr x.hash] 45)).setCell ⟨g, k, none⟩ (vstr x.text)) g l.length (k + 1) L := by rw [← hh]; exact p2 (by rw [Htx.out, shownTx, hh]; rfl)
        rw [hh] at s0 cu fu y1
        have Q := Lib.hid q
        have Y := Lib.hid y1
        clear q y1 p1 p2 hh
        have c0 : ((wr.alloc (.cells #[.bool false, vstr x.salt, vstr x.text, vstr x.hash] 45)).setCell ⟨g, k, none⟩ (vstr x.text)).cell? ⟨wr.heap.size, 0, none⟩ = some (.bool false) := by
          rw [World.cell?_of_block (w := wr.alloc (.cells #[.bool false, vstr x.salt, vstr x.text, vstr x.hash] 45)) (a := ⟨wr.heap.size, 0, none⟩) (Below.heap_setCell _ ⟨g, k, none⟩ _ _ hbg), World.cell?_alloc_mark]; rfl
        go_wp2
        go_roundw
        case rel => exact ⟨k + 1, by omega, by go_num, Q.out, Y.out⟩
        case measure => simp [intOf]; omega
      | true =>
        obtain ⟨u1, cu1⟩ := p1.cell k hlt
        have fu1 := p1.frozen k
        have q := (p1.put [91, 114, 101, 100, 97, 99, 116, 101, 100, 93] hkL hlt).2 (by rw [Htx.out, shownTx, hh]; rfl)
        have y2 := y1.setCell (p := ⟨g, k, none⟩) hgw (vstr [91, 114, 101, 100, 97, 99, 116, 101, 100, 93])
        rw [hh] at s0 cu fu cu1 fu1 q y2
        have Q := Lib.hid q
        have Y := Lib.hid y2
        clear q y1 y2 p1 p2 hh
        have c0 : ((wr.alloc (.cells #[.bool true, vstr x.salt, vstr x.text, vstr x.hash] 45)).setCell ⟨g, k, none⟩ (vstr x.text)).cell? ⟨wr.heap.size, 0, none⟩ = some (.bool true) := by
          rw [World.cell?_of_block (w := wr.alloc (.cells #[.bool true, vstr x.salt, vstr x.text, vstr x.hash] 45)) (a := ⟨wr.heap.size, 0, none⟩) (Below.heap_setCell _ ⟨g, k, none⟩ _ _ hbg), World.cell?_alloc_mark]; rfl
        go_wp2
        go_roundw
        case rel => exact ⟨k + 1, by omega, by go_num, Q.out, Y.out⟩
        case measure => simp [intOf]; omega
    · obtain rfl : k = l.length := by omega
      have hids : IdsAt wr L (.slice (some ⟨g, 0, none⟩) L.length L.length) := RowK.ids (by rw [hLl]; exact HR.out)
      rw [hLl] at hids
      go_wp2_with fail
      refine (unlines_any L _ wr hids (by omega) HT.out).mono ?_
      rintro e w9 ⟨rfl, x9⟩
      have X9 := Lib.hid (HX.out.trans x9)
      clear x9 hids
      go_wp2
      go_ret
      exact ⟨congrArg (fun z => Ending.returned (vstr (unlinesB z))) HL.out, X9.out⟩
end Go.Proofs.YtfkjjhfoncckcaaGreatDoor
