/- view.Escape, view.Unescape. -/
import Derived.Test.YtfkjjhfoncckcaaGreatDoorVEsc
import Derived.Test.YtfkjjhfoncckcaaGreatDoorBldT
namespace Go.Proofs.YtfkjjhfoncckcaaGreatDoor
open Go.RowKit Go.Sort

theorem NamesAt.ext {b : Nat} {w w' : World} (x : Ext w w') (h : NamesAt b w) : NamesAt b w' := h.kept (row := none) ⟨x.os, x.tape, x.output, x.size, fun _ hk _ => x.heap hk⟩ (by simp)
theorem NamesAt.others {b bb : Nat} {w w' : World} (h : NamesAt b w) (x : Lib.OthersKept 5 (some bb) w w') (hne : b ≠ bb) : NamesAt b w' := by
  obtain ⟨es, clock, hb, r⟩ := h
  exact ⟨es, clock, x b _ hb (by simpa using hne) (fun _ _ e => by cases e), r⟩
theorem escB_len (c : UInt8) : (escB c).length ≤ 6 := by
  have h : all256.all (fun c => decide ((escB c).length ≤ 6)) = true := by decide +kernel
  exact of_decide_eq_true (List.all_eq_true.1 h c (mem_all256 c))
theorem escapeB_le (s : List UInt8) : (escapeB s).length ≤ 6 * s.length := by
  induction s with
  | nil => simp [escapeB]
  | cons c s ih =>
    have e : escapeB (c :: s) = escB c ++ escapeB s := by simp [escapeB]
    have := escB_len c
    rw [e, List.length_append, List.length_cons]
    omega
theorem escapeB_snoc (s : List UInt8) (k : Nat) (hk : k < s.length) : escapeB (s.take (k + 1)) = escapeB (s.take k) ++ escB s[k] := by
  rw [List.take_succ_eq_append_getElem hk, escapeB, List.flatMap_append, List.flatMap_singleton]; rfl

set_option maxHeartbeats 1000000 in
set_option maxRecDepth 100000 in
theorem escape_any (s : List UInt8) (w : World) (hs : s.length ≤ 1073741824) (hT : Tab w) :
    Calls Tryz.prog 26 #[vstr s] w fun e w' => e = .returned (vstr (escapeB s)) ∧ Ext w w' := by
  have htl := hT.lt
  go_enter Tryz.func26, Tryz.ntmps26
  go_wp2_with fail
  obtain ⟨b0, hb0⟩ : ∃ b0, b0 = w.heap.size := ⟨_, rfl⟩
  obtain ⟨W0, hW0⟩ : ∃ W0, W0 = w.alloc (.cells #[.pointer none, .slice none 0 0] 70) := ⟨_, rfl⟩
  have x0 : Ext w W0 := by rw [hW0]; exact (Ext.refl w).alloc _
  have k0 : Bld 70 b0 b0 [] W0 := bld_new (Nat.le_refl _) (by rw [hW0, hb0]; exact heap_new w _)
  have hz0 : W0.heap.size = b0 + 1 := by rw [hW0, hb0]; simp
  have hbw : b0 = w.heap.size := hb0
  rw [← hW0, ← hb0]
  have Hb := Lib.hid hb0
  clear hW0 hb0
  refine (names_any _).mono ?_
  rintro e w1 ⟨bm, rfl, hbm, hn, x1⟩
  have k1 := k0.ext x1
  have t1 := hT.ext (x0.trans x1)
  have x01 := x0.trans x1
  have hne : bm ≠ b0 := by omega
  clear k0 x0 x1 hT
  rw [← Hb.out] at hbw
  go_wp2
  go_loopw [9] (fun i wr => ∃ k : Nat, k ≤ s.length ∧ i = .int .i64 k ∧ Bld 70 b0 b0 (escapeB (s.take k)) wr ∧ NamesAt bm wr ∧ Tab wr ∧ Ext w wr ∧ b0 ≤ wr.heap.size) (fun i _ => s.length - (intOf i).toNat)
  case atStart => exact ⟨0, Nat.zero_le _, rfl, k1, hn, t1, x01, by have := x01.size; rw [Hb.out]; omega⟩
  case round =>
    obtain ⟨k, hk, rfl, kb, kn, kt, kx, ksz⟩ := hrel
    by_cases hlt : k < s.length
    · have hsn := escapeB_snoc s k hlt
      have hle := escapeB_le (s.take k)
      rw [List.length_take, Nat.min_eq_left hk] at hle
      have hg : ((⟨s.toArray⟩ : ByteArray)[k]'hlt) = s[k] := rfl
      obtain ⟨ck, hck⟩ : ∃ ck, ck = s[k] := ⟨_, rfl⟩
      rw [← hck] at hsn hg
      obtain ⟨E, hE⟩ : ∃ E, E = escapeB (s.take k) := ⟨_, rfl⟩
      rw [← hE] at hsn hle kb
      have hcl := escB_len ck
      have Hsn := Lib.hid hsn
      have HN := Lib.hid kn
      have HT := Lib.hid kt
      have HX := Lib.hid kx
      have HB := Lib.hid kb
      clear hsn hE hck kn kt kx kb hn t1 x01 k1 hbw
      go_wp2_with fail
      refine (escaped_any bm ck _ HN.out HT.out).mono ?_
      rintro e w2 ⟨rfl, x2⟩
      obtain ⟨ec, hec⟩ : ∃ ec, ec = escB ck := ⟨_, rfl⟩
      rw [← hec] at hcl ⊢
      have Hec := Lib.hid hec
      clear hec
      go_wp2_with fail
      refine (writeString_any lies_builder b0 b0 E ⟨ec.toArray⟩ _ (HB.out.ext x2) (by rw [size_mk]; omega) (by have := x2.size; omega)).mono ?_
      rintro e w3 ⟨rfl, h3, hb3, ho3⟩
      have n3 := (HN.out.ext x2).others ho3 hne
      have t3 : Tab w3 := by
        have := (HT.out.ext x2)
        exact this.below hb3 (by rw [Hb.out]; exact htl)
      have x3 : Ext w w3 := (HX.out.trans x2).upon (by rw [← Hb.out]; exact hb3)
      have z3 := hb3.size
      have z2 := x2.size
      have H3 := Lib.hid h3
      clear h3 hb3 ho3
      go_wp2
      go_roundw
      case rel => exact ⟨k + 1, by omega, by go_num, by rw [Hsn.out, ← Hec.out]; exact H3.out, n3, t3, x3, by omega⟩
      case measure => simp [intOf]; omega
    · obtain rfl : k = s.length := by omega
      rw [List.take_length] at kb
      clear hn t1 x01 k1
      go_wp2_with fail
      refine (builder_string b0 b0 (escapeB s) _ kb ksz).mono ?_
      rintro e w2 ⟨rfl, _, h2, _⟩
      go_wp2
      go_ret
      exact ⟨rfl, kx.upon (by rw [← Hb.out]; exact h2)⟩
end Go.Proofs.YtfkjjhfoncckcaaGreatDoor
