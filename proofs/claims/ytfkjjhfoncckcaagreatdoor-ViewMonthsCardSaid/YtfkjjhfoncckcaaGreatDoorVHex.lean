/- digest.Hex, digest.Unhex. -/
import Derived.Test.YtfkjjhfoncckcaaGreatDoorBldT
namespace Go.Proofs.YtfkjjhfoncckcaaGreatDoor
open Go.RowKit

/-- The digits of a byte. -/
def digB : List UInt8 := [48, 49, 50, 51, 52, 53, 54, 55, 56, 57, 97, 98, 99, 100, 101, 102]
def hex2 (c : UInt8) : List UInt8 := [digB.getD (c.toNat / 16) 0, digB.getD (c.toNat % 16) 0]
def hexB (s : List UInt8) : List UInt8 := s.flatMap hex2
theorem hexB_snoc (s : List UInt8) (k : Nat) (hk : k < s.length) : hexB (s.take (k + 1)) = hexB (s.take k) ++ [digB.getD (s[k].toNat / 16) 0] ++ [digB.getD (s[k].toNat % 16) 0] := by
  rw [List.take_succ_eq_append_getElem hk, hexB, List.flatMap_append, List.flatMap_singleton, List.append_assoc]; rfl
theorem hexB_len (s : List UInt8) : (hexB s).length = 2 * s.length := by
  induction s with
  | nil => rfl
  | cons c s ih =>
    have e : hexB (c :: s) = hex2 c ++ hexB s := by simp [hexB]
    rw [e, List.length_append, ih]
    simp [hex2]
    omega
theorem and15 : ∀ n : Fin 256, bits .and .u8 (n.val : Int) 15 = ((n.val % 16 : Nat) : Int) := by decide +kernel

set_option maxHeartbeats 1000000 in
set_option maxRecDepth 100000 in
theorem hex_any (s : List UInt8) (w : World) (hs : s.length ≤ 1073741824) :
    Calls Tryz.prog 24 #[vstr s] w fun e w' => e = .returned (vstr (hexB s)) ∧ Ext w w' := by
  go_enter Tryz.func24, Tryz.ntmps24
  go_wp2
  obtain ⟨b0, hb0⟩ : ∃ b0, b0 = w.heap.size := ⟨_, rfl⟩
  obtain ⟨W0, hW0⟩ : ∃ W0, W0 = w.alloc (.cells #[.pointer none, .slice none 0 0] 70) := ⟨_, rfl⟩
  have x0 : Ext w W0 := by rw [hW0]; exact (Ext.refl w).alloc _
  have k0 : Bld 70 b0 b0 [] W0 := bld_new (Nat.le_refl _) (by rw [hW0, hb0]; exact heap_new w _)
  have hz0 : b0 < W0.heap.size := by rw [hW0, hb0]; simp
  have hbw : w.heap.size ≤ b0 := Nat.le_of_eq hb0.symm
  rw [← hW0, ← hb0]
  clear hW0 hb0
  go_loopw [7] (fun i wr => ∃ k : Nat, k ≤ s.length ∧ i = .int .i64 k ∧ Bld 70 b0 b0 (hexB (s.take k)) wr ∧ Ext w wr ∧ b0 < wr.heap.size) (fun i _ => s.length - (intOf i).toNat)
  case atStart => exact ⟨0, Nat.zero_le _, rfl, k0, x0, hz0⟩
  case round =>
    obtain ⟨k, hk, rfl, kb, kx, ksz⟩ := hrel
    clear k0 x0 hz0
    by_cases hlt : k < s.length
    · have hsn := hexB_snoc s k hlt
      have hle := hexB_len (s.take k)
      rw [List.length_take, Nat.min_eq_left hk] at hle
      have hg : ((⟨s.toArray⟩ : ByteArray)[k]'hlt) = s[k] := rfl
      obtain ⟨ck, hck⟩ : ∃ ck, ck = s[k] := ⟨_, rfl⟩
      rw [← hck] at hsn hg
      obtain ⟨E, hE⟩ : ∃ E, E = hexB (s.take k) := ⟨_, rfl⟩
      rw [← hE] at hsn hle kb
      have Hsn := Lib.hid hsn
      have HB := Lib.hid kb
      have HX := Lib.hid kx
      have hct := ck.toNat_lt
      obtain ⟨hi, hhi⟩ : ∃ hi, hi = ck.toNat / 16 := ⟨_, rfl⟩
      obtain ⟨lo, hlo⟩ : ∃ lo, lo = ck.toNat % 16 := ⟨_, rfl⟩
      have hdiv : (ck.toNat : Int) / 16 = (hi : Int) := by omega
      have hmod : (ck.toNat : Int) % 16 = (lo : Int) := by omega
      have hand : bits .and .u8 (ck.toNat : Int) 15 = (lo : Int) := (and15 ⟨ck.toNat, hct⟩).trans (by rw [hlo])
      have hi16 : hi < 16 := by omega
      have lo16 : lo < 16 := by omega
      rw [← hhi, ← hlo] at Hsn
      have gi : ((⟨#[48, 49, 50, 51, 52, 53, 54, 55, 56, 57, 97, 98, 99, 100, 101, 102]⟩ : ByteArray)[hi]'hi16) = digB.getD hi 0 := by
        rw [List.getD, List.getElem?_eq_getElem (show hi < digB.length from hi16)]; rfl
      have gl : ((⟨#[48, 49, 50, 51, 52, 53, 54, 55, 56, 57, 97, 98, 99, 100, 101, 102]⟩ : ByteArray)[lo]'lo16) = digB.getD lo 0 := by
        rw [List.getD, List.getElem?_eq_getElem (show lo < digB.length from lo16)]; rfl
      obtain ⟨ci, hci⟩ : ∃ ci, ci = digB.getD hi 0 := ⟨_, rfl⟩
      obtain ⟨cl, hcl⟩ : ∃ cl, cl = digB.getD lo 0 := ⟨_, rfl⟩
      rw [← hci] at gi Hsn
      rw [← hcl] at gl Hsn
      clear hsn hE hck kb kx hhi hlo hci hcl
      go_wp2_with fail
      refine (writeByte_any lies_builder b0 b0 E ci _ HB.out (by omega) (by omega)).mono ?_
      rintro e w2 ⟨rfl, h2, hb2, _⟩
      have z2 := hb2.size
      have H2 := Lib.hid h2
      clear h2
      go_wp2_with fail
      refine (writeByte_any lies_builder b0 b0 (E ++ [ci]) cl _ H2.out (by simp; omega) (by omega)).mono ?_
      rintro e w3 ⟨rfl, h3, hb3, _⟩
      have z3 := hb3.size
      have H3 := Lib.hid h3
      have x3 : Ext w w3 := (HX.out.upon (hb2.mono hbw)).upon (hb3.mono hbw)
      clear h3 hb2 hb3
      go_wp2
      go_roundw
      case rel => exact ⟨k + 1, by omega, by go_num, by rw [Hsn.out]; exact H3.out, x3, by omega⟩
      case measure => simp [intOf]; omega
    · obtain rfl : k = s.length := by omega
      rw [List.take_length] at kb
      go_wp2_with fail
      refine (builder_string b0 b0 (hexB s) _ kb (by omega)).mono ?_
      rintro e w2 ⟨rfl, _, h2, _⟩
      go_wp2
      go_ret
      exact ⟨rfl, kx.upon (h2.mono hbw)⟩
end Go.Proofs.YtfkjjhfoncckcaaGreatDoor
