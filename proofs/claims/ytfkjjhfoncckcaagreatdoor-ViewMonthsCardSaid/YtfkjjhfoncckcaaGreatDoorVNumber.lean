/- text.Number and (*reader).number at a number as it is written. -/
import Derived.Test.YtfkjjhfoncckcaaGreatDoorVNext
import Derived.Shelf.Strings.SlTrimAscii
import Derived.Lib.AtoiErrMem
namespace Go.Proofs.YtfkjjhfoncckcaaGreatDoor
open Go.RowKit Go.Sort

def digitB : List UInt8 := [48, 49, 50, 51, 52, 53, 54, 55, 56, 57]
theorem trim_digits (s : List UInt8) (w : World) (hs : s.length ≤ 1073741824) :
    Calls Tryz.prog 107 #[vstr s, .string ⟨#[48, 49, 50, 51, 52, 53, 54, 55, 56, 57]⟩] w fun e w' => e = .returned (vstr (Lib.trimS s digitB)) ∧ Ext w w' :=
  Any.strings_Trim_laid Tryz.lays160 (by kernel_rfl) ⟨s.toArray⟩ ⟨#[48, 49, 50, 51, 52, 53, 54, 55, 56, 57]⟩ w (by rw [size_mk]; omega) (by decide) (ascii_of_all (by decide))
/-- A number as it is written. -/
structure IsNum (s : List UInt8) (n : Int) : Prop where
  len : s.length ≤ 15
  trim : Lib.trimS s digitB = []
  atoi : Lib.atoiAll s = .ok n
  itoa : Lib.itoa n = s
  lo : -9223372036854775808 ≤ n
  hi : n ≤ 9223372036854775807
set_option maxHeartbeats 1000000 in
set_option maxRecDepth 100000 in
theorem number_ok (s : List UInt8) (n : Int) (w : World) (h : IsNum s n) :
    Calls Tryz.prog 87 #[vstr s] w fun e w' => e = .returned (.tuple #[.int .i64 n, .bool true]) ∧ Ext w w' := by
  have h15 : ¬ (15 : Int) < s.length := by have := h.len; omega
  have hl := h.len
  have H := Lib.hid h
  clear h
  go_enter Tryz.func87, Tryz.ntmps87
  go_wp2_with fail
  refine (trim_digits s w (by omega)).mono ?_
  rintro e w1 ⟨rfl, x1⟩
  rw [H.out.trim]
  go_wp2_with fail
  refine (Tryz.strconv_Atoi_ok ⟨s.toArray⟩ (by rw [size_mk]; omega) n H.out.atoi w1).mono ?_
  rintro e w2 ⟨rfl, hw2⟩
  have x2 : Ext w1 w2 := by
    rcases hw2 with rfl | ⟨t, rfl⟩
    · exact Ext.refl _
    · exact Lib.bytesWorld_below _ _ _
  have X := Lib.hid (x1.trans x2)
  clear hw2 x1 x2
  go_wp2
  go_region
  all_goals go_wp2
  all_goals go_ret2
  all_goals exact ⟨rfl, X.out.trans ((Ext.refl _).drew)⟩
set_option maxHeartbeats 1000000 in
set_option maxRecDepth 100000 in
theorem r_number (p : Nat) (rest : List UInt8) (bad : Bool) (s : List UInt8) (n : Int) (w : World) (h : Rd w p rest bad) (hn : IsNum s n) (hT : Tab w) :
    Calls Tryz.prog 59 #[.pointer (some ⟨p, 0, none⟩), vstr s] w fun e w' => e = .returned (.int .i64 n) ∧ Rd w' p rest bad ∧ But p w w' := by
  have H := Lib.hid h
  have HN := Lib.hid hn
  have HT := Lib.hid hT
  clear h hn hT
  go_enter Tryz.func59, Tryz.ntmps59
  go_wp2_with fail
  refine (number_ok s n w HN.out).mono ?_
  rintro e w1 ⟨rfl, x1⟩
  have X1 := Lib.hid x1
  clear x1
  go_wp2_with fail
  refine (decimal_any n HN.out.lo HN.out.hi _ (HT.out.ext X1.out)).mono ?_
  rintro e w2 ⟨rfl, x2⟩
  rw [HN.out.itoa]
  have X2 := Lib.hid (X1.out.trans x2)
  clear x2
  go_wp2_with fail
  refine (decoded_i p rest bad true n w2 (H.out.ext X2.out)).mono ?_
  rintro e w3 ⟨rfl, h3, b3⟩
  have F := Lib.hid (And.intro h3 ((But.of_ext X2.out).trans b3))
  clear h3 b3
  go_wp2
  go_ret
  exact ⟨rfl, by simpa using F.out.1, F.out.2⟩
end Go.Proofs.YtfkjjhfoncckcaaGreatDoor
