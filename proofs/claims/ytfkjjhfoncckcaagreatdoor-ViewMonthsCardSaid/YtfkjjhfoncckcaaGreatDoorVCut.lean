/- strings.Cut at one byte (turned from XALib). -/
import Derived.Test.YtfkjjhfoncckcaaGreatDoorVMessage
import Derived.Lib.CutLaws
namespace Go.Proofs.YtfkjjhfoncckcaaGreatDoor
open Go.RowKit Go.Sort

/-- What stands ahead of the first c, what stands behind it, and whether there is one. -/
def cut1 (c : UInt8) (l : List UInt8) : List UInt8 × List UInt8 × Bool := (l.takeWhile (· != c), (l.dropWhile (· != c)).drop 1, l.contains c)

theorem cut1_nil (c : UInt8) : cut1 c [] = ([], [], false) := rfl
theorem cut1_hit (c : UInt8) (l : List UInt8) : cut1 c (c :: l) = ([], l, true) := by simp [cut1]
theorem cut1_miss {c b : UInt8} (l : List UInt8) (h : b ≠ c) : cut1 c (b :: l) = (b :: (cut1 c l).1, (cut1 c l).2.1, (cut1 c l).2.2) := by
  simp [cut1, h, Ne.symm h]
theorem indexByte_cut (l : List UInt8) (c : UInt8) :
    (Lib.indexByte l c = -1 ∧ cut1 c l = (l, [], false)) ∨ ∃ i : Nat, Lib.indexByte l c = i ∧ i < l.length ∧ cut1 c l = (l.take i, l.drop (i + 1), true) := by
  induction l with
  | nil => exact .inl ⟨rfl, rfl⟩
  | cons b l ih =>
    by_cases h : b = c
    · subst h
      exact .inr ⟨0, by simp [Lib.indexByte], by simp, by simp [cut1_hit]⟩
    · rw [cut1_miss _ h]
      rcases ih with ⟨h1, h2⟩ | ⟨i, h1, h2, h3⟩
      · exact .inl ⟨by simp [Lib.indexByte, h, h1], by rw [h2]⟩
      · refine .inr ⟨i + 1, ?_, by simp; omega, by rw [h3]; simp⟩
        have : ¬ ((i : Int) == -1) = true := by simp
        simp [Lib.indexByte, h, h1]
theorem extract_take (s : ByteArray) (i : Nat) : s.extract 0 i = ⟨(s.data.toList.take i).toArray⟩ := by rw [Lib.extract_eq]; simp
theorem extract_drop (s : ByteArray) (i : Nat) : s.extract i s.size = ⟨(s.data.toList.drop i).toArray⟩ := by
  rw [Lib.extract_eq, List.take_of_length_le]
  rw [List.length_drop, len_toList]; exact Nat.le_refl _

set_option maxHeartbeats 400000 in
theorem slcut1 (s : ByteArray) (c : UInt8) (w : World) (hs : s.size ≤ 1073741824) :
    Calls Tryz.prog 80 #[.string s, .string ⟨#[c]⟩] w fun e w' =>
      e = .returned (.tuple #[vstr (cut1 c s.data.toList).1, vstr (cut1 c s.data.toList).2.1, .bool (cut1 c s.data.toList).2.2]) ∧ Ext w w' := by
  rcases indexByte_cut s.data.toList c with ⟨hix, hc⟩ | ⟨i, hix, hlt, hc⟩
  · rw [hc]
    have Hix := Lib.hid hix
    clear hix hc
    go_enter Tryz.func80, Tryz.ntmps80
    go_wp2_with (go_at_call 102; refine (Tryz.stringslite_Index_one s c _).mono ?_; rintro e w' ⟨rfl, rfl⟩; rw [Hix.out])
    go_ret3
    exact ⟨rfl, Ext.refl _⟩
  · rw [hc]
    have hlt' : i < s.size := by rw [← len_toList]; exact hlt
    have e1 := extract_take s i
    have e2 := extract_drop s (i + 1)
    rw [vstr, vstr, ← e1, ← e2]
    have Hix := Lib.hid hix
    clear hix hc e1 e2
    have c1 : (0 : Int) ≤ ↑i := by omega
    have c2 : (↑i : Int) ≤ ↑s.size := by omega
    have c3 : (0 : Int) ≤ ↑i + 1 := by omega
    have c4 : (↑i + 1 : Int) ≤ ↑s.size := by omega
    go_enter Tryz.func80, Tryz.ntmps80
    go_wp2_with (go_at_call 102; refine (Tryz.stringslite_Index_one s c _).mono ?_; rintro e w' ⟨rfl, rfl⟩; rw [Hix.out])
    go_region
    all_goals go_wp2
    all_goals go_ret3
    all_goals exact ⟨rfl, (Ext.refl _).drew⟩
theorem cut_one (s : ByteArray) (c : UInt8) (w : World) (hs : s.size ≤ 1073741824) :
    Calls Tryz.prog 47 #[.string s, .string ⟨#[c]⟩] w fun e w' =>
      e = .returned (.tuple #[vstr (cut1 c s.data.toList).1, vstr (cut1 c s.data.toList).2.1, .bool (cut1 c s.data.toList).2.2]) ∧ Ext w w' := by
  go_enter Tryz.func47, Tryz.ntmps47
  go_wp2_with (go_at_call 80; refine (slcut1 s c _ hs).mono ?_; rintro e w' ⟨rfl, hb⟩)
  go_ret3
  exact ⟨rfl, hb⟩
theorem cut_l (l : List UInt8) (c : UInt8) (w : World) (h : l.length ≤ 1073741824) :
    Calls Tryz.prog 47 #[vstr l, .string ⟨#[c]⟩] w fun e w' => e = .returned (.tuple #[vstr (cut1 c l).1, vstr (cut1 c l).2.1, .bool (cut1 c l).2.2]) ∧ Ext w w' := cut_one ⟨l.toArray⟩ c w h
theorem cut1_len (c : UInt8) (l : List UInt8) : (cut1 c l).1.length ≤ l.length ∧ (cut1 c l).2.1.length ≤ l.length := by
  refine ⟨(List.takeWhile_sublist _).length_le, ?_⟩
  show ((l.dropWhile _).drop 1).length ≤ _
  have := (List.dropWhile_sublist (l := l) (· != c)).length_le
  rw [List.length_drop]
  omega
end Go.Proofs.YtfkjjhfoncckcaaGreatDoor
