/- Contracts of Go's library in the forms that the program uses: Cut at one byte, Trim at white bytes, printable, token. -/
import Derived.Test.YtdjcjkpodggdpaaGreatDoorBase
import Derived.Test.YtdjcjkpodggdpaaGreatDoorShelf
import Derived.Test.YtdjcjkpodggdpaaGreatDoorAText
import Derived.Shelf.Strings.SlTrimAscii
import Derived.Shelf.Strings.FuncGrows
import Derived.Lib.CutLaws
namespace Go.Proofs.YtdjcjkpodggdpaaGreatDoor
open Go.RowKit

/-- What stands ahead of the first c, what stands behind it, and whether there is one. -/
def cut1 (c : UInt8) (l : List UInt8) : List UInt8 × List UInt8 × Bool := (l.takeWhile (· != c), (l.dropWhile (· != c)).drop 1, l.contains c)

theorem cut1_nil (c : UInt8) : cut1 c [] = ([], [], false) := rfl
theorem cut1_hit (c : UInt8) (l : List UInt8) : cut1 c (c :: l) = ([], l, true) := by simp [cut1]
theorem cut1_miss {c b : UInt8} (l : List UInt8) (h : b ≠ c) : cut1 c (b :: l) = (b :: (cut1 c l).1, (cut1 c l).2.1, (cut1 c l).2.2) := by
  simp [cut1, h, Ne.symm h]
theorem indexByte_cut (l : List UInt8) (c : UInt8) :
    (Lib.indexByte l c = -1 ∧ cut1 c l = (l, [], false)) ∨ ∃ i : Nat, Lib.indexByte l c = i ∧ i < l.length ∧ cut1 c l = (l.take i, l.drop (i + 1), true) := by
  induction l with
  | nil => exact .inl ⟨rfl, rfl⟩
  | cons b l ih =>
    by_cases h : b = c
    · subst h
      exact .inr ⟨0, by simp [Lib.indexByte], by simp, by simp [cut1_hit]⟩
    · rw [cut1_miss _ h]
      rcases ih with ⟨h1, h2⟩ | ⟨i, h1, h2, h3⟩
      · exact .inl ⟨by simp [Lib.indexByte, h, h1], by rw [h2]⟩
      · refine .inr ⟨i + 1, ?_, by simp; omega, by rw [h3]; simp⟩
        have : ¬ ((i : Int) == -1) = true := by simp
        simp [Lib.indexByte, h, h1]
theorem extract_take (s : ByteArray) (i : Nat) : s.extract 0 i = ⟨(s.data.toList.take i).toArray⟩ := by rw [Lib.extract_eq]; simp
theorem extract_drop (s : ByteArray) (i : Nat) : s.extract i s.size = ⟨(s.data.toList.drop i).toArray⟩ := by
  rw [Lib.extract_eq, List.take_of_length_le]
  rw [List.length_drop, len_toList]; exact Nat.le_refl _

set_option maxHeartbeats 400000 in
theorem slcut1 (s : ByteArray) (c : UInt8) (w : World) (hs : s.size ≤ maxLen) :
    Calls Tryz.prog 50 #[.string s, .string ⟨#[c]⟩] w fun e w' =>
      e = .returned (.tuple #[vstr (cut1 c s.data.toList).1, vstr (cut1 c s.data.toList).2.1, .bool (cut1 c s.data.toList).2.2]) ∧ Ext w w' := by
  unfold maxLen at hs
  rcases indexByte_cut s.data.toList c with ⟨hix, hc⟩ | ⟨i, hix, hlt, hc⟩
  · rw [hc]
    have Hix := Lib.hid hix
    clear hix hc
    go_enter Tryz.func50, Tryz.ntmps50
    go_wp2_with (go_at_call 73; refine (Tryz.stringslite_Index_one s c _).mono ?_; rintro e w' ⟨rfl, rfl⟩; rw [Hix.out])
    go_ret3
    exact ⟨rfl, Ext.refl _⟩
  · rw [hc]
    have hlt' : i < s.size := by rw [← len_toList]; exact hlt
    have e1 := extract_take s i
    have e2 := extract_drop s (i + 1)
    rw [vstr, vstr, ← e1, ← e2]
    have Hix := Lib.hid hix
    clear hix hc e1 e2
    have c1 : (0 : Int) ≤ ↑i := by omega
    have c2 : (↑i : Int) ≤ ↑s.size := by omega
    have c3 : (0 : Int) ≤ ↑i + 1 := by omega
    have c4 : (↑i + 1 : Int) ≤ ↑s.size := by omega
    go_enter Tryz.func50, Tryz.ntmps50
    go_wp2_with (go_at_call 73; refine (Tryz.stringslite_Index_one s c _).mono ?_; rintro e w' ⟨rfl, rfl⟩; rw [Hix.out])
    go_region
    all_goals go_wp2
    all_goals go_ret3
    all_goals exact ⟨rfl, (Ext.refl _).drew⟩
theorem cut_one (s : ByteArray) (c : UInt8) (w : World) (hs : s.size ≤ maxLen) :
    Calls Tryz.prog 27 #[.string s, .string ⟨#[c]⟩] w fun e w' =>
      e = .returned (.tuple #[vstr (cut1 c s.data.toList).1, vstr (cut1 c s.data.toList).2.1, .bool (cut1 c s.data.toList).2.2]) ∧ Ext w w' := by
  go_enter Tryz.func27, Tryz.ntmps27
  go_wp2_with (go_at_call 50; refine (slcut1 s c _ hs).mono ?_; rintro e w' ⟨rfl, hb⟩)
  go_ret3
  exact ⟨rfl, hb⟩
#print axioms cut_one

/-- The white bytes of package text: a space, a tab, CR, LF. -/
def whiteB : List UInt8 := [32, 9, 13, 10]
def trimB (l : List UInt8) : List UInt8 := Lib.trimS l whiteB
theorem trim_any (s : ByteArray) (w : World) (hs : s.size ≤ maxLen) :
    Calls Tryz.prog 28 #[.string s] w fun e w' => e = .returned (vstr (trimB s.data.toList)) ∧ Ext w w' := by
  go_enter Tryz.func28, Tryz.ntmps28
  go_wp2_with (go_at_call 51; refine (Any.strings_Trim_laid Tryz.lays160 (by kernel_rfl) s ⟨#[32, 9, 13, 10]⟩ _ hs (by decide) (ascii_of_all (by decide))).mono ?_; rintro e w' ⟨rfl, hb⟩)
  go_ret
  exact ⟨rfl, hb⟩

/-- All bytes are from 33 to 126. -/
def printB (l : List UInt8) : Bool := l.all fun c => decide (33 ≤ c ∧ c ≤ 126)
def badRune (r : Nat) : Bool := decide (r < 33) || decide (126 < r)
theorem idx_printB (s : ByteArray) : ∀ (f pos : Nat), s.size - pos ≤ f → decide (0 ≤ Lib.idxFuncFrom badRune true s f pos) = !printB (s.data.toList.drop pos) := by
  intro f
  induction f with
  | zero =>
    intro pos h
    rw [List.drop_of_length_le (by rw [len_toList]; omega)]
    rfl
  | succ f ih =>
    intro pos h
    by_cases hp : pos < s.size
    · have hp' : pos < s.data.toList.length := by rw [len_toList]; exact hp
      have hx : s.data.toList[pos] = s[pos] := by rw [Array.getElem_toList]; rfl
      rw [List.drop_eq_getElem_cons hp', hx]
      unfold Lib.idxFuncFrom
      rw [if_pos hp]
      by_cases ha : (s[pos]'hp).toNat < 128
      · rw [decode_ascii s pos hp ha]
        by_cases hb : badRune (s[pos]'hp).toNat = true
        · rw [if_pos hb]
          have hn : decide (33 ≤ s[pos] ∧ s[pos] ≤ 126) = false := by
            simp only [badRune, Bool.or_eq_true, decide_eq_true_eq] at hb
            rw [decide_eq_false_iff_not]
            rintro ⟨h1, h2⟩
            rw [UInt8.le_iff_toNat_le] at h1 h2
            simp at h1 h2
            omega
          simp only [printB, List.all_cons, hn, Bool.false_and, Bool.not_false]
          simp
        · rw [if_neg hb, ih (pos + 1) (by omega)]
          have hy : decide (33 ≤ s[pos] ∧ s[pos] ≤ 126) = true := by
            simp only [badRune, Bool.or_eq_true, decide_eq_true_eq] at hb
            rw [decide_eq_true_eq]
            rw [UInt8.le_iff_toNat_le, UInt8.le_iff_toNat_le]
            simp
            omega
          simp only [printB, List.all_cons, hy, Bool.true_and]
      · have hd := decode_high s pos hp (by omega)
        have hb : badRune (Utf8.decode s pos).1 = true := by simp [badRune]; omega
        rw [if_pos hb]
        have hn : decide (33 ≤ s[pos] ∧ s[pos] ≤ 126) = false := by
          rw [decide_eq_false_iff_not]
          rintro ⟨h1, h2⟩
          rw [UInt8.le_iff_toNat_le] at h1 h2
          simp at h1 h2
          omega
        simp only [printB, List.all_cons, hn, Bool.false_and, Bool.not_false]
        simp
    · rw [Lib.idxFuncFrom_end _ _ _ _ _ hp, List.drop_of_length_le (by rw [len_toList]; omega)]
      rfl
theorem badRune_grows (w : World) : PredGrows Tryz.prog 83 #[] badRune w := by
  intro W x hx _
  show Calls Tryz.prog 83 #[.int .i32 (x : Int)] W _
  go_enter Tryz.func83, Tryz.ntmps83
  go_wp2
  all_goals go_ret
  all_goals refine ⟨ret_bool ?_, Below.refl _ _⟩
  · have e1 : decide ((x : Int) < 33) = decide (x < 33) := by rw [decide_eq_decide]; omega
    have e2 : decide (126 < (x : Int)) = decide (126 < x) := by rw [decide_eq_decide]; omega
    rw [e1, e2]; rfl
  · have h : x < 33 := by omega
    simp [badRune, h]
theorem printable_any (s : ByteArray) (w : World) :
    Calls Tryz.prog 52 #[.string s] w fun e w' => e = .returned (.bool (printB s.data.toList)) ∧ Ext w w' := by
  go_enter Tryz.func52, Tryz.ntmps52
  go_wp2_with (go_at_call 82; refine (Tryz.strings_ContainsFunc_grows 83 #[] (enters_of Tryz.func83 (by kernel_rfl) rfl) badRune s _ (badRune_grows _)).mono ?_; rintro e w' ⟨rfl, hb⟩)
  go_ret
  refine ⟨ret_bool ?_, hb⟩
  have := idx_printB s s.size 0 (by omega)
  rw [Lib.idxFunc, this]
  simp
end Go.Proofs.YtdjcjkpodggdpaaGreatDoor
