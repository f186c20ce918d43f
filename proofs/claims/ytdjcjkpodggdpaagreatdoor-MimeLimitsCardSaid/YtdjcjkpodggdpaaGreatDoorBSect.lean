/- Contracts of mime.delimiter and of the iterator mime.sections. -/
import Derived.Test.YtdjcjkpodggdpaaGreatDoorBMimeA
import Derived.Test.YtdjcjkpodggdpaaGreatDoorALines
namespace Go.Proofs.YtdjcjkpodggdpaaGreatDoor
open Go.RowKit
attribute [local go_sem] Oper.semAt_some

/-- Only spaces, tabs and CRs. -/
def blankB (l : List UInt8) : Bool := (Lib.trimS l [32, 9, 13]).isEmpty
theorem blank_l (l : List UInt8) (w : World) (h : l.length ≤ 1073741824) :
    Calls Tryz.prog 93 #[vstr l] w fun e w' => e = .returned (.bool (blankB l)) ∧ Ext w w' := by
  go_enter Tryz.func93, Tryz.ntmps93
  go_wp2_with (go_at_call 51; refine (Any.strings_Trim_laid Tryz.lays160 (by kernel_rfl) ⟨l.toArray⟩ ⟨#[32, 9, 13]⟩ _ (by rw [size_mk]; omega) (by decide) (ascii_of_all (by decide))).mono ?_; rintro e w1 ⟨rfl, x1⟩)
  go_ret
  refine ⟨ret_bool ?_, x1⟩
  simp [blankB]
/-- Whether a line is a delimiter, and whether it is a closing one. -/
def delimB (line b : List UInt8) : Bool × Bool :=
  if Lib.hasPrefix line ([45, 45] ++ b) then
    let rest := line.drop ([45, 45] ++ b).length
    if blankB rest then (true, false) else (Lib.hasPrefix rest [45, 45] && blankB (Lib.trimPrefix rest [45, 45]), true)
  else (false, false)
theorem trimPrefix_len (l p : List UInt8) : (Lib.trimPrefix l p).length ≤ l.length := by unfold Lib.trimPrefix; split <;> simp
theorem mk_append2 (a b : List UInt8) : (⟨a.toArray⟩ : ByteArray) ++ ⟨b.toArray⟩ = ⟨(a ++ b).toArray⟩ := by rw [ByteArray.mk_append_mk]

theorem delim_l (line b : List UInt8) (w : World) (h : line.length ≤ 1073741824) (hb : b.length ≤ 1073741824) :
    Calls Tryz.prog 71 #[vstr line, vstr b] w fun e w' => e = .returned (.tuple #[.bool (delimB line b).1, .bool (delimB line b).2]) ∧ Ext w w' := by
  have hs : 1 + 1 + b.length ≤ 9223372036854775807 := by omega
  have hcut : ∀ (l p : List UInt8) (W : World), Calls Tryz.prog 92 #[vstr l, vstr p] W fun e w' => e = .returned (.tuple #[vstr (Lib.trimPrefix l p), .bool (Lib.hasPrefix l p)]) ∧ Ext W w' := fun l p W =>
    (Tryz.strings_CutPrefix ⟨l.toArray⟩ ⟨p.toArray⟩ W).mono fun _ _ ⟨he, hw⟩ => ⟨he, Ext.of_eq hw⟩
  have Hcut := Lib.hid hcut
  clear hcut
  cases h1 : Lib.hasPrefix line ([45, 45] ++ b)
  · have e1 : delimB line b = (false, false) := by rw [delimB, h1]; rfl
    rw [e1]
    have H1 := Lib.hid h1
    clear h1 e1
    go_enter Tryz.func71, Tryz.ntmps71
    go_wp2_with fail
    rw [mk_append2 [45, 45] b]
    refine (Hcut.out line ([45, 45] ++ b) _).mono ?_
    rintro e w1 ⟨rfl, x1⟩
    rw [H1.out]
    go_wp2
    go_ret2
    exact ⟨rfl, x1⟩
  · have ht : Lib.trimPrefix line ([45, 45] ++ b) = line.drop ([45, 45] ++ b).length := by rw [Lib.trimPrefix, h1]; rfl
    obtain ⟨rest, hr⟩ : ∃ rest, rest = line.drop ([45, 45] ++ b).length := ⟨_, rfl⟩
    have hrl : rest.length ≤ line.length := by rw [hr]; simp
    cases h2 : blankB rest
    · have htl := trimPrefix_len rest [45, 45]
      cases h3 : Lib.hasPrefix rest [45, 45]
      · have e1 : delimB line b = (false, true) := by simp only [delimB, h1, if_true, ← hr, h2, h3]; rfl
        rw [e1]
        have H1 := Lib.hid h1
        have H2 := Lib.hid h2
        have H3 := Lib.hid h3
        have Ht := Lib.hid (ht.trans hr.symm)
        clear h1 h2 h3 e1 ht hr
        go_enter Tryz.func71, Tryz.ntmps71
        go_wp2_with fail
        rw [mk_append2 [45, 45] b]
        refine (Hcut.out line ([45, 45] ++ b) _).mono ?_
        rintro e w1 ⟨rfl, x1⟩
        rw [H1.out, Ht.out]
        go_wp2_with fail
        refine (blank_l rest _ (by omega)).mono ?_
        rintro e w2 ⟨rfl, x2⟩
        rw [H2.out]
        go_wp2_with fail
        refine (Hcut.out rest [45, 45] _).mono ?_
        rintro e w3 ⟨rfl, x3⟩
        rw [H3.out]
        go_wp2
        go_ret2
        exact ⟨rfl, x1.trans (x2.trans x3)⟩
      · have e1 : delimB line b = (blankB (Lib.trimPrefix rest [45, 45]), true) := by simp only [delimB, h1, if_true, ← hr, h2, h3, Bool.true_and]; rfl
        rw [e1]
        have H1 := Lib.hid h1
        have H2 := Lib.hid h2
        have H3 := Lib.hid h3
        have Ht := Lib.hid (ht.trans hr.symm)
        clear h1 h2 h3 e1 ht hr
        go_enter Tryz.func71, Tryz.ntmps71
        go_wp2_with fail
        rw [mk_append2 [45, 45] b]
        refine (Hcut.out line ([45, 45] ++ b) _).mono ?_
        rintro e w1 ⟨rfl, x1⟩
        rw [H1.out, Ht.out]
        go_wp2_with fail
        refine (blank_l rest _ (by omega)).mono ?_
        rintro e w2 ⟨rfl, x2⟩
        rw [H2.out]
        go_wp2_with fail
        refine (Hcut.out rest [45, 45] _).mono ?_
        rintro e w3 ⟨rfl, x3⟩
        rw [H3.out]
        go_wp2_with fail
        refine (blank_l (Lib.trimPrefix rest [45, 45]) _ (by omega)).mono ?_
        rintro e w4 ⟨rfl, x4⟩
        go_wp2
        go_ret2
        exact ⟨rfl, x1.trans (x2.trans (x3.trans x4))⟩
    · have e1 : delimB line b = (true, false) := by simp only [delimB, h1, if_true, ← hr, h2]
      rw [e1]
      have H1 := Lib.hid h1
      have H2 := Lib.hid h2
      have Ht := Lib.hid (ht.trans hr.symm)
      clear h1 h2 e1 ht hr
      go_enter Tryz.func71, Tryz.ntmps71
      go_wp2_with fail
      rw [mk_append2 [45, 45] b]
      refine (Hcut.out line ([45, 45] ++ b) _).mono ?_
      rintro e w1 ⟨rfl, x1⟩
      rw [H1.out, Ht.out]
      go_wp2_with fail
      refine (blank_l rest _ (by omega)).mono ?_
      rintro e w2 ⟨rfl, x2⟩
      rw [H2.out]
      go_wp2
      go_ret2
      exact ⟨rfl, x1.trans x2⟩
end Go.Proofs.YtdjcjkpodggdpaaGreatDoor
