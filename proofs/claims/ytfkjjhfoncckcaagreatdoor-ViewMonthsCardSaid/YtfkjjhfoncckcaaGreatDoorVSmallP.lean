/- The plain facts of small. -/
import Derived.Test.YtfkjjhfoncckcaaGreatDoorVShownW
namespace Go.Proofs.YtfkjjhfoncckcaaGreatDoor
open Go.RowKit Go.Sort

def smNodes : List NodeT := [⟨[97], true, -1, 0⟩, ⟨[98], false, 0, 1⟩]
def smViews : List ViewT := [⟨[98], [120], [83], 0, 0, [], [], []⟩]
def smView : ViewT := ⟨[105], [], [], 0, 0, [⟨false, [115], [60], []⟩, ⟨true, [], [], [104]⟩], [], [1, 2]⟩
theorem sm_one : unescB [38, 108, 116] = none := by decide +kernel
theorem sm_two : unescB [38, 35, 48, 49, 48, 59] = none := by decide +kernel
theorem sm_esc : escapeB [97, 60, 98, 32, 38, 32, 99, 10] = [97, 38, 108, 116, 59, 98, 32, 38, 97, 109, 112, 59, 32, 99, 38, 35, 49, 48, 59] := by decide +kernel
theorem sm_thread : threadB smViews smNodes = [63, 32, 97, 10, 32, 32, 42, 32, 98, 32, 120, 32, 83, 10] := by decide +kernel
theorem sm_num0 : IsNum [48] 0 := ⟨by decide, by decide +kernel, by decide +kernel, by decide +kernel, by decide, by decide⟩
theorem sm_num1 : IsNum [49] 1 := ⟨by decide, by decide +kernel, by decide +kernel, by decide +kernel, by decide, by decide⟩
theorem sm_num2 : IsNum [50] 2 := ⟨by decide, by decide +kernel, by decide +kernel, by decide +kernel, by decide, by decide⟩
/-- The page of the view; what is left of it behind each line. -/
def smPage : List UInt8 := [109, 101, 115, 115, 97, 103, 101, 32, 105, 10, 102, 114, 111, 109, 32, 10, 115, 117, 98, 106, 101, 99, 116, 32, 10, 100, 97, 116, 101, 32, 48, 10, 115, 116, 97, 116, 101, 32, 48, 10, 108, 105, 115, 116, 115, 32, 49, 32, 50, 10, 99, 111, 109, 109, 105, 116, 32, 10, 43, 55, 51, 32, 38, 108, 116, 59, 10, 45, 54, 56, 10, 101, 110, 100, 10]
theorem sm_message : messageB smView = smPage := by decide +kernel
/-! The rests of the page, and what next yields of each. -/
def sp0 : List UInt8 := [109, 101, 115, 115, 97, 103, 101, 32, 105, 10, 102, 114, 111, 109, 32, 10, 115, 117, 98, 106, 101, 99, 116, 32, 10, 100, 97, 116, 101, 32, 48, 10, 115, 116, 97, 116, 101, 32, 48, 10, 108, 105, 115, 116, 115, 32, 49, 32, 50, 10, 99, 111, 109, 109, 105, 116, 32, 10, 43, 55, 51, 32, 38, 108, 116, 59, 10, 45, 54, 56, 10, 101, 110, 100, 10]
def sp1 : List UInt8 := [102, 114, 111, 109, 32, 10, 115, 117, 98, 106, 101, 99, 116, 32, 10, 100, 97, 116, 101, 32, 48, 10, 115, 116, 97, 116, 101, 32, 48, 10, 108, 105, 115, 116, 115, 32, 49, 32, 50, 10, 99, 111, 109, 109, 105, 116, 32, 10, 43, 55, 51, 32, 38, 108, 116, 59, 10, 45, 54, 56, 10, 101, 110, 100, 10]
def sp2 : List UInt8 := [115, 117, 98, 106, 101, 99, 116, 32, 10, 100, 97, 116, 101, 32, 48, 10, 115, 116, 97, 116, 101, 32, 48, 10, 108, 105, 115, 116, 115, 32, 49, 32, 50, 10, 99, 111, 109, 109, 105, 116, 32, 10, 43, 55, 51, 32, 38, 108, 116, 59, 10, 45, 54, 56, 10, 101, 110, 100, 10]
def sp3 : List UInt8 := [100, 97, 116, 101, 32, 48, 10, 115, 116, 97, 116, 101, 32, 48, 10, 108, 105, 115, 116, 115, 32, 49, 32, 50, 10, 99, 111, 109, 109, 105, 116, 32, 10, 43, 55, 51, 32, 38, 108, 116, 59, 10, 45, 54, 56, 10, 101, 110, 100, 10]
def sp4 : List UInt8 := [115, 116, 97, 116, 101, 32, 48, 10, 108, 105, 115, 116, 115, 32, 49, 32, 50, 10, 99, 111, 109, 109, 105, 116, 32, 10, 43, 55, 51, 32, 38, 108, 116, 59, 10, 45, 54, 56, 10, 101, 110, 100, 10]
def sp5 : List UInt8 := [108, 105, 115, 116, 115, 32, 49, 32, 50, 10, 99, 111, 109, 109, 105, 116, 32, 10, 43, 55, 51, 32, 38, 108, 116, 59, 10, 45, 54, 56, 10, 101, 110, 100, 10]
def sp6 : List UInt8 := [99, 111, 109, 109, 105, 116, 32, 10, 43, 55, 51, 32, 38, 108, 116, 59, 10, 45, 54, 56, 10, 101, 110, 100, 10]
def sp7 : List UInt8 := [43, 55, 51, 32, 38, 108, 116, 59, 10, 45, 54, 56, 10, 101, 110, 100, 10]
def sp8 : List UInt8 := [45, 54, 56, 10, 101, 110, 100, 10]
def sp9 : List UInt8 := [101, 110, 100, 10]
theorem sn0 : nextS [109, 101, 115, 115, 97, 103, 101, 32] sp0 = [105] ∧ nextR sp0 = sp1 ∧ nextOk [109, 101, 115, 115, 97, 103, 101, 32] sp0 = true := by decide +kernel
theorem sn1 : nextS [102, 114, 111, 109, 32] sp1 = [] ∧ nextR sp1 = sp2 ∧ nextOk [102, 114, 111, 109, 32] sp1 = true := by decide +kernel
theorem sn2 : nextS [115, 117, 98, 106, 101, 99, 116, 32] sp2 = [] ∧ nextR sp2 = sp3 ∧ nextOk [115, 117, 98, 106, 101, 99, 116, 32] sp2 = true := by decide +kernel
theorem sn3 : nextS [100, 97, 116, 101, 32] sp3 = [48] ∧ nextR sp3 = sp4 ∧ nextOk [100, 97, 116, 101, 32] sp3 = true := by decide +kernel
theorem sn4 : nextS [115, 116, 97, 116, 101, 32] sp4 = [48] ∧ nextR sp4 = sp5 ∧ nextOk [115, 116, 97, 116, 101, 32] sp4 = true := by decide +kernel
theorem sn5 : nextS [108, 105, 115, 116, 115] sp5 = [32, 49, 32, 50] ∧ nextR sp5 = sp6 ∧ nextOk [108, 105, 115, 116, 115] sp5 = true := by decide +kernel
theorem sn6 : nextS [99, 111, 109, 109, 105, 116, 32] sp6 = [] ∧ nextR sp6 = sp7 ∧ nextOk [99, 111, 109, 109, 105, 116, 32] sp6 = true := by decide +kernel
theorem sn7 : nextS [43] sp7 = [55, 51, 32, 38, 108, 116, 59] ∧ nextR sp7 = sp8 ∧ nextOk [43] sp7 = true := by decide +kernel
theorem sn8 : nextS [45] sp8 = [54, 56] ∧ nextR sp8 = sp9 ∧ nextOk [45] sp8 = true := by decide +kernel
theorem sp0_page : smPage = sp0 := rfl
theorem sp_len : sp0.length ≤ 100 ∧ sp1.length ≤ 100 ∧ sp2.length ≤ 100 ∧ sp3.length ≤ 100 ∧ sp4.length ≤ 100 ∧ sp5.length ≤ 100 ∧ sp6.length ≤ 100 ∧ sp7.length ≤ 100 ∧ sp8.length ≤ 100 ∧ sp9.length ≤ 100 := by decide +kernel
theorem sx7 : Lib.hasPrefix sp7 [45] = false ∧ plainBad sp7 false = false := by decide +kernel
theorem sx8 : Lib.hasPrefix sp8 [45] = true ∧ hidBad sp8 false = false ∧ nextR sp8 = sp9 := by decide +kernel
theorem su0 : unescB [105] = some [105] ∧ unescB [] = some [] ∧ unhexB [] = some [] := by decide +kernel
end Go.Proofs.YtfkjjhfoncckcaaGreatDoor
