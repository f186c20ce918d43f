/- date.Name; view.mode. -/
import Derived.Test.YtfkjjhfoncckcaaGreatDoorYDate
namespace Go.Proofs.YtfkjjhfoncckcaaGreatDoor
open Go.RowKit Go.Sort

def RS (n : Nat) (e : Ending) : Prop := ∃ s, e = .returned (vstr s) ∧ Cl s ∧ s.length ≤ n
theorem RS.i {n : Nat} (s : List UInt8) (h : Cl s) (hl : s.length ≤ n) : RS n (.returned (vstr s)) := ⟨s, rfl, h, hl⟩
set_option maxHeartbeats 1000000 in
set_option maxRecDepth 100000 in
theorem name_some (m : Int) (w : World) (h0 : -9223372036854775808 ≤ m) (h1 : m ≤ 9223372036854775807) (hT : Tab w) :
    Calls Tryz.prog 25 #[.int .i64 m] w fun e w' => RS 60 e ∧ Ext w w' := by
  have HT := Lib.hid hT
  clear hT
  go_enter Tryz.func25, Tryz.ntmps25
  go_wp2_with fail
  refine (bounds_some m w).mono ?_
  rintro e w1 ⟨⟨a, b, rfl, hb⟩, rfl⟩
  by_cases hz : b = 0
  · subst hz
    clear hb
    go_wp2
    go_ret
    exact ⟨RS.i [] Cl.nil (by decide), Ext.refl _⟩
  · have g1 : 0 ≤ m ∧ m ≤ 119988 := by
      have h := fun h => hz (hb h)
      omega
    clear hb
    go_wp2_with fail
    refine (padded_some (m / 12) 4 w1 (by omega) (by omega) (by decide) (by decide) HT.out).mono ?_
    rintro e w2 ⟨⟨s1, rfl, c1, l1⟩, x2⟩
    have X2 := Lib.hid x2
    have T2 := Lib.hid (HT.out.ext x2)
    have C1 := Lib.hid c1
    clear x2 c1
    have z1 : ¬ 9223372036854775807 < s1.length + 1 := by omega
    go_wp2_with fail
    rw [show (⟨s1.toArray⟩ : ByteArray) ++ ⟨#[45]⟩ = ⟨(s1 ++ [45]).toArray⟩ from mk_cat s1 [45]]
    refine (padded_some (m % 12 + 1) 2 w2 (by omega) (by omega) (by decide) (by decide) T2.out).mono ?_
    rintro e w3 ⟨⟨s2, rfl, c2, l2⟩, x3⟩
    have X3 := Lib.hid (X2.out.trans x3)
    have C2 := Lib.hid c2
    clear x3 c2
    obtain ⟨s3, hs3⟩ : ∃ s3, s3 = s1 ++ [45] := ⟨_, rfl⟩
    have l3 := congrArg List.length hs3
    rw [List.length_append, List.length_singleton] at l3
    have C3 : Hid (Cl s3) := Lib.hid (by rw [hs3]; exact C1.out.append (Cl.of rfl))
    rw [← hs3]
    clear hs3
    have z2 : ¬ 9223372036854775807 < s3.length + s2.length := by omega
    go_wp2
    go_ret
    exact ⟨⟨s3 ++ s2, congrArg (fun z => Ending.returned (Value.string z)) (mk_cat s3 s2), C3.out.append C2.out, by rw [List.length_append]; omega⟩, X3.out⟩
/-- The word for a mode. -/
def modeB (n : Int) : List UInt8 := if n = 0 then [115, 105, 110, 103, 108, 101] else if n = 1 then [100, 105, 103, 101, 115, 116] else if n = 2 then [116, 111, 112, 105, 99] else if n = 3 then [110, 111, 110, 101] else [63]
theorem Cl.mode (n : Int) : Cl (modeB n) := by
  unfold modeB
  repeat' split
  all_goals exact Cl.of rfl
theorem modeB_le (n : Int) : (modeB n).length ≤ 6 := by
  unfold modeB
  repeat' split
  all_goals decide
set_option maxHeartbeats 1000000 in
set_option maxRecDepth 100000 in
theorem mode_any (n : Int) (w : World) : Calls Tryz.prog 39 #[.int .i64 n] w fun e w' => e = .returned (vstr (modeB n)) ∧ Ext w w' := by
  go_enter Tryz.func39, Tryz.ntmps39
  by_cases h0 : n < 0
  · go_wp2
    go_ret
    refine ⟨?_, (Ext.refl _).alloc _⟩
    rw [show modeB n = [63] from by rw [modeB, if_neg (by omega), if_neg (by omega), if_neg (by omega), if_neg (by omega)]]
    rfl
  · by_cases h4 : (4 : Int) ≤ n
    · go_wp2
      go_ret
      refine ⟨?_, (Ext.refl _).alloc _⟩
      rw [show modeB n = [63] from by rw [modeB, if_neg (by omega), if_neg (by omega), if_neg (by omega), if_neg (by omega)]]
      rfl
    · have h : n = 0 ∨ n = 1 ∨ n = 2 ∨ n = 3 := by omega
      rcases h with rfl | rfl | rfl | rfl
      · go_wp2
        go_ret
        exact ⟨rfl, (Ext.refl _).alloc _⟩
      · go_wp2
        go_ret
        exact ⟨rfl, (Ext.refl _).alloc _⟩
      · go_wp2
        go_ret
        exact ⟨rfl, (Ext.refl _).alloc _⟩
      · go_wp2
        go_ret
        exact ⟨rfl, (Ext.refl _).alloc _⟩
end Go.Proofs.YtfkjjhfoncckcaaGreatDoor
