/- date.Name: some text of one line. -/
import Derived.Test.YtfkjjhfoncckcaaGreatDoorYPlain
namespace Go.Proofs.YtfkjjhfoncckcaaGreatDoor
open Go.RowKit Go.Sort

/-- What is returned: a boolean, a number, .. -/
def RB (e : Ending) : Prop := ∃ b, e = .returned (.bool b)
def RI (e : Ending) : Prop := ∃ a, e = .returned (.int .i64 a)
def RIII (e : Ending) : Prop := ∃ a b c, e = .returned (.tuple #[.int .i64 a, .int .i64 b, .int .i64 c])
def RIB (e : Ending) : Prop := ∃ a b, e = .returned (.tuple #[.int .i64 a, .bool b])
def RII (bad : Prop) (e : Ending) : Prop := ∃ a b, e = .returned (.tuple #[.int .i64 a, .int .i64 b]) ∧ (bad → b = 0)
theorem RB.i (b : Bool) : RB (.returned (.bool b)) := ⟨b, rfl⟩
theorem RI.i (a : Int) : RI (.returned (.int .i64 a)) := ⟨a, rfl⟩
theorem RIII.i (a b c : Int) : RIII (.returned (.tuple #[.int .i64 a, .int .i64 b, .int .i64 c])) := ⟨a, b, c, rfl⟩
theorem RIB.i (a : Int) (b : Bool) : RIB (.returned (.tuple #[.int .i64 a, .bool b])) := ⟨a, b, rfl⟩
theorem RII.i (bad : Prop) (a b : Int) (h : bad → b = 0) : RII bad (.returned (.tuple #[.int .i64 a, .int .i64 b])) := ⟨a, b, rfl, h⟩

set_option maxHeartbeats 1000000 in
set_option maxRecDepth 100000 in
theorem is_some (x : Int) (w : World) : Calls Tryz.prog 41 #[.int .i64 x] w fun e w' => RB e ∧ w' = w := by
  go_enter Tryz.func41, Tryz.ntmps41
  go_wp2
  all_goals
    go_ret
    exact ⟨RB.i _, rfl⟩
set_option maxHeartbeats 1000000 in
set_option maxRecDepth 100000 in
theorem number_some (y m d : Int) (w : World) : Calls Tryz.prog 118 #[.int .i64 y, .int .i64 m, .int .i64 d] w fun e w' => RI e ∧ w' = w := by
  go_enter Tryz.func118, Tryz.ntmps118
  go_wp2
  all_goals
    go_ret
    exact ⟨RI.i _, rfl⟩
set_option maxHeartbeats 1000000 in
set_option maxRecDepth 100000 in
theorem civil_some (x : Int) (w : World) : Calls Tryz.prog 74 #[.int .i64 x] w fun e w' => RIII e ∧ w' = w := by
  go_enter Tryz.func74, Tryz.ntmps74
  go_wp2
  all_goals
    go_ret3
    exact ⟨RIII.i _ _ _, rfl⟩
set_option maxHeartbeats 1000000 in
set_option maxRecDepth 100000 in
theorem start_some (y m d : Int) (w : World) : Calls Tryz.prog 106 #[.int .i64 y, .int .i64 m, .int .i64 d] w fun e w' => RIB e ∧ w' = w := by
  go_enter Tryz.func106, Tryz.ntmps106
  by_cases hg : y < 1970 ∨ 9999 < y ∨ m < 1 ∨ 12 < m ∨ d < 1 ∨ 31 < d
  · go_wp2
    all_goals first
      | (go_ret2; exact ⟨RIB.i _ _, rfl⟩)
      | (exfalso; omega)
  · obtain ⟨g1, g2, g3, g4, g5, g6⟩ : ¬ y < 1970 ∧ ¬ 9999 < y ∧ ¬ m < 1 ∧ ¬ 12 < m ∧ ¬ d < 1 ∧ ¬ 31 < d := by omega
    clear hg
    go_wp2_with fail
    refine (number_some y m d w).mono ?_
    rintro e w1 ⟨⟨n, rfl⟩, rfl⟩
    go_wp2_with fail
    refine (civil_some n w1).mono ?_
    rintro e w2 ⟨⟨a, b, c, rfl⟩, rfl⟩
    go_wp2
    all_goals
      go_ret2
      exact ⟨RIB.i _ _, rfl⟩
set_option maxHeartbeats 1000000 in
set_option maxRecDepth 100000 in
theorem from_some (y m d : Int) (w : World) : Calls Tryz.prog 85 #[.int .i64 y, .int .i64 m, .int .i64 d] w fun e w' => RIB e ∧ w' = w := by
  go_enter Tryz.func85, Tryz.ntmps85
  go_wp2_with fail
  refine (start_some y m d w).mono ?_
  rintro e w1 ⟨⟨n, b, rfl⟩, rfl⟩
  cases b with
  | false =>
    go_wp2
    go_ret2
    exact ⟨RIB.i _ _, rfl⟩
  | true =>
    go_wp2_with fail
    refine (is_some n w1).mono ?_
    rintro e w2 ⟨⟨b, rfl⟩, rfl⟩
    cases b with
    | false =>
      go_wp2
      go_ret2
      exact ⟨RIB.i _ _, rfl⟩
    | true =>
      go_wp2
      go_ret2
      exact ⟨RIB.i _ _, rfl⟩
set_option maxHeartbeats 1000000 in
set_option maxRecDepth 100000 in
theorem bounds_some (m : Int) (w : World) : Calls Tryz.prog 54 #[.int .i64 m] w fun e w' => RII (m < 0 ∨ 119988 < m) e ∧ w' = w := by
  go_enter Tryz.func54, Tryz.ntmps54
  by_cases hg : m < 0 ∨ 119988 < m
  · by_cases g1 : m < 0
    · go_wp2
      go_ret2
      exact ⟨RII.i _ _ _ fun _ => rfl, rfl⟩
    · have g2 : 119988 < m := by omega
      go_wp2
      go_ret2
      exact ⟨RII.i _ _ _ fun _ => rfl, rfl⟩
  · obtain ⟨g1, g2⟩ : ¬ m < 0 ∧ ¬ 119988 < m := by omega
    have Hg := Lib.hid hg
    clear hg
    go_wp2_with fail
    refine (from_some _ _ _ w).mono ?_
    rintro e w1 ⟨⟨n, b, rfl⟩, rfl⟩
    cases b with
    | false =>
      go_wp2
      go_ret2
      exact ⟨RII.i _ _ _ fun h => absurd h Hg.out, rfl⟩
    | true =>
      go_wp2_with fail
      refine (from_some _ _ _ w1).mono ?_
      rintro e w2 ⟨⟨n2, b, rfl⟩, rfl⟩
      cases b with
      | false =>
        go_wp2
        go_ret2
        exact ⟨RII.i _ _ _ fun h => absurd h Hg.out, rfl⟩
      | true =>
        go_wp2
        go_ret2
        exact ⟨RII.i _ _ _ fun h => absurd h Hg.out, rfl⟩
set_option maxHeartbeats 1000000 in
set_option maxRecDepth 100000 in
theorem padded_some (n k : Int) (w : World) (h0 : -9223372036854775808 ≤ n) (h1 : n ≤ 9223372036854775807) (k0 : 0 ≤ k) (k1 : k ≤ 4) (hT : Tab w) :
    Calls Tryz.prog 55 #[.int .i64 n, .int .i64 k] w fun e w' => (∃ s, e = .returned (vstr s) ∧ Cl s ∧ s.length ≤ 25) ∧ Ext w w' := by
  have hl := Lib.itoa_length_le n h0 h1
  have hcl := Cl.itoa n
  obtain ⟨s, hs⟩ : ∃ s, s = Lib.itoa n := ⟨_, rfl⟩
  rw [← hs] at hl hcl
  have HS := Lib.hid hs
  have HC := Lib.hid hcl
  clear hs hcl
  have hrep : ∀ W : World, ∃ r : List UInt8, Cl r ∧ r.length ≤ 4 ∧ Calls Tryz.prog 28 #[.string ⟨#[48]⟩, .int .i64 (max 0 (k - s.length))] W fun e w' => e = .returned (vstr r) ∧ Ext W w' := fun W => by
    have h : ((max 0 (k - s.length)).toNat : Int) = max 0 (k - s.length) := by omega
    have h2 := Tryz.strings_Repeat ⟨#[48]⟩ (max 0 (k - s.length)).toNat W (by omega) (by show 1 * _ ≤ _; omega)
    rw [h] at h2
    exact ⟨Lib.repeatL [48] (max 0 (k - s.length)).toNat, Cl.rep _ (Cl.of rfl) _, by rw [Lib.repeatL_length]; show _ * 1 ≤ 4; omega, h2⟩
  have HR := Lib.hid hrep
  clear hrep
  go_enter Tryz.func55, Tryz.ntmps55
  go_wp2_with fail
  refine (decimal_any n h0 h1 w hT).mono ?_
  rintro e w1 ⟨rfl, x1⟩
  rw [← HS.out]
  obtain ⟨r, hr, hrl, hcall⟩ := HR.out w1
  have X1 := Lib.hid x1
  have HRc := Lib.hid hr
  have HC2 := Lib.hid hcall
  clear x1 hr hcall
  go_wp2_with fail
  refine HC2.out.mono ?_
  rintro e w2 ⟨rfl, x2⟩
  have X2 := Lib.hid (X1.out.trans x2)
  clear x2
  have z1 : ¬ 9223372036854775807 < r.length + s.length := by omega
  go_wp2
  go_ret
  exact ⟨⟨r ++ s, congrArg (fun z => Ending.returned (Value.string z)) (mk_cat r s), HRc.out.append HC.out, by rw [List.length_append]; omega⟩, X2.out⟩
end Go.Proofs.YtfkjjhfoncckcaaGreatDoor
