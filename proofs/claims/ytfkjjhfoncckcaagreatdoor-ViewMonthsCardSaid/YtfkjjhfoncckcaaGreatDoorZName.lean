/- date.Name as a function of its month. -/
import Derived.Test.YtfkjjhfoncckcaaGreatDoorYName
namespace Go.Proofs.YtfkjjhfoncckcaaGreatDoor
open Go.RowKit Go.Sort

set_option maxHeartbeats 1000000 in
set_option maxRecDepth 100000 in
theorem is_fn (x : Int) : ∃ b : Bool, ∀ w, Calls Tryz.prog 41 #[.int .i64 x] w fun e w' => e = .returned (.bool b) ∧ w' = w := by
  by_cases h1 : 0 ≤ x
  · apply Exists.intro
    intro w
    go_enter Tryz.func41, Tryz.ntmps41
    go_wp2
    go_ret
    exact ⟨rfl, rfl⟩
  · refine ⟨false, fun w => ?_⟩
    go_enter Tryz.func41, Tryz.ntmps41
    go_wp2
    go_ret
    exact ⟨rfl, rfl⟩
set_option maxHeartbeats 1000000 in
set_option maxRecDepth 100000 in
theorem number_two (y m d : Int) : ∃ q n1 n2 : Int, ∀ w, Calls Tryz.prog 118 #[.int .i64 y, .int .i64 m, .int .i64 d] w fun e w' => ((q < 0 ∧ e = .returned (.int .i64 n1)) ∨ (0 ≤ q ∧ e = .returned (.int .i64 n2))) ∧ w' = w := by
  iterate 3 (apply Exists.intro)
  intro w
  go_enter Tryz.func118, Tryz.ntmps118
  go_wp2
  · rename_i h
    go_ret
    exact ⟨.inl ⟨h, rfl⟩, rfl⟩
  · rename_i h
    go_ret
    exact ⟨.inr ⟨h, rfl⟩, rfl⟩
theorem number_fn (y m d : Int) : ∃ n : Int, ∀ w, Calls Tryz.prog 118 #[.int .i64 y, .int .i64 m, .int .i64 d] w fun e w' => e = .returned (.int .i64 n) ∧ w' = w := by
  obtain ⟨q, n1, n2, h⟩ := number_two y m d
  by_cases hq : q < 0
  · refine ⟨n1, fun w => (h w).mono ?_⟩
    rintro e w' ⟨⟨_, he⟩ | ⟨hn, _⟩, hw⟩
    · exact ⟨he, hw⟩
    · omega
  · refine ⟨n2, fun w => (h w).mono ?_⟩
    rintro e w' ⟨⟨hn, _⟩ | ⟨_, he⟩, hw⟩
    · omega
    · exact ⟨he, hw⟩
set_option maxHeartbeats 1000000 in
set_option maxRecDepth 100000 in
theorem civil_two (x : Int) : ∃ (q : Int) (a1 b1 c1 a2 b2 c2 : Int), ∀ w, Calls Tryz.prog 74 #[.int .i64 x] w fun e w' => ((12 < q ∧ e = .returned (.tuple #[.int .i64 a1, .int .i64 b1, .int .i64 c1])) ∨ (q ≤ 12 ∧ e = .returned (.tuple #[.int .i64 a2, .int .i64 b2, .int .i64 c2]))) ∧ w' = w := by
  iterate 7 (apply Exists.intro)
  intro w
  go_enter Tryz.func74, Tryz.ntmps74
  go_wp2
  · rename_i h
    go_ret3
    exact ⟨.inl ⟨h, rfl⟩, rfl⟩
  · rename_i h
    go_ret3
    exact ⟨.inr ⟨h, rfl⟩, rfl⟩
theorem civil_fn (x : Int) : ∃ (a b c : Int), ∀ w, Calls Tryz.prog 74 #[.int .i64 x] w fun e w' => e = .returned (.tuple #[.int .i64 a, .int .i64 b, .int .i64 c]) ∧ w' = w := by
  obtain ⟨q, a1, b1, c1, a2, b2, c2, h⟩ := civil_two x
  by_cases hq : 12 < q
  · refine ⟨a1, b1, c1, fun w => (h w).mono ?_⟩
    rintro e w' ⟨⟨_, he⟩ | ⟨hn, _⟩, hw⟩
    · exact ⟨he, hw⟩
    · omega
  · refine ⟨a2, b2, c2, fun w => (h w).mono ?_⟩
    rintro e w' ⟨⟨hn, _⟩ | ⟨_, he⟩, hw⟩
    · omega
    · exact ⟨he, hw⟩
set_option maxHeartbeats 1000000 in
set_option maxRecDepth 100000 in
theorem start_fn (y m d : Int) : ∃ (n : Int) (b : Bool), ∀ w, Calls Tryz.prog 106 #[.int .i64 y, .int .i64 m, .int .i64 d] w fun e w' => e = .returned (.tuple #[.int .i64 n, .bool b]) ∧ w' = w := by
  by_cases hg : y < 1970 ∨ 9999 < y ∨ m < 1 ∨ 12 < m ∨ d < 1 ∨ 31 < d
  · refine ⟨0, false, fun w => ?_⟩
    go_enter Tryz.func106, Tryz.ntmps106
    go_wp2
    all_goals first
      | (go_ret2; exact ⟨rfl, rfl⟩)
      | (exfalso; omega)
  · obtain ⟨g1, g2, g3, g4, g5, g6⟩ : ¬ y < 1970 ∧ ¬ 9999 < y ∧ ¬ m < 1 ∧ ¬ 12 < m ∧ ¬ d < 1 ∧ ¬ 31 < d := by omega
    clear hg
    obtain ⟨n, hn⟩ := number_fn y m d
    obtain ⟨a, b, c, hc⟩ := civil_fn n
    have HN := Lib.hid hn
    have HC := Lib.hid hc
    clear hn hc
    refine ⟨wrap64 (n * 86400000), decide (a = y ∧ b = m ∧ c = d), fun w => ?_⟩
    go_enter Tryz.func106, Tryz.ntmps106
    go_wp2_with (first | (go_at_call 118; refine (HN.out _).mono ?_; rintro e w1 ⟨rfl, rfl⟩) | (go_at_call 74; refine (HC.out _).mono ?_; rintro e w1 ⟨rfl, rfl⟩))
    all_goals
      go_ret2
      refine ⟨congrArg (fun b => Ending.returned (Value.tuple #[.int .i64 (wrap64 (n * 86400000)), .bool b])) ?_, rfl⟩
      simp_all
      try rfl
set_option maxHeartbeats 1000000 in
set_option maxRecDepth 100000 in
theorem from_fn (y m d : Int) : ∃ (n : Int) (b : Bool), ∀ w, Calls Tryz.prog 85 #[.int .i64 y, .int .i64 m, .int .i64 d] w fun e w' => e = .returned (.tuple #[.int .i64 n, .bool b]) ∧ w' = w := by
  obtain ⟨n, b, hn⟩ := start_fn y m d
  obtain ⟨q, hq⟩ := is_fn n
  have HN := Lib.hid hn
  have HQ := Lib.hid hq
  clear hn hq
  cases b with
  | false =>
    refine ⟨0, false, fun w => ?_⟩
    go_enter Tryz.func85, Tryz.ntmps85
    go_wp2_with (go_at_call 106; refine (HN.out _).mono ?_; rintro e w1 ⟨rfl, rfl⟩)
    go_ret2
    exact ⟨rfl, rfl⟩
  | true =>
    cases q with
    | false =>
      refine ⟨0, false, fun w => ?_⟩
      go_enter Tryz.func85, Tryz.ntmps85
      go_wp2_with (first | (go_at_call 106; refine (HN.out _).mono ?_; rintro e w1 ⟨rfl, rfl⟩) | (go_at_call 41; refine (HQ.out _).mono ?_; rintro e w1 ⟨rfl, rfl⟩))
      go_ret2
      exact ⟨rfl, rfl⟩
    | true =>
      refine ⟨n, true, fun w => ?_⟩
      go_enter Tryz.func85, Tryz.ntmps85
      go_wp2_with (first | (go_at_call 106; refine (HN.out _).mono ?_; rintro e w1 ⟨rfl, rfl⟩) | (go_at_call 41; refine (HQ.out _).mono ?_; rintro e w1 ⟨rfl, rfl⟩))
      go_ret2
      exact ⟨rfl, rfl⟩
set_option maxHeartbeats 2000000 in
set_option maxRecDepth 100000 in
theorem bounds_fn (m : Int) : ∃ (a b : Int), (m < 0 ∨ 119988 < m → b = 0) ∧ ∀ w, Calls Tryz.prog 54 #[.int .i64 m] w fun e w' => e = .returned (.tuple #[.int .i64 a, .int .i64 b]) ∧ w' = w := by
  by_cases hg : m < 0 ∨ 119988 < m
  · refine ⟨0, 0, fun _ => rfl, fun w => ?_⟩
    go_enter Tryz.func54, Tryz.ntmps54
    by_cases g1 : m < 0
    · go_wp2
      go_ret2
      exact ⟨rfl, rfl⟩
    · have g2 : 119988 < m := by omega
      go_wp2
      go_ret2
      exact ⟨rfl, rfl⟩
  · obtain ⟨g1, g2⟩ : ¬ m < 0 ∧ ¬ 119988 < m := by omega
    obtain ⟨n1, b1, h1⟩ := from_fn (m / 12) (m % 12 + 1) 1
    obtain ⟨n2, b2, h2⟩ := from_fn ((m + 1) / 12) ((m + 1) % 12 + 1) 1
    have H1 := Lib.hid h1
    have H2 := Lib.hid h2
    clear h1 h2
    cases b1 with
    | false =>
      refine ⟨0, 0, fun _ => rfl, fun w => ?_⟩
      clear hg
      go_enter Tryz.func54, Tryz.ntmps54
      go_wp2_with (go_at_call 85; refine (H1.out _).mono ?_; rintro e w1 ⟨rfl, rfl⟩)
      go_ret2
      exact ⟨rfl, rfl⟩
    | true =>
      cases b2 with
      | false =>
        refine ⟨n1, 70368744177665, fun h => absurd h hg, fun w => ?_⟩
        clear hg
        go_enter Tryz.func54, Tryz.ntmps54
        go_wp2_with (first | (go_at_call 85; (with_reducible refine (H1.out _).mono ?_); rintro e w1 ⟨rfl, rfl⟩) | (go_at_call 85; (with_reducible refine (H2.out _).mono ?_); rintro e w1 ⟨rfl, rfl⟩))
        go_ret2
        exact ⟨rfl, rfl⟩
      | true =>
        refine ⟨n1, n2, fun h => absurd h hg, fun w => ?_⟩
        clear hg
        go_enter Tryz.func54, Tryz.ntmps54
        go_wp2_with (first | (go_at_call 85; (with_reducible refine (H1.out _).mono ?_); rintro e w1 ⟨rfl, rfl⟩) | (go_at_call 85; (with_reducible refine (H2.out _).mono ?_); rintro e w1 ⟨rfl, rfl⟩))
        go_ret2
        exact ⟨rfl, rfl⟩
/-- A number with at least k digits. -/
def paddedB (n k : Int) : List UInt8 := Lib.repeatL [48] (max 0 (k - (Lib.itoa n).length)).toNat ++ Lib.itoa n
theorem paddedB_ok (n k : Int) (h0 : -9223372036854775808 ≤ n) (h1 : n ≤ 9223372036854775807) (k0 : 0 ≤ k) (k1 : k ≤ 4) : Cl (paddedB n k) ∧ (paddedB n k).length ≤ 25 := by
  have hl := Lib.itoa_length_le n h0 h1
  refine ⟨(Cl.rep _ (Cl.of rfl) _).append (Cl.itoa n), ?_⟩
  rw [paddedB, List.length_append, Lib.repeatL_length]
  show _ * 1 + _ ≤ 25
  omega
set_option maxHeartbeats 1000000 in
set_option maxRecDepth 100000 in
theorem padded_any (n k : Int) (w : World) (h0 : -9223372036854775808 ≤ n) (h1 : n ≤ 9223372036854775807) (k0 : 0 ≤ k) (k1 : k ≤ 4) (hT : Tab w) :
    Calls Tryz.prog 55 #[.int .i64 n, .int .i64 k] w fun e w' => e = .returned (vstr (paddedB n k)) ∧ Ext w w' := by
  have hl := Lib.itoa_length_le n h0 h1
  obtain ⟨s, hs⟩ : ∃ s, s = Lib.itoa n := ⟨_, rfl⟩
  have hp : paddedB n k = Lib.repeatL [48] (max 0 (k - s.length)).toNat ++ s := by rw [hs]; rfl
  rw [← hs] at hl
  have HS := Lib.hid hs
  obtain ⟨r, hr⟩ : ∃ r, r = Lib.repeatL [48] (max 0 (k - s.length)).toNat := ⟨_, rfl⟩
  have hrl : r.length ≤ 4 := by rw [hr, Lib.repeatL_length]; show _ * 1 ≤ 4; omega
  have hrep : ∀ W : World, Calls Tryz.prog 28 #[.string ⟨#[48]⟩, .int .i64 (max 0 (k - s.length))] W fun e w' => e = .returned (vstr r) ∧ Ext W w' := fun W => by
    have h : ((max 0 (k - s.length)).toNat : Int) = max 0 (k - s.length) := by omega
    have h2 := Tryz.strings_Repeat ⟨#[48]⟩ (max 0 (k - s.length)).toNat W (by omega) (by show 1 * _ ≤ _; omega)
    rw [h] at h2
    rw [hr]
    exact h2
  rw [← hr] at hp
  have HP := Lib.hid hp
  have HR := Lib.hid hrep
  clear hs hrep hr hp
  go_enter Tryz.func55, Tryz.ntmps55
  go_wp2_with fail
  refine (decimal_any n h0 h1 w hT).mono ?_
  rintro e w1 ⟨rfl, x1⟩
  rw [← HS.out]
  have X1 := Lib.hid x1
  clear x1
  go_wp2_with fail
  refine (HR.out w1).mono ?_
  rintro e w2 ⟨rfl, x2⟩
  have X2 := Lib.hid (X1.out.trans x2)
  clear x2
  have z1 : ¬ 9223372036854775807 < r.length + s.length := by omega
  go_wp2
  go_ret
  exact ⟨(congrArg (fun z => Ending.returned (Value.string z)) (mk_cat r s)).trans (by rw [HP.out]), X2.out⟩
set_option maxHeartbeats 1000000 in
set_option maxRecDepth 100000 in
theorem name_fn (m : Int) (h0 : -9223372036854775808 ≤ m) (h1 : m ≤ 9223372036854775807) : ∃ s : List UInt8, (Cl s ∧ s.length ≤ 60) ∧ ∀ w, Tab w →
    Calls Tryz.prog 25 #[.int .i64 m] w fun e w' => e = .returned (vstr s) ∧ Ext w w' := by
  obtain ⟨a, b, hb, hcall⟩ := bounds_fn m
  have HB := Lib.hid hcall
  clear hcall
  by_cases hz : b = 0
  · subst hz
    clear hb
    refine ⟨[], ⟨Cl.nil, by decide⟩, fun w _ => ?_⟩
    go_enter Tryz.func25, Tryz.ntmps25
    go_wp2_with fail
    refine (HB.out w).mono ?_
    rintro e w1 ⟨rfl, rfl⟩
    go_wp2
    go_ret
    exact ⟨rfl, Ext.refl _⟩
  · have g1 : 0 ≤ m ∧ m ≤ 119988 := by
      have h := fun h => hz (hb h)
      omega
    obtain ⟨s1, hs1⟩ : ∃ s1, s1 = paddedB (m / 12) 4 := ⟨_, rfl⟩
    obtain ⟨s2, hs2⟩ : ∃ s2, s2 = paddedB (m % 12 + 1) 2 := ⟨_, rfl⟩
    obtain ⟨c1, l1⟩ := paddedB_ok (m / 12) 4 (by omega) (by omega) (by decide) (by decide)
    obtain ⟨c2, l2⟩ := paddedB_ok (m % 12 + 1) 2 (by omega) (by omega) (by decide) (by decide)
    have p1 := fun (w : World) (hT : Tab w) => padded_any (m / 12) 4 w (by omega) (by omega) (by decide) (by decide) hT
    have p2 := fun (w : World) (hT : Tab w) => padded_any (m % 12 + 1) 2 w (by omega) (by omega) (by decide) (by decide) hT
    rw [← hs1] at c1 l1 p1
    rw [← hs2] at c2 l2 p2
    have P1 := Lib.hid p1
    have P2 := Lib.hid p2
    clear hb hs1 hs2 p1 p2
    refine ⟨s1 ++ [45] ++ s2, ⟨(c1.append (Cl.of rfl)).append c2, by rw [List.length_append, List.length_append, List.length_singleton]; omega⟩, fun w hT => ?_⟩
    have HT := Lib.hid hT
    have z1 : ¬ 9223372036854775807 < s1.length + 1 := by omega
    have z2 : ¬ 9223372036854775807 < s1.length + 1 + s2.length := by omega
    clear hT c1 c2
    go_enter Tryz.func25, Tryz.ntmps25
    go_wp2_with fail
    refine (HB.out w).mono ?_
    rintro e w1 ⟨rfl, rfl⟩
    go_wp2_with fail
    refine (P1.out _ HT.out).mono ?_
    rintro e w2 ⟨rfl, x2⟩
    have X2 := Lib.hid x2
    have T2 := Lib.hid (HT.out.ext x2)
    clear x2
    go_wp2_with fail
    refine (P2.out _ T2.out).mono ?_
    rintro e w3 ⟨rfl, x3⟩
    have X3 := Lib.hid (X2.out.trans x3)
    clear x3
    go_wp2
    go_ret
    refine ⟨congrArg (fun z => Ending.returned (Value.string z)) ?_, X3.out⟩
    show (⟨s1.toArray⟩ : ByteArray) ++ ⟨#[45]⟩ ++ ⟨s2.toArray⟩ = _
    rw [show (⟨s1.toArray⟩ : ByteArray) ++ ⟨#[45]⟩ = ⟨(s1 ++ [45]).toArray⟩ from mk_cat s1 [45]]
    exact mk_cat (s1 ++ [45]) s2
end Go.Proofs.YtfkjjhfoncckcaaGreatDoor
