/- The walk of ViewEscapes, at what small yields. -/
import Derived.Test.YtfkjjhfoncckcaaDoorVShownW
namespace Go.Proofs.YtfkjjhfoncckcaaDoor
open Go.RowKit Go.Sort

def plainC (c : UInt8) : Bool := decide (32 ≤ c.toNat) && (decide (c.toNat ≠ 127) && (decide (c.toNat ≠ 38) && (decide (c.toNat ≠ 60) && (decide (c.toNat ≠ 62) && decide (c.toNat ≠ 34)))))
def plainS (l : List UInt8) : Bool := l.all plainC
theorem plainS_snoc (s : List UInt8) (k : Nat) (h : k < s.length) : plainS (s.take (k + 1)) = (plainS (s.take k) && plainC s[k]) := by
  rw [List.take_succ_eq_append_getElem h, plainS, List.all_append]
  simp [plainS]
def cleanC (c : UInt8) : Prop := 32 ≤ c.toNat ∧ c.toNat ≠ 127 ∧ c.toNat ≠ 60 ∧ c.toNat ≠ 62 ∧ c.toNat ≠ 34

set_option maxHeartbeats 2000000 in
set_option maxRecDepth 100000 in
theorem law_walk (s : List UInt8) (w : World) (hT : Tab w) (hs : s.length ≤ 1500) (hclean : ∀ c ∈ escapeB s, cleanC c) (h1 : unescB (escapeB s) = some s) (h2 : plainS s = true → escapeB s = s) (h3 : ∀ u, unescB s = some u → escapeB u = s)
    (hsm : Calls Tryd.prog 4 #[] w fun e w' => e = .returned (.bool true) ∧ Ext w w') :
    Calls Tryd.prog 3 #[vstr s] w fun e w' => e = .returned (.bool true) ∧ Ext w w' := by
  have hle := escapeB_le s
  have h15 : ¬ (1500 : Int) < s.length := by omega
  have HT := Lib.hid hT
  have HC := Lib.hid hclean
  have H1 := Lib.hid h1
  have H2 := Lib.hid h2
  have H3 := Lib.hid h3
  have HS := Lib.hid hsm
  obtain ⟨E, hE⟩ : ∃ E, E = escapeB s := ⟨_, rfl⟩
  rw [← hE] at hle HC H1 H2
  have HE := Lib.hid hE
  clear hT hclean h1 h2 h3 hsm hE
  go_enter Tryd.func3, Tryd.ntmps3
  go_wp2_with fail
  refine HS.out.mono ?_
  rintro e w1 ⟨rfl, x1⟩
  have T1 := Lib.hid (HT.out.ext x1)
  go_wp2_with fail
  refine (escape_any s w1 (by omega) T1.out).mono ?_
  rintro e w2 ⟨rfl, x2⟩
  rw [← HE.out]
  have T2 := Lib.hid (T1.out.ext x2)
  have X2 := Lib.hid (x1.trans x2)
  clear x1 x2
  go_wp2_with fail
  refine (unescape_any E w2 (by omega) T2.out).mono ?_
  rintro e w3 ⟨rfl, x3⟩
  rw [H1.out]
  have T3 := Lib.hid (T2.out.ext x3)
  have X3 := Lib.hid (X2.out.trans x3)
  clear x3
  go_wp2_with fail
  go_loopw [7, 8] (fun b i wr => ∃ k : Nat, k ≤ s.length ∧ i = .int .i64 k ∧ b = .bool (plainS (s.take k)) ∧ wr = w3) (fun _ i _ => s.length - (intOf i).toNat)
  case atStart => exact ⟨0, Nat.zero_le _, rfl, rfl, rfl⟩
  case round =>
    obtain ⟨k, hk, rfl, rfl, rfl⟩ := hrel
    by_cases hlt : k < s.length
    · have hsn := plainS_snoc s k hlt
      have hg : ((⟨s.toArray⟩ : ByteArray)[k]'hlt) = s[k] := rfl
      obtain ⟨c, hc⟩ : ∃ c, c = s[k] := ⟨_, rfl⟩
      obtain ⟨P, hP⟩ : ∃ P, P = plainS (s.take k) := ⟨_, rfl⟩
      rw [← hc, ← hP] at hsn
      rw [← hc] at hg
      rw [← hP]
      have Hsn := Lib.hid hsn
      clear hsn hc hP
      cases P with
      | false =>
        go_wp2
        go_roundw
        case rel => exact ⟨k + 1, by omega, by go_num, by rw [Hsn.out]; rfl, by first | rfl | trivial⟩
        case measure => simp [intOf]; omega
      | true =>
        have hb : plainC c = decide (32 ≤ c.toNat ∧ c.toNat ≠ 127 ∧ c.toNat ≠ 38 ∧ c.toNat ≠ 60 ∧ c.toNat ≠ 62 ∧ c.toNat ≠ 34) := by simp [plainC]
        have Hcb := Lib.hid hb
        clear hb
        go_wp2
        all_goals
          go_roundw
          case rel =>
            refine ⟨k + 1, by omega, by go_num, ?_, by first | rfl | trivial⟩
            rw [Hsn.out, Bool.true_and, Hcb.out]
            refine congrArg Value.bool ?_
            first
              | (symm; rw [decide_eq_false_iff_not]; omega)
              | (symm; rw [decide_eq_true_eq]; omega)
              | (rw [decide_eq_decide]; omega)
              | (rw [Bool.eq_iff_iff]; simp only [Bool.and_eq_true, bne_iff_ne, decide_eq_true_eq]; omega)
          case measure => simp [intOf]; omega
    · obtain rfl : k = s.length := by omega
      rw [List.take_length]
      obtain ⟨P, hP⟩ : ∃ P, P = plainS s := ⟨_, rfl⟩
      rw [← hP]
      have HPl := Lib.hid hP
      clear hP
      go_wp2_with fail
      go_loopw [9] (fun i wq => ∃ j : Nat, j ≤ E.length ∧ i = .int .i64 j ∧ wq = wr) (fun i _ => E.length - (intOf i).toNat)
      case atStart => exact ⟨0, Nat.zero_le _, rfl, by first | rfl | trivial⟩
      case round =>
        obtain ⟨j, hj, rfl, rfl⟩ := hrel
        by_cases hjl : j < E.length
        · have hg : ((⟨E.toArray⟩ : ByteArray)[j]'hjl) = E[j] := rfl
          have hcl := HC.out E[j] (List.getElem_mem hjl)
          obtain ⟨c, hc⟩ : ∃ c, c = E[j] := ⟨_, rfl⟩
          rw [← hc] at hg hcl
          obtain ⟨a0, a1, a2, a3, a4⟩ := hcl
          have b0 : ¬ (c.toNat : Int) < 32 := by omega
          have b1 : ¬ (c.toNat : Int) = 127 := by omega
          have b2 : ¬ (c.toNat : Int) = 60 := by omega
          have b3 : ¬ (c.toNat : Int) = 62 := by omega
          have b4 : ¬ (c.toNat : Int) = 34 := by omega
          clear hc a0 a1 a2 a3 a4
          go_wp2
          all_goals first
            | (exfalso; omega)
            | (go_roundw
               case rel => exact ⟨j + 1, by omega, by go_num, by first | rfl | trivial⟩
               case measure => simp [intOf]; omega)
            | (exfalso; simp_all; done)
        · obtain rfl : j = E.length := by omega
          clear hjl hj
          go_wp2_with fail
          refine (unescape_any s wr (by omega) T3.out).mono ?_
          rintro e w5 ⟨rfl, x5⟩
          have T5 := Lib.hid (T3.out.ext x5)
          have X5 := Lib.hid (X3.out.trans x5)
          clear x5
          cases hu : unescB s with
          | none =>
            have z1 : (none : Option (List UInt8)).getD [] = [] := rfl
            have z2 : (none : Option (List UInt8)).isSome = false := rfl
            rw [z1, z2]
            clear z1 z2 hu
            cases P with
            | false =>
              go_wp2
              go_ret
              exact ⟨rfl, X5.out⟩
            | true =>
              obtain rfl : E = s := H2.out HPl.out.symm
              go_wp2
              go_ret
              exact ⟨rfl, X5.out⟩
          | some u =>
            have hus := H3.out u hu
            have hul := escapeB_len u
            rw [hus] at hul
            have Hus := Lib.hid hus
            have z1 : (some u).getD [] = u := rfl
            have z2 : (some u).isSome = true := rfl
            rw [z1, z2]
            clear z1 z2 hu hus
            cases P with
            | false =>
              go_wp2_with fail
              refine (escape_any u w5 (by omega) T5.out).mono ?_
              rintro e w6 ⟨rfl, x6⟩
              rw [Hus.out]
              go_wp2
              go_ret
              exact ⟨rfl, X5.out.trans x6⟩
            | true =>
              obtain rfl : E = s := H2.out HPl.out.symm
              go_wp2_with fail
              refine (escape_any u w5 (by omega) T5.out).mono ?_
              rintro e w6 ⟨rfl, x6⟩
              rw [Hus.out]
              go_wp2
              go_ret
              exact ⟨rfl, X5.out.trans x6⟩

set_option maxHeartbeats 1000000 in
set_option maxRecDepth 100000 in
theorem law_long (s : List UInt8) (w : World) (hs : 1500 < s.length) (hsm : Calls Tryd.prog 4 #[] w fun e w' => e = .returned (.bool true) ∧ Ext w w') :
    Calls Tryd.prog 3 #[vstr s] w fun e w' => e = .returned (.bool true) ∧ Ext w w' := by
  have h15 : (1500 : Int) < s.length := by omega
  have HS := Lib.hid hsm
  clear hsm
  go_enter Tryd.func3, Tryd.ntmps3
  go_wp2_with fail
  refine HS.out.mono ?_
  rintro e w1 ⟨rfl, x1⟩
  go_wp2
  go_ret
  exact ⟨rfl, x1⟩
end Go.Proofs.YtfkjjhfoncckcaaDoor
