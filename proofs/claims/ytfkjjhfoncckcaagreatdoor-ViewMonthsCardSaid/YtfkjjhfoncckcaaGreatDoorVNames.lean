/- view.names, view.escaped, text.Decimal. -/
import Derived.Test.YtfkjjhfoncckcaaGreatDoorBase
import Derived.Test.YtfkjjhfoncckcaaGreatDoorShelf
import Derived.Test.YtfkjjhfoncckcaaGreatDoorVPlain
import Derived.Maps.OwnOps
import Derived.Maps.OwnSet
import Derived.Maps.Views
import Derived.Maps.Keyed
import Derived.Maps.StringElems
import Derived.Carry
import Derived.Lib.ItoaLen
import Derived.Lib.AppendIntMem
import Derived.Lib.LaidTab
namespace Go.Proofs.YtfkjjhfoncckcaaGreatDoor
open Go.RowKit Go.Sort

/-- The table that strconv.Itoa reads. -/
def Tab (w : World) : Prop := Lib.TabIs Tryz.prog w "internal/strconv.uint64pow10" .u64 Lib.pow10Tab
theorem g_pow : Tryz.prog.globalNamed "internal/strconv.uint64pow10" = some 2 := by kernel_rfl
theorem Tab.of_block {w w' : World} (h : Tab w) (hb : w'.heap[2]? = w.heap[2]?) : Tab w' := by
  unfold Tab Lib.TabIs World.var? at *
  rw [g_pow] at h ⊢
  simp only [Option.bind_some] at h ⊢
  rw [hb]
  exact h
theorem Tab.lt {w : World} (h : Tab w) : 2 < w.heap.size := by
  refine Nat.lt_of_not_le fun hn => ?_
  unfold Tab Lib.TabIs World.var? at h
  rw [g_pow] at h
  simp [Array.getElem?_eq_none hn] at h
theorem Tab.ext {w w' : World} (h : Tab w) (x : Ext w w') : Tab w' := h.of_block (x.heap h.lt)
theorem Tab.below {B : Nat} {w w' : World} (h : Tab w) (x : Below B w w') (hB : 2 < B) : Tab w' := h.of_block (x.block _ hB)
theorem ext_grow (w : World) (k : Nat) (os : Array Obj) : Ext w (grow (w.drewN k) os) := Lib.below_grow _ w (Nat.le_refl _) k os

/-- text.Decimal. -/
theorem decimal_any (n : Int) (h0 : -9223372036854775808 ≤ n) (h1 : n ≤ 9223372036854775807) (w : World) (hT : Tab w) :
    Calls Tryz.prog 32 #[.int .i64 n] w fun e w' => e = .returned (vstr (Lib.itoa n)) ∧ Ext w w' := by
  have HT := Lib.hid hT
  clear hT
  go_enter Tryz.func32, Tryz.ntmps32
  go_wp2_with (go_at_call 44; refine (Tryz.strconv_Itoa n h0 h1 _ HT.out).mono ?_; rintro e w' ⟨rfl, k, os, rfl⟩)
  go_ret
  exact ⟨rfl, ext_grow _ _ _⟩
theorem itoa_byte (c : UInt8) (h : c < 32 ∨ c = 127) : Lib.itoa c.toNat = dec3 c.toNat := by
  have hn : c.toNat < 32 ∨ c.toNat = 127 := by
    rcases h with h | h
    · exact .inl (by simpa using UInt8.lt_iff_toNat_lt.1 h)
    · exact .inr (by rw [h]; rfl)
  have hd : Lib.itoa (c.toNat : Int) = Lib.decDigits c.toNat := by simp [Lib.itoa]
  rw [hd]
  generalize c.toNat = n at hn
  unfold dec3
  by_cases a : n < 10
  · rw [if_pos a, Lib.decDigits_one a]
  · rw [if_neg a]
    by_cases b : n < 100
    · rw [if_pos b, Lib.decDigits_two a b]
    · rw [if_neg b]
      have : n = 127 := by omega
      subst this
      rw [Lib.decDigits, dif_neg (by decide), Lib.decDigits, dif_neg (by decide), Lib.decDigits, dif_pos (by decide)]
      rfl

/-! ### The map of the named escapes -/
def namesD : DataW Unit := ((((DataW.map []).put (.int .u8 38) (.lit (.string [38, 97, 109, 112, 59]))).put (.int .u8 60) (.lit (.string [38, 108, 116, 59]))).put (.int .u8 62) (.lit (.string [38, 103, 116, 59]))).put (.int .u8 34) (.lit (.string [38, 113, 117, 111, 116, 59]))
abbrev NamesAt (b : Nat) (w : World) : Prop := w.ownsMap Tryz.prog 5 (plainElem Tryz.prog 9) b 4 namesD
theorem names_keyed : Maps.Keyed Tryz.prog 5 := Maps.int_keyed Tryz.underlying5
theorem u8_wf (c : UInt8) : (Lit.int .u8 (c.toNat : Int)).wf = true := by
  have := c.toNat_lt
  have e1 : IntKind.u8.min = 0 := by kernel_rfl
  have e2 : IntKind.u8.max = 255 := by kernel_rfl
  simp only [Lit.wf, e1, e2, Bool.and_eq_true, decide_eq_true_eq]
  omega
theorem names_at (c : UInt8) (z : DataW Unit) : namesD.atKey (.int .u8 c.toNat) z = (match nameB c with | some l => .lit (.string l) | none => z) ∧ Maps.has namesD (.int .u8 c.toNat) = (nameB c).isSome := by
  by_cases h1 : c = 38
  · subst h1; exact ⟨rfl, rfl⟩
  by_cases h2 : c = 60
  · subst h2; exact ⟨rfl, rfl⟩
  by_cases h3 : c = 62
  · subst h3; exact ⟨rfl, rfl⟩
  by_cases h4 : c = 34
  · subst h4; exact ⟨rfl, rfl⟩
  have hn : nameB c = none := by simp [nameB, h1, h2, h3, h4]
  have ne : ∀ k : UInt8, c ≠ k → (Lit.int .u8 (c.toNat : Int)) ≠ .int .u8 (k.toNat : Int) := by
    intro k hk e
    simp only [Lit.int.injEq, true_and] at e
    exact hk (UInt8.toNat_inj.1 (by omega))
  have n38 : (Lit.int .u8 (c.toNat : Int)) ≠ .int .u8 38 := ne 38 h1
  have n60 : (Lit.int .u8 (c.toNat : Int)) ≠ .int .u8 60 := ne 60 h2
  have n62 : (Lit.int .u8 (c.toNat : Int)) ≠ .int .u8 62 := ne 62 h3
  have n34 : (Lit.int .u8 (c.toNat : Int)) ≠ .int .u8 34 := ne 34 h4
  rw [hn]
  unfold namesD
  refine ⟨?_, ?_⟩
  · rw [Maps.atKey_put_other n34, Maps.atKey_put_other n62, Maps.atKey_put_other n60, Maps.atKey_put_other n38]
    rfl
  · rw [Maps.has_put_other n34, Maps.has_put_other n62, Maps.has_put_other n60, Maps.has_put_other n38]
    rfl
theorem names_look (b : Nat) (c : UInt8) (w : World) (h : NamesAt b w) :
    (Instr.lookup 95 (.map (some b)) (.int .u8 c.toNat) true).run Tryz.prog w = .ok (.tuple #[vstr ((nameB c).getD []), .bool (nameB c).isSome]) w := by
  obtain ⟨v, ps, hrun, hv⟩ := h.look_ok names_keyed Tryz.underlying95 (z := .string ByteArray.empty) (zd := .lit (.string [])) (zp := []) (Tryz.zeroValue9 w) (plainElem_string Tryz.underlying9 (by decide)) (Maps.keyOf_int_mk Tryz.underlying5 (u8_wf c))
  obtain ⟨h1, h2⟩ := names_at c (.lit (.string []))
  rw [h2] at hrun
  rw [hrun]
  obtain ⟨s, rfl, hs, _⟩ := plainElem_string_inv Tryz.underlying9 hv
  rw [h1] at hs
  have e : s = ⟨((nameB c).getD []).toArray⟩ := by
    cases hn : nameB c with
    | none =>
      rw [hn] at hs
      simp only [Prod.mk.injEq, DataW.lit.injEq, Lit.string.injEq] at hs
      rw [← mk_toList s, ← hs.1]; rfl
    | some l =>
      rw [hn] at hs
      simp only [Prod.mk.injEq, DataW.lit.injEq, Lit.string.injEq] at hs
      rw [← mk_toList s, ← hs.1]; rfl
  rw [e]

set_option maxHeartbeats 1000000 in
set_option maxRecDepth 100000 in
theorem names_any (w : World) : Calls Tryz.prog 52 #[] w fun e w' => ∃ b, e = .returned (.map (some b)) ∧ w.heap.size ≤ b ∧ NamesAt b w' ∧ Ext w w' := by
  have hmm := @run_makeMap Tryz.prog
  have m0 := World.ownsMap_made (H := Unit) w Tryz.prog 5 (plainElem Tryz.prog 9)
  have step : ∀ (W : World) (n : Nat) (D : DataW Unit) (c : Nat) (l : List UInt8), c < 256 → n < 5 → l.length < 10 → W.ownsMap Tryz.prog 5 (plainElem Tryz.prog 9) w.heap.size n D →
      ∃ W', (Instr.mapUpdate 95 (.map (some w.heap.size)) (.int .u8 c) (vstr l)).run Tryz.prog W = .ok () W' ∧ W'.ownsMap Tryz.prog 5 (plainElem Tryz.prog 9) w.heap.size (n + 1) (D.put (.int .u8 c) (.lit (.string l))) ∧ W.grownBy W' (some w.heap.size) := by
    intro W n D c l hc hn hl h
    exact h.update names_keyed Tryz.underlying95 (by unfold maxLen; omega) (Maps.keyOf_int_mk Tryz.underlying5 (by have := u8_wf (UInt8.ofNat c); rwa [UInt8.toNat_ofNat', Nat.mod_eq_of_lt hc] at this)) (plainElem_string Tryz.underlying9 (by unfold maxLen; show l.length ≤ _; omega))
  obtain ⟨w1, r1, m1, g1⟩ := step _ _ _ 38 [38, 97, 109, 112, 59] (by omega) (by omega) (by decide) m0
  obtain ⟨w2, r2, m2, g2⟩ := step _ _ _ 60 [38, 108, 116, 59] (by omega) (by omega) (by decide) m1
  obtain ⟨w3, r3, m3, g3⟩ := step _ _ _ 62 [38, 103, 116, 59] (by omega) (by omega) (by decide) m2
  obtain ⟨w4, r4, m4, g4⟩ := step _ _ _ 34 [38, 113, 117, 111, 116, 59] (by omega) (by omega) (by decide) m3
  have x : Ext w w4 := by
    have x0 : Ext w (w.alloc (.map #[] 0)) := (Ext.refl w).alloc _
    have s1 := g1.size; have s2 := g2.size; have s3 := g3.size
    have s0 := x0.size
    exact (((x0.grown g1 (by omega) (fun k e => by cases e; exact Nat.le_refl _)).grown g2 (by omega) (fun k e => by cases e; exact Nat.le_refl _)).grown g3 (by omega) (fun k e => by cases e; exact Nat.le_refl _)).grown g4 (by omega) (fun k e => by cases e; exact Nat.le_refl _)
  replace r1 : (Instr.mapUpdate 95 (.map (some w.heap.size)) (.int .u8 38) (.string ⟨#[38, 97, 109, 112, 59]⟩)).run Tryz.prog (w.alloc (.map #[] 0)) = .ok () w1 := r1
  replace r2 : (Instr.mapUpdate 95 (.map (some w.heap.size)) (.int .u8 60) (.string ⟨#[38, 108, 116, 59]⟩)).run Tryz.prog w1 = .ok () w2 := r2
  replace r3 : (Instr.mapUpdate 95 (.map (some w.heap.size)) (.int .u8 62) (.string ⟨#[38, 103, 116, 59]⟩)).run Tryz.prog w2 = .ok () w3 := r3
  replace r4 : (Instr.mapUpdate 95 (.map (some w.heap.size)) (.int .u8 34) (.string ⟨#[38, 113, 117, 111, 116, 59]⟩)).run Tryz.prog w3 = .ok () w4 := r4
  have X := Lib.hid x
  have M := Lib.hid m4
  clear m0 m1 m2 m3 m4 g1 g2 g3 g4 step x
  go_enter Tryz.func52, Tryz.ntmps52
  go_wp2
  go_ret
  exact ⟨_, rfl, Nat.le_refl _, M.out, X.out⟩
end Go.Proofs.YtfkjjhfoncckcaaGreatDoor
