/- (*reader).shown. -/
import Derived.Test.YtfkjjhfoncckcaaGreatDoorVShown
namespace Go.Proofs.YtfkjjhfoncckcaaGreatDoor
open Go.RowKit Go.Sort

theorem nextS_len (word rest : List UInt8) : (nextS word rest).length ≤ rest.length := by
  refine Nat.le_trans ?_ (cut1_len 10 rest).1
  unfold nextS Lib.trimPrefix
  split <;> simp
theorem nextR_len (rest : List UInt8) : (nextR rest).length ≤ rest.length := (cut1_len 10 rest).2
def hidX (rest : List UInt8) : ShownT := ⟨true, [], [], (unhexB (nextS [45] rest)).getD []⟩
def hidBad (rest : List UInt8) (bad : Bool) : Bool := bad || !nextOk [45] rest || !(unhexB (nextS [45] rest)).isSome
theorem four_new (w : World) (a : Bool) (s t g : List UInt8) : FourS (w.alloc (.cells #[.bool a, vstr s, vstr t, vstr g] 45)) w.heap.size (.bool a) (vstr s) (vstr t) (vstr g) := heap_new w _
theorem FourS.but {p : Nat} {w W : World} (h : But p w W) {B : Nat} (hB : B ≠ p) {v0 v1 v2 v3 : Value} (k : FourS w B v0 v1 v2 v3) : FourS W B v0 v1 v2 v3 := (h.block B (Array.getElem?_eq_some_iff.1 k).1 hB).trans k

set_option maxHeartbeats 1000000 in
set_option maxRecDepth 100000 in
theorem shown_hid (p : Nat) (rest : List UInt8) (bad : Bool) (w : World) (h : Rd w p rest bad) (hr : rest.length ≤ 1073741824) (hh : Lib.hasPrefix rest [45] = true) :
    Calls Tryz.prog 62 #[.pointer (some ⟨p, 0, none⟩)] w fun e w' => e = .returned (shownV (hidX rest)) ∧ Rd w' p (nextR rest) (hidBad rest bad) ∧ But p w w' := by
  have hlt : p < w.heap.size := (Array.getElem?_eq_some_iff.1 h).1
  obtain ⟨W1, hW1⟩ : ∃ W1, W1 = w.alloc (.cells #[.bool false, vstr [], vstr [], vstr []] 45) := ⟨_, rfl⟩
  have x1 : Ext w W1 := by rw [hW1]; exact (Ext.refl w).alloc _
  obtain ⟨B, hB⟩ : ∃ B, B = w.heap.size := ⟨_, rfl⟩
  have k1 : FourS W1 B (.bool false) (vstr []) (vstr []) (vstr []) := by rw [hW1, hB]; exact four_new w false [] [] []
  have r1 := h.ext x1
  have c0 := r1.cell0
  have hBp : B ≠ p := by omega
  have hBw : w.heap.size ≤ B := by omega
  obtain ⟨s, hs⟩ : ∃ s, s = nextS [45] rest := ⟨_, rfl⟩
  obtain ⟨u, hu⟩ : ∃ u, u = unhexB s := ⟨_, rfl⟩
  have eX : shownV (hidX rest) = .agg #[.bool true, vstr [], vstr [], vstr (u.getD [])] := by rw [hu, hs]; rfl
  have eB : hidBad rest bad = (bad || !nextOk [45] rest || !u.isSome) := by rw [hu, hs]; rfl
  have sl : s.length ≤ 1073741824 := by have := nextS_len [45] rest; rw [hs]; omega
  rw [eX, eB]
  have HS := Lib.hid hs
  have HU := Lib.hid hu
  have HW1 := Lib.hid hW1
  have HB := Lib.hid hB
  have HR := Lib.hid r1
  have HX := Lib.hid x1
  have HK := Lib.hid k1
  have HH := Lib.hid hh
  have HP := Lib.hid (And.intro hBp hBw)
  clear hs hu hW1 hB r1 x1 k1 hh eX eB h hlt hBp hBw
  go_enter Tryz.func62, Tryz.ntmps62
  go_upto_region 1 with fail
  rw [show w.alloc (.cells #[.bool false, .string ⟨#[]⟩, .string ⟨#[]⟩, .string ⟨#[]⟩] 45) = W1 from HW1.out.symm, ← HB.out]
  go_wp2_with fail
  refine (Tryz.strings_HasPrefix ⟨rest.toArray⟩ ⟨#[45]⟩ W1).mono ?_
  rintro e w2 ⟨rfl, rfl⟩
  rw [show Lib.hasPrefix (⟨rest.toArray⟩ : ByteArray).data.toList (⟨#[45]⟩ : ByteArray).data.toList = true from HH.out]
  go_wp2_with fail
  refine (r_next p rest bad [45] w2 HR.out hr).mono ?_
  rintro e w3 ⟨rfl, r3, b3⟩
  rw [← HS.out]
  have R3 := Lib.hid r3
  have B3 := Lib.hid ((But.of_ext HX.out).trans b3)
  have K3 := Lib.hid (HK.out.but b3 HP.out.1)
  clear r3 b3 c0
  go_wp2_with fail
  refine (r_hex p (nextR rest) _ s w3 R3.out sl).mono ?_
  rintro e w4 ⟨rfl, r4, b4⟩
  rw [← HU.out] at r4 ⊢
  have k4 := K3.out.but b4 HP.out.1
  obtain ⟨g0, g1, g2, g3⟩ := k4.cells
  have z0 := k4.frozen 0
  have z1 := k4.frozen 1
  have z2 := k4.frozen 2
  have z3 := k4.frozen 3
  obtain ⟨r0, r1, r2, r3⟩ := (put4_four k4 (.bool true) (vstr []) (vstr []) (vstr (u.getD []))).cells
  have FF := And.intro ((put4_other w4 B (.bool true) (vstr []) (vstr []) (vstr (u.getD [])) p HP.out.1.symm).trans r4) (put4_but (B3.out.trans b4) HP.out.2 (.bool true) (vstr []) (vstr []) (vstr (u.getD [])))
  unfold put4 at r0 r1 r2 r3 FF
  have HF := Lib.hid FF
  have Q0 := Lib.hid (And.intro r0 (And.intro r1 (And.intro r2 r3)))
  clear FF r4 b4 k4 r0 r1 r2 r3
  go_wp2
  obtain ⟨r0, r1, r2, r3⟩ := Q0.out
  clear g0 g1 g2 g3 z0 z1 z2 z3
  refine bodyPost_ret (v := .agg #[.bool true, vstr [], vstr [], vstr (u.getD [])]) (by simp [results, Tryz.results62, go_sem, r0, r1, r2, r3]) rfl ?_
  exact ⟨rfl, HF.out⟩

def plainL (rest : List UInt8) : List UInt8 × List UInt8 × Bool := cut1 32 (nextS [43] rest)
def plainX (rest : List UInt8) : ShownT := ⟨false, (unhexB (plainL rest).1).getD [], (unescB (plainL rest).2.1).getD [], []⟩
def plainBad (rest : List UInt8) (bad : Bool) : Bool := bad || !nextOk [43] rest || !(unhexB (plainL rest).1).isSome || !(unescB (plainL rest).2.1).isSome || !(plainL rest).2.2
set_option maxHeartbeats 1000000 in
set_option maxRecDepth 100000 in
theorem shown_plain (p : Nat) (rest : List UInt8) (bad : Bool) (w : World) (h : Rd w p rest bad) (hr : rest.length ≤ 1073741824) (hh : Lib.hasPrefix rest [45] = false) (hT : Tab w) (htp : 2 ≠ p) :
    Calls Tryz.prog 62 #[.pointer (some ⟨p, 0, none⟩)] w fun e w' => e = .returned (shownV (plainX rest)) ∧ Rd w' p (nextR rest) (plainBad rest bad) ∧ But p w w' := by
  have hlt : p < w.heap.size := (Array.getElem?_eq_some_iff.1 h).1
  obtain ⟨W1, hW1⟩ : ∃ W1, W1 = w.alloc (.cells #[.bool false, vstr [], vstr [], vstr []] 45) := ⟨_, rfl⟩
  have x1 : Ext w W1 := by rw [hW1]; exact (Ext.refl w).alloc _
  obtain ⟨B, hB⟩ : ∃ B, B = w.heap.size := ⟨_, rfl⟩
  have k1 : FourS W1 B (.bool false) (vstr []) (vstr []) (vstr []) := by rw [hW1, hB]; exact four_new w false [] [] []
  have r1 := h.ext x1
  have c0 := r1.cell0
  have hBp : B ≠ p := by omega
  have hBw : w.heap.size ≤ B := by omega
  obtain ⟨s, hs⟩ : ∃ s, s = nextS [43] rest := ⟨_, rfl⟩
  have sl : s.length ≤ 1073741824 := by have := nextS_len [43] rest; rw [hs]; omega
  obtain ⟨a, c, ok, hcut⟩ : ∃ a c ok, cut1 32 s = (a, c, ok) := ⟨_, _, _, rfl⟩
  have hcl := cut1_len 32 s
  rw [hcut] at hcl
  have hal : a.length ≤ 1073741824 := Nat.le_trans hcl.1 sl
  have hcl2 : c.length ≤ 1073741824 := Nat.le_trans hcl.2 sl
  have hpl : plainL rest = (a, c, ok) := by rw [plainL, ← hs, hcut]
  obtain ⟨u, hu⟩ : ∃ u, u = unhexB a := ⟨_, rfl⟩
  obtain ⟨v, hv⟩ : ∃ v, v = unescB c := ⟨_, rfl⟩
  have eX : plainX rest = ⟨false, u.getD [], v.getD [], []⟩ := by rw [plainX, hpl, hu, hv]
  have eB : plainBad rest bad = (bad || !nextOk [43] rest || !u.isSome || !v.isSome || !ok) := by rw [plainBad, hpl, hu, hv]
  rw [eX, eB]
  have HS := Lib.hid hs
  have HU := Lib.hid hu
  have HV := Lib.hid hv
  have HC := Lib.hid hcut
  have HW1 := Lib.hid hW1
  have HB := Lib.hid hB
  have HR := Lib.hid r1
  have HX := Lib.hid x1
  have HK := Lib.hid k1
  have HH := Lib.hid hh
  have HT := Lib.hid (hT.ext x1)
  have HP := Lib.hid (And.intro hBp hBw)
  have HTP := Lib.hid htp
  clear hs hu hv hcut hcl hpl hW1 hB r1 x1 k1 hh eX eB h hlt hBp hBw hT htp
  go_enter Tryz.func62, Tryz.ntmps62
  go_upto_region 1 with fail
  rw [show w.alloc (.cells #[.bool false, .string ⟨#[]⟩, .string ⟨#[]⟩, .string ⟨#[]⟩] 45) = W1 from HW1.out.symm, ← HB.out]
  go_wp2_with fail
  refine (Tryz.strings_HasPrefix ⟨rest.toArray⟩ ⟨#[45]⟩ W1).mono ?_
  rintro e w2 ⟨rfl, rfl⟩
  rw [show Lib.hasPrefix (⟨rest.toArray⟩ : ByteArray).data.toList (⟨#[45]⟩ : ByteArray).data.toList = false from HH.out]
  go_wp2_with fail
  refine (r_next p rest bad [43] w2 HR.out hr).mono ?_
  rintro e w3 ⟨rfl, r3, b3⟩
  rw [← HS.out]
  have R3 := Lib.hid r3
  have B3 := Lib.hid ((But.of_ext HX.out).trans b3)
  have K3 := Lib.hid (HK.out.but b3 HP.out.1)
  have T3 := Lib.hid (b3.tab HT.out HTP.out)
  clear r3 b3 c0
  go_wp2_with fail
  refine (cut_l s 32 w3 sl).mono ?_
  rintro e w4 ⟨rfl, x4⟩
  rw [HC.out]
  have R4 := Lib.hid (R3.out.ext x4)
  have B4 := Lib.hid (B3.out.trans (But.of_ext x4))
  have K4 := Lib.hid (K3.out.but (But.of_ext x4) HP.out.1)
  have T4 := Lib.hid (T3.out.ext x4)
  clear x4
  go_wp2_with fail
  refine (r_hex p (nextR rest) _ a w4 R4.out hal).mono ?_
  rintro e w5 ⟨rfl, r5, b5⟩
  rw [← HU.out] at r5 ⊢
  have R5 := Lib.hid r5
  have B5 := Lib.hid (B4.out.trans b5)
  have K5 := Lib.hid (K4.out.but b5 HP.out.1)
  have T5 := Lib.hid (b5.tab T4.out HTP.out)
  clear r5 b5
  go_wp2_with fail
  refine (r_escaped p (nextR rest) _ c w5 R5.out hcl2 T5.out).mono ?_
  rintro e w6 ⟨rfl, r6, b6⟩
  rw [← HV.out] at r6 ⊢
  have R6 := Lib.hid r6
  have B6 := Lib.hid (B5.out.trans b6)
  have K6 := Lib.hid (K5.out.but b6 HP.out.1)
  clear r6 b6
  go_wp2_with fail
  refine (decoded_sh p (nextR rest) _ ok ⟨false, u.getD [], v.getD [], []⟩ w6 R6.out).mono ?_
  rintro e w7 ⟨rfl, r7, b7⟩
  have k4 := K6.out.but b7 HP.out.1
  obtain ⟨g0, g1, g2, g3⟩ := k4.cells
  have z0 := k4.frozen 0
  have z1 := k4.frozen 1
  have z2 := k4.frozen 2
  have z3 := k4.frozen 3
  obtain ⟨r0, r1, r2, r3⟩ := (put4_four k4 (.bool false) (vstr (u.getD [])) (vstr (v.getD [])) (vstr [])).cells
  have FF := And.intro ((put4_other w7 B (.bool false) (vstr (u.getD [])) (vstr (v.getD [])) (vstr []) p HP.out.1.symm).trans r7) (put4_but (B6.out.trans b7) HP.out.2 (.bool false) (vstr (u.getD [])) (vstr (v.getD [])) (vstr []))
  unfold put4 at r0 r1 r2 r3 FF
  have HF := Lib.hid FF
  have Q0 := Lib.hid (And.intro r0 (And.intro r1 (And.intro r2 r3)))
  clear FF r7 b7 k4 r0 r1 r2 r3
  unfold shownV
  go_wp2
  obtain ⟨r0, r1, r2, r3⟩ := Q0.out
  clear g0 g1 g2 g3 z0 z1 z2 z3
  refine bodyPost_ret (v := .agg #[.bool false, vstr (u.getD []), vstr (v.getD []), vstr []]) (by simp [results, Tryz.results62, go_sem, r0, r1, r2, r3]) rfl ?_
  exact ⟨rfl, HF.out⟩
end Go.Proofs.YtfkjjhfoncckcaaGreatDoor
