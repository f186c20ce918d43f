/- (*reader).escaped, hex, next. -/
import Derived.Test.YtfkjjhfoncckcaaGreatDoorVReader
namespace Go.Proofs.YtfkjjhfoncckcaaGreatDoor
open Go.RowKit Go.Sort

set_option maxHeartbeats 1000000 in
set_option maxRecDepth 100000 in
theorem r_escaped (p : Nat) (rest : List UInt8) (bad : Bool) (s : List UInt8) (w : World) (h : Rd w p rest bad) (hs : s.length ≤ 1073741824) (hT : Tab w) :
    Calls Tryz.prog 57 #[.pointer (some ⟨p, 0, none⟩), vstr s] w fun e w' => e = .returned (vstr ((unescB s).getD [])) ∧ Rd w' p rest (bad || !(unescB s).isSome) ∧ But p w w' := by
  obtain ⟨u, hu⟩ : ∃ u, u = unescB s := ⟨_, rfl⟩
  rw [← hu]
  have HU_unescB := Lib.hid hu
  clear hu
  have H := Lib.hid h
  have HT := Lib.hid hT
  clear h hT
  go_enter Tryz.func57, Tryz.ntmps57
  go_wp2_with fail
  refine (unescape_any s w hs HT.out).mono ?_
  rintro e w1 ⟨rfl, x1⟩
  rw [← HU_unescB.out]
  have H1 := Lib.hid (H.out.ext x1)
  go_wp2_with fail
  refine (decoded_s p rest bad u.isSome (u.getD []) w1 H1.out).mono ?_
  rintro e w2 ⟨rfl, h2, b2⟩
  have F := Lib.hid (And.intro h2 ((But.of_ext x1).trans b2))
  clear h2 b2 x1
  go_wp2
  go_ret
  exact ⟨rfl, F.out⟩
set_option maxHeartbeats 1000000 in
set_option maxRecDepth 100000 in
theorem r_hex (p : Nat) (rest : List UInt8) (bad : Bool) (s : List UInt8) (w : World) (h : Rd w p rest bad) (hs : s.length ≤ 1073741824) :
    Calls Tryz.prog 61 #[.pointer (some ⟨p, 0, none⟩), vstr s] w fun e w' => e = .returned (vstr ((unhexB s).getD [])) ∧ Rd w' p rest (bad || !(unhexB s).isSome) ∧ But p w w' := by
  obtain ⟨u, hu⟩ : ∃ u, u = unhexB s := ⟨_, rfl⟩
  rw [← hu]
  have HU_unhexB := Lib.hid hu
  clear hu
  have H := Lib.hid h
  clear h
  go_enter Tryz.func61, Tryz.ntmps61
  go_wp2_with fail
  refine (unhex_any s w hs).mono ?_
  rintro e w1 ⟨rfl, x1⟩
  rw [← HU_unhexB.out]
  have H1 := Lib.hid (H.out.ext x1)
  go_wp2_with fail
  refine (decoded_s p rest bad u.isSome (u.getD []) w1 H1.out).mono ?_
  rintro e w2 ⟨rfl, h2, b2⟩
  have F := Lib.hid (And.intro h2 ((But.of_ext x1).trans b2))
  clear h2 b2 x1
  go_wp2
  go_ret
  exact ⟨rfl, F.out⟩

/-- What next yields; what is left; whether it is bad. -/
def nextS (word rest : List UInt8) : List UInt8 := Lib.trimPrefix (cut1 10 rest).1 word
def nextR (rest : List UInt8) : List UInt8 := (cut1 10 rest).2.1
def nextOk (word rest : List UInt8) : Bool := Lib.hasPrefix (cut1 10 rest).1 word && (cut1 10 rest).2.2
set_option maxHeartbeats 1000000 in
set_option maxRecDepth 100000 in
theorem r_next (p : Nat) (rest : List UInt8) (bad : Bool) (word : List UInt8) (w : World) (h : Rd w p rest bad) (hr : rest.length ≤ 1073741824) :
    Calls Tryz.prog 58 #[.pointer (some ⟨p, 0, none⟩), vstr word] w fun e w' => e = .returned (vstr (nextS word rest)) ∧ Rd w' p (nextR rest) (bad || !nextOk word rest) ∧ But p w w' := by
  obtain ⟨l, r, en, hcut⟩ : ∃ l r en, cut1 10 rest = (l, r, en) := ⟨_, _, _, rfl⟩
  obtain ⟨s, hs⟩ : ∃ s, s = Lib.trimPrefix l word := ⟨_, rfl⟩
  obtain ⟨ok, hok⟩ : ∃ ok, ok = Lib.hasPrefix l word := ⟨_, rfl⟩
  have e1 : nextS word rest = s := by rw [nextS, hcut, hs]
  have e2 : nextR rest = r := by rw [nextR, hcut]
  have e3 : nextOk word rest = (ok && en) := by rw [nextOk, hcut, hok]
  rw [e1, e2, e3]
  have c0 := h.cell0
  have H := Lib.hid h
  have Hc := Lib.hid hcut
  have Hs := Lib.hid hs
  have Hk := Lib.hid hok
  clear h hcut hs hok e1 e2 e3
  go_enter Tryz.func58, Tryz.ntmps58
  go_wp2_with fail
  refine (cut_l rest 10 w hr).mono ?_
  rintro e w1 ⟨rfl, x1⟩
  rw [Hc.out]
  have H1 := H.out.ext x1
  have d0 := H1.cell0
  have d1 := H1.cell1
  have d2 := (H1.set0 r).cell1
  have f0 := H1.frozen 0
  have f1 := (H1.set0 r).frozen 1
  clear c0
  have B := Lib.hid (And.intro ((H1.set0 r).set1 (bad || !(ok && en))) (((But.of_ext x1).trans (But.setCell p 0 w1 (vstr r))).trans (But.setCell p 1 _ (.bool (bad || !(ok && en))))))
  clear H1 x1
  go_wp2_with fail
  refine (Tryz.strings_CutPrefix ⟨l.toArray⟩ ⟨word.toArray⟩ w1).mono ?_
  rintro e w2 ⟨rfl, rfl⟩
  rw [show Lib.trimPrefix (⟨l.toArray⟩ : ByteArray).data.toList (⟨word.toArray⟩ : ByteArray).data.toList = s from Hs.out.symm, show Lib.hasPrefix (⟨l.toArray⟩ : ByteArray).data.toList (⟨word.toArray⟩ : ByteArray).data.toList = ok from Hk.out.symm]
  cases bad <;> cases ok <;> cases en <;>
  · go_wp2
    go_ret
    exact ⟨rfl, B.out⟩
end Go.Proofs.YtfkjjhfoncckcaaGreatDoor
