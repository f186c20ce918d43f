/- view.escaped. -/
import Derived.Test.YtfkjjhfoncckcaaGreatDoorVNames
namespace Go.Proofs.YtfkjjhfoncckcaaGreatDoor
open Go.RowKit Go.Sort

theorem mk_cat (a b : List UInt8) : (⟨a.toArray⟩ : ByteArray) ++ ⟨b.toArray⟩ = ⟨(a ++ b).toArray⟩ := by rw [ByteArray.mk_append_mk]
theorem nameB_len {c : UInt8} {l : List UInt8} (h : nameB c = some l) : l.length ≤ 6 := by
  unfold nameB at h
  repeat (split at h; · cases h; decide)
  cases h
set_option maxHeartbeats 1000000 in
set_option maxRecDepth 100000 in
theorem escaped_any (b : Nat) (c : UInt8) (w : World) (h : NamesAt b w) (hT : Tab w) :
    Calls Tryz.prog 53 #[.map (some b), .int .u8 c.toNat] w fun e w' => e = .returned (vstr (escB c)) ∧ Ext w w' := by
  have hl := names_look b c w h
  cases hn : nameB c with
  | some l =>
    rw [hn] at hl
    have e : escB c = l := by simp [escB, hn]
    rw [e]
    simp only [Option.getD_some, Option.isSome_some] at hl
    clear hn e h hT
    go_enter Tryz.func53, Tryz.ntmps53
    go_wp2
    go_ret
    exact ⟨rfl, Ext.refl _⟩
  | none =>
    rw [hn] at hl
    simp only [Option.getD_none, Option.isSome_none] at hl
    by_cases h1 : c.toNat < 32 ∨ c.toNat = 127
    · have h1' : c < 32 ∨ c = 127 := by
        rcases h1 with h1 | h1
        · exact .inl (UInt8.lt_iff_toNat_lt.2 h1)
        · exact .inr (UInt8.toNat_inj.1 h1)
      have hi := itoa_byte c h1'
      have e : escB c = [38, 35] ++ dec3 c.toNat ++ [59] := by simp [escB, hn, h1']
      rw [e]
      have hlen := Lib.itoa_length_le (c.toNat : Int) (by omega) (by have := c.toNat_lt; omega)
      rw [hi] at hlen
      have hlt := c.toNat_lt
      have HD := Lib.hid (decimal_any (c.toNat : Int) (by omega) (by omega) w hT)
      rw [hi] at HD
      obtain ⟨d, hd⟩ : ∃ d, d = dec3 c.toNat := ⟨_, rfl⟩
      rw [← hd] at HD hlen ⊢
      have hs1 : 2 + d.length ≤ 9223372036854775807 := by omega
      have hs2 : 2 + d.length + 1 ≤ 9223372036854775807 := by omega
      have key : Hid (((⟨#[38, 35]⟩ : ByteArray) ++ ⟨d.toArray⟩) ++ ⟨#[59]⟩ = ⟨([38, 35] ++ d ++ [59]).toArray⟩) := Lib.hid (by
        rw [show (⟨#[38, 35]⟩ : ByteArray) ++ ⟨d.toArray⟩ = _ from mk_cat [38, 35] d]; exact mk_cat _ [59])
      clear hn hi e hd h h1' hT
      by_cases h3 : c.toNat < 32
      · go_enter Tryz.func53, Tryz.ntmps53
        go_wp2_with (go_at_call 32; refine HD.out.mono ?_; rintro e w' ⟨rfl, x⟩)
        go_ret
        exact ⟨congrArg (fun s => Ending.returned (.string s)) key.out, x⟩
      · have h4 : ((c.toNat : Int) == 127) = true := by simp only [beq_iff_eq]; omega
        go_enter Tryz.func53, Tryz.ntmps53
        go_wp2_with (go_at_call 32; refine HD.out.mono ?_; rintro e w' ⟨rfl, x⟩)
        go_ret
        exact ⟨congrArg (fun s => Ending.returned (.string s)) key.out, x⟩
    · have h1' : ¬ (c < 32 ∨ c = 127) := by
        rintro (h | h)
        · exact h1 (.inl (UInt8.lt_iff_toNat_lt.1 h))
        · exact h1 (.inr (by rw [h]; rfl))
      have e : escB c = [c] := by simp [escB, hn, h1']
      rw [e]
      have d1 : decide ((c.toNat : Int) < 32) = false := by rw [decide_eq_false_iff_not]; omega
      have d2 : ((c.toNat : Int) == 127) = false := by simp only [beq_eq_false_iff_ne, ne_eq]; omega
      have hback := run_convert_bytes_back (P := Tryz.prog) (w.alloc (.cells #[.int .u8 c.toNat] 5)) 68 9 5 ⟨w.heap.size, 0, none⟩ 1 [c] Tryz.underlying68 Tryz.underlying5 Tryz.underlying9
        (fun j hj => by
          obtain rfl : j = 0 := by simpa using hj
          rw [addr_add0, World.cell?_alloc_mark]; rfl)
      simp only [List.length_cons, List.length_nil, Nat.zero_add] at hback
      clear hn e h h1' h1
      go_enter Tryz.func53, Tryz.ntmps53
      go_wp2
      go_ret
      exact ⟨rfl, (Ext.refl _).alloc _⟩
end Go.Proofs.YtfkjjhfoncckcaaGreatDoor
