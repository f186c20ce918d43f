/- ViewEscapes yields true wherever small does. -/
import Derived.Test.YtfkjjhfoncckcaaDoorVLaw
namespace Go.Proofs.YtfkjjhfoncckcaaDoor
open Go.RowKit Go.Sort

theorem clean_esc (s : List UInt8) : ∀ c ∈ escapeB s, cleanC c := by
  intro c hc
  obtain ⟨a0, a1, a2, a3, a4⟩ := escapeB_bytes s c hc
  have key : ∀ n : UInt8, c ≠ n → c.toNat ≠ n.toNat := fun n h e => h (UInt8.toNat_inj.1 e)
  exact ⟨by simpa using UInt8.le_iff_toNat_le.1 a0, by simpa using key 127 a1, by simpa using key 60 a2, by simpa using key 62 a3, by simpa using key 34 a4⟩
theorem plain_esc (s : List UInt8) (h : plainS s = true) : escapeB s = s := by
  refine escapeB_plain s fun c hc => ?_
  have h2 := List.all_eq_true.1 h c hc
  simp only [plainC, Bool.and_eq_true, decide_eq_true_eq] at h2
  obtain ⟨a0, a1, a2, a3, a4, a5⟩ := h2
  exact ⟨UInt8.le_iff_toNat_le.2 (by simpa using a0), fun e => a1 (by rw [e]; rfl), fun e => a2 (by rw [e]; rfl), fun e => a3 (by rw [e]; rfl), fun e => a4 (by rw [e]; rfl), fun e => a5 (by rw [e]; rfl)⟩
theorem law_small (s : List UInt8) (w : World) (hT : Tab w) (hsm : Calls Tryd.prog 4 #[] w fun e w' => e = .returned (.bool true) ∧ Ext w w') :
    Calls Tryd.prog 3 #[vstr s] w fun e w' => e = .returned (.bool true) ∧ Ext w w' := by
  by_cases hs : s.length ≤ 1500
  · exact law_walk s w hT hs (clean_esc s) (unescB_esc s) (plain_esc s) (fun u h => esc_unescB h) hsm
  · exact law_long s w (by omega) hsm
end Go.Proofs.YtfkjjhfoncckcaaDoor
