/- view.Unescape. -/
import Derived.Test.YtfkjjhfoncckcaaGreatDoorVEscape
import Derived.StringKeys
namespace Go.Proofs.YtfkjjhfoncckcaaGreatDoor
open Go.RowKit Go.Sort

theorem unescOne_nil : unescOne [] = none := by decide +kernel
theorem unescF_fuel : ∀ (k : Nat) (s : List UInt8), s.length < k → unescF k s = unescB s := by
  intro k
  induction k using Nat.strongRecOn with
  | ind k ih =>
    intro s hk
    obtain ⟨m, rfl⟩ : ∃ m, k = m + 1 := ⟨k - 1, by omega⟩
    rw [unescB, unescF, unescF]
    by_cases hs : s = []
    · rw [if_pos hs, if_pos hs]
    · rw [if_neg hs, if_neg hs]
      cases hu : unescOne (s.take (pieceLen s)) with
      | none => rfl
      | some c =>
        have hp : pieceLen s ≠ 0 := by
          intro e
          rw [e, List.take_zero, unescOne_nil] at hu
          cases hu
        have hl := List.length_pos_iff.2 hs
        have hd : (s.drop (pieceLen s)).length < s.length := by rw [List.length_drop]; omega
        rw [ih m (by omega) _ (by omega)]
        by_cases hm : s.length = m + 1
        · omega
        · rw [ih s.length (by omega) _ hd]
theorem unescB_step (s : List UInt8) (hs : s ≠ []) : unescB s = match unescOne (s.take (pieceLen s)) with
    | none => none
    | some c => (unescB (s.drop (pieceLen s))).map (c :: ·) := by
  conv => lhs; rw [unescB, unescF, if_neg hs]
  cases hu : unescOne (s.take (pieceLen s)) with
  | none => rfl
  | some c =>
    have hp : pieceLen s ≠ 0 := by
      intro e
      rw [e, List.take_zero, unescOne_nil] at hu
      cases hu
    have hl := List.length_pos_iff.2 hs
    rw [unescF_fuel _ _ (by rw [List.length_drop]; omega)]
theorem pieceLen_le (s : List UInt8) : pieceLen s ≤ s.length := by
  cases s with
  | nil => exact Nat.le_refl _
  | cons c t =>
    rw [pieceLen]
    split
    · split
      · rename_i i hi
        have := (List.findIdx?_eq_some_iff_getElem.1 hi).1
        simp only [List.length_cons] at this ⊢
        omega
      · exact Nat.zero_le _
    · simp
theorem indexByte_find (l : List UInt8) (c : UInt8) : Lib.indexByte l c + 1 = ((match l.findIdx? (· == c) with | some i => i + 1 | none => 0 : Nat) : Int) := by
  induction l with
  | nil => rfl
  | cons x t ih =>
    rw [List.findIdx?_cons, Lib.indexByte]
    cases h : (x == c)
    · cases ht : t.findIdx? (· == c) with
      | none =>
        rw [ht] at ih
        have h1 : Lib.indexByte t c = -1 := by
          have : Lib.indexByte t c + 1 = 0 := ih
          omega
        rw [h1]; rfl
      | some i =>
        rw [ht] at ih
        have h1 : Lib.indexByte t c = i := by
          have : Lib.indexByte t c + 1 = ((i + 1 : Nat) : Int) := ih
          omega
        have h2 : ((i : Int) == -1) = false := by simp only [beq_eq_false_iff_ne, ne_eq]; omega
        rw [h1, h2]
        simp
    · rfl

/-! ### The map of the escapes -/
def escD : Nat → DataW Unit
  | 0 => .map []
  | n + 1 => (escD n).put (.string (escB (UInt8.ofNat n))) (.lit (.int .u8 n))
theorem escD_map : ∀ n, Maps.IsMap (escD n) := by
  intro n
  induction n with
  | zero => exact Maps.isMap_empty
  | succ n ih => exact ih.put _ _
theorem escB_inj {a b : UInt8} (h : escB a = escB b) : a = b := by
  have h1 := (esc_piece a []).2.1
  have h2 := (esc_piece b []).2.1
  rw [h, h2] at h1
  exact (Option.some.inj h1).symm
theorem escD_spec : ∀ n, n ≤ 256 → ∀ (p : List UInt8) (z : DataW Unit),
    (∀ c : Nat, c < n → escB (UInt8.ofNat c) = p → Maps.has (escD n) (.string p) = true ∧ (escD n).atKey (.string p) z = .lit (.int .u8 c)) ∧
    ((∀ c : Nat, c < n → escB (UInt8.ofNat c) ≠ p) → Maps.has (escD n) (.string p) = false ∧ (escD n).atKey (.string p) z = z) := by
  intro n
  induction n with
  | zero => intro _ p z; exact ⟨fun c h => absurd h (Nat.not_lt_zero c), fun _ => ⟨rfl, rfl⟩⟩
  | succ n ih =>
    intro hn p z
    obtain ⟨h1, h2⟩ := ih (by omega) p z
    by_cases hp : escB (UInt8.ofNat n) = p
    · subst hp
      have hs : Maps.has (escD (n + 1)) (.string (escB (UInt8.ofNat n))) = true ∧ (escD (n + 1)).atKey (.string (escB (UInt8.ofNat n))) z = .lit (.int .u8 n) :=
        ⟨Maps.has_put_same (escD_map n) (show WideAt.IsKeyLit (.string _) from trivial) _, Maps.atKey_put_same (escD_map n) (show WideAt.IsKeyLit (.string _) from trivial) _ _⟩
      refine ⟨fun c hc he => ?_, fun h => absurd rfl (h n (by omega))⟩
      have : c = n := by
        have h3 := escB_inj he
        have h4 := congrArg UInt8.toNat h3
        rw [UInt8.toNat_ofNat', UInt8.toNat_ofNat', Nat.mod_eq_of_lt (by omega), Nat.mod_eq_of_lt (by omega)] at h4
        exact h4
      subst this
      exact hs
    · have hne : (Lit.string p) ≠ .string (escB (UInt8.ofNat n)) := fun e => hp (Lit.string.inj e).symm
      have e1 : Maps.has (escD (n + 1)) (.string p) = Maps.has (escD n) (.string p) := Maps.has_put_other hne _
      have e2 : (escD (n + 1)).atKey (.string p) z = (escD n).atKey (.string p) z := Maps.atKey_put_other hne _ _
      rw [e1, e2]
      refine ⟨fun c hc he => ?_, fun h => h2 (fun c hc => h c (by omega))⟩
      by_cases hcn : c = n
      · subst hcn; exact absurd he hp
      · exact h1 c (by omega) he
theorem escD_one (p : List UInt8) (z : DataW Unit) : Maps.has (escD 256) (.string p) = (unescOne p).isSome ∧ (escD 256).atKey (.string p) z = (match unescOne p with | some c => .lit (.int .u8 c.toNat) | none => z) := by
  obtain ⟨h1, h2⟩ := escD_spec 256 (Nat.le_refl _) p z
  cases hu : unescOne p with
  | none =>
    refine h2 (fun c _ e => ?_)
    have := (esc_piece (UInt8.ofNat c) []).2.1
    rw [e, hu] at this
    cases this
  | some c =>
    have he : escB c = p := by simpa using List.find?_some hu
    exact h1 c.toNat c.toNat_lt (by rw [UInt8.ofNat_toNat]; exact he)
abbrev EscAt (b n : Nat) (w : World) : Prop := w.ownsMap Tryz.prog 9 (plainElem Tryz.prog 5) b n (escD n)
theorem str_keyed : Maps.Keyed Tryz.prog 9 := Maps.string_keyed Tryz.underlying9
theorem esc_key (p : List UInt8) (hp : p.length ≤ 1099511627776) : keyOf Tryz.prog 9 (vstr p) = some (.string p) := by
  have := WideMaps.keyOf_string_mk (P := Tryz.prog) (s := ⟨p.toArray⟩) Tryz.underlying9 (by rw [size_mk]; unfold maxLen; omega)
  simpa using this
theorem esc_look (b : Nat) (p : List UInt8) (w : World) (h : EscAt b 256 w) (hp : p.length ≤ 1099511627776) :
    (Instr.lookup 94 (.map (some b)) (vstr p) true).run Tryz.prog w = .ok (.tuple #[.int .u8 (((unescOne p).getD 0).toNat : Nat), .bool (unescOne p).isSome]) w := by
  obtain ⟨v, ps, hrun, hv⟩ := h.look_ok str_keyed Tryz.underlying94 (z := .int .u8 0) (zd := .lit (.int .u8 0)) (zp := []) (Tryz.zeroValue5 w) (plainElem_int Tryz.underlying5 (by decide)) (esc_key p hp)
  obtain ⟨h1, h2⟩ := escD_one p (.lit (.int .u8 0))
  rw [h1] at hrun
  rw [hrun]
  obtain ⟨c, rfl, hc, _⟩ := plainElem_int_inv Tryz.underlying5 hv
  rw [h2] at hc
  have e : c = (((unescOne p).getD 0).toNat : Nat) := by
    cases hu : unescOne p with
    | none => rw [hu] at hc; simp only [Prod.mk.injEq, DataW.lit.injEq, Lit.int.injEq, true_and] at hc; rw [← hc.1]; rfl
    | some x => rw [hu] at hc; simp only [Prod.mk.injEq, DataW.lit.injEq, Lit.int.injEq, true_and] at hc; rw [← hc.1]; rfl
  rw [e]
end Go.Proofs.YtfkjjhfoncckcaaGreatDoor
