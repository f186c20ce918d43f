/- Escapes of package view: plain laws. -/
import Derived.KernelRfl
import Derived.Lib.Itoa
import Derived.Lib.ItoaNum
namespace Go.Proofs.YtfkjjhfoncckcaaGreatDoor

/-- The numeral of a byte. -/
def dec3 (n : Nat) : List UInt8 :=
  if n < 10 then [UInt8.ofNat (48 + n)] else if n < 100 then [UInt8.ofNat (48 + n / 10), UInt8.ofNat (48 + n % 10)] else [UInt8.ofNat (48 + n / 100), UInt8.ofNat (48 + n / 10 % 10), UInt8.ofNat (48 + n % 10)]
def nameB (c : UInt8) : Option (List UInt8) :=
  if c = 38 then some [38, 97, 109, 112, 59] else if c = 60 then some [38, 108, 116, 59] else if c = 62 then some [38, 103, 116, 59] else if c = 34 then some [38, 113, 117, 111, 116, 59] else none
/-- The escape of a byte. -/
def escB (c : UInt8) : List UInt8 :=
  match nameB c with
  | some l => l
  | none => if c < 32 ∨ c = 127 then [38, 35] ++ dec3 c.toNat ++ [59] else [c]
def escapeB (s : List UInt8) : List UInt8 := s.flatMap escB
/-- The bytes. -/
def all256 : List UInt8 := (List.range 256).map UInt8.ofNat
theorem mem_all256 (c : UInt8) : c ∈ all256 := by
  refine List.mem_map.2 ⟨c.toNat, List.mem_range.2 c.toNat_lt, ?_⟩
  exact UInt8.ofNat_toNat
/-- The byte whose escape a string is. -/
def unescOne (p : List UInt8) : Option UInt8 := all256.find? (fun c => escB c == p)
/-- How many bytes the next escape has. -/
def pieceLen : List UInt8 → Nat
  | [] => 0
  | c :: t => if c = 38 then (match (c :: t).findIdx? (· == 59) with | some i => i + 1 | none => 0) else 1
def unescF : Nat → List UInt8 → Option (List UInt8)
  | 0, _ => none
  | k + 1, s => if s = [] then some [] else match unescOne (s.take (pieceLen s)) with
    | none => none
    | some c => (unescF k (s.drop (pieceLen s))).map (c :: ·)
def unescB (s : List UInt8) : Option (List UInt8) := unescF (s.length + 1) s

def escOk (c : UInt8) : Bool := match escB c with
  | [] => false
  | x :: t => (if x = 38 then (x :: t).findIdx? (· == 59) == some t.length else t.isEmpty) && (unescOne (x :: t) == some c) && (x :: t).all (fun b => decide (32 ≤ b) && b != 127 && b != 60 && b != 62 && b != 34)
theorem escOk_all : all256.all escOk = true := by decide +kernel
theorem escOk_any (c : UInt8) : escOk c = true := List.all_eq_true.1 escOk_all c (mem_all256 c)
theorem esc_piece (c : UInt8) (rest : List UInt8) : pieceLen (escB c ++ rest) = (escB c).length ∧ unescOne (escB c) = some c ∧ escB c ≠ [] ∧ ∀ b ∈ escB c, 32 ≤ b ∧ b ≠ 127 ∧ b ≠ 60 ∧ b ≠ 62 ∧ b ≠ 34 := by
  have h := escOk_any c
  unfold escOk at h
  cases hx : escB c with
  | nil => rw [hx] at h; cases h
  | cons x t =>
    rw [hx] at h
    simp only [Bool.and_eq_true] at h
    obtain ⟨⟨h1, h2⟩, h3⟩ := h
    refine ⟨?_, by simpa using h2, by simp, ?_⟩
    · rw [List.cons_append, pieceLen]
      by_cases e : x = 38
      · rw [if_pos e] at h1 ⊢
        have h1' : (x :: t).findIdx? (· == 59) = some t.length := by simpa using h1
        have : (x :: (t ++ rest)).findIdx? (· == 59) = some t.length := by
          rw [← List.cons_append, List.findIdx?_append, h1']; rfl
        rw [this]; rfl
      · rw [if_neg e] at h1 ⊢
        have : t = [] := by simpa using h1
        subst this; rfl
    · intro b hb
      have := List.all_eq_true.1 h3 b hb
      simpa [and_assoc] using this
theorem unescF_esc : ∀ (s : List UInt8) (k : Nat), s.length < k → unescF k (escapeB s) = some s := by
  intro s
  induction s with
  | nil => intro k hk; obtain ⟨m, rfl⟩ : ∃ m, k = m + 1 := ⟨k - 1, by simp at hk; omega⟩; simp [unescF, escapeB]
  | cons c s ih =>
    intro k hk
    obtain ⟨m, rfl⟩ : ∃ m, k = m + 1 := ⟨k - 1, by simp at hk; omega⟩
    obtain ⟨h1, h2, h3, _⟩ := esc_piece c (escapeB s)
    have e : escapeB (c :: s) = escB c ++ escapeB s := by simp [escapeB]
    rw [e, unescF, if_neg (by simp [h3]), h1, List.take_left, List.drop_left, h2]
    simp only [ih m (by simpa using hk), Option.map_some]
theorem escapeB_len (s : List UInt8) : s.length ≤ (escapeB s).length := by
  induction s with
  | nil => simp [escapeB]
  | cons c s ih =>
    have e : escapeB (c :: s) = escB c ++ escapeB s := by simp [escapeB]
    have := List.length_pos_iff.2 (esc_piece c []).2.2.1
    rw [e, List.length_append, List.length_cons]
    omega
theorem unescB_esc (s : List UInt8) : unescB (escapeB s) = some s := unescF_esc s _ (by have := escapeB_len s; omega)
theorem esc_unescF : ∀ (k : Nat) (s u : List UInt8), unescF k s = some u → escapeB u = s := by
  intro k
  induction k with
  | zero => intro s u h; cases h
  | succ k ih =>
    intro s u h
    rw [unescF] at h
    split at h
    · rename_i hs; cases h; rw [hs]; rfl
    · split at h
      · cases h
      · rename_i c hc
        cases hr : unescF k (s.drop (pieceLen s)) with
        | none => rw [hr] at h; cases h
        | some r =>
          rw [hr] at h
          cases h
          have h1 := ih _ _ hr
          have h2 : escB c = s.take (pieceLen s) := by simpa using List.find?_some hc
          have e : escapeB (c :: r) = escB c ++ escapeB r := by simp [escapeB]
          rw [e, h1, h2, List.take_append_drop]
theorem esc_unescB {s u : List UInt8} (h : unescB s = some u) : escapeB u = s := esc_unescF _ s u h
theorem escapeB_bytes (s : List UInt8) : ∀ b ∈ escapeB s, 32 ≤ b ∧ b ≠ 127 ∧ b ≠ 60 ∧ b ≠ 62 ∧ b ≠ 34 := by
  intro b hb
  obtain ⟨c, _, h⟩ := List.mem_flatMap.1 hb
  exact (esc_piece c []).2.2.2 b h
theorem escapeB_plain : ∀ s : List UInt8, (∀ c ∈ s, 32 ≤ c ∧ c ≠ 127 ∧ c ≠ 38 ∧ c ≠ 60 ∧ c ≠ 62 ∧ c ≠ 34) → escapeB s = s := by
  intro s
  induction s with
  | nil => intro _; rfl
  | cons c s ih =>
    intro h
    obtain ⟨h1, h2, h3, h4, h5, h6⟩ := h c (by simp)
    have e : escapeB (c :: s) = escB c ++ escapeB s := by simp [escapeB]
    have h7 : ¬ (c < 32 ∨ c = 127) := by
      rintro (h | h)
      · exact absurd h1 (UInt8.not_le.2 h)
      · exact h2 h
    rw [e, ih (fun x hx => h x (by simp [hx])), escB]
    simp [nameB, h3, h4, h5, h6, h7]
end Go.Proofs.YtfkjjhfoncckcaaGreatDoor
