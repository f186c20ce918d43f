/- The pages' lines: plain laws. -/
import Derived.Test.YtfkjjhfoncckcaaGreatDoorYFeeds
namespace Go.Proofs.YtfkjjhfoncckcaaGreatDoor
open Go.RowKit Go.Sort

theorem Cl.esc (s : List UInt8) : Cl (escapeB s) := fun c hc => by
  have := UInt8.le_iff_toNat_le.1 (escapeB_bytes s c hc).1
  simpa using this
theorem digB_cl (i : Nat) : 32 ≤ (digB.getD (i % 16) 0).toNat := by
  have h : i % 16 < 16 := Nat.mod_lt _ (by decide)
  generalize i % 16 = j at h
  have key : ∀ j : Fin 16, 32 ≤ (digB.getD j.val 0).toNat := by decide
  exact key ⟨j, h⟩
theorem Cl.hex (s : List UInt8) : Cl (hexB s) := fun c hc => by
  obtain ⟨b, _, h⟩ := List.mem_flatMap.1 hc
  have e1 : b.toNat / 16 % 16 = b.toNat / 16 := Nat.mod_eq_of_lt (by have := b.toNat_lt; omega)
  have h1 := digB_cl (b.toNat / 16)
  have h2 := digB_cl (b.toNat % 16)
  rw [e1] at h1
  rw [Nat.mod_mod] at h2
  simp only [hex2, List.mem_cons, List.not_mem_nil, or_false] at h
  rcases h with rfl | rfl
  · exact h1
  · exact h2
theorem Cl.dec (u : Nat) : Cl (Lib.decDigits u) := by
  induction u using Nat.strongRecOn with
  | _ u ih =>
    have d : ∀ i, i < 10 → 32 ≤ (UInt8.ofNat (48 + i)).toNat := by decide
    rw [Lib.decDigits]
    split
    · rename_i h
      intro c hc
      simp only [List.mem_singleton] at hc
      subst hc
      exact d u h
    · rename_i h
      refine Cl.append (ih _ (by omega)) fun c hc => ?_
      simp only [List.mem_singleton] at hc
      subst hc
      exact d _ (Nat.mod_lt _ (by decide))
theorem Cl.itoa (n : Int) : Cl (Lib.itoa n) := by
  unfold Lib.itoa
  split
  · intro c hc
    rcases List.mem_cons.1 hc with rfl | hc
    · decide
    · exact Cl.dec _ c hc
  · exact Cl.dec _
theorem Cl.rep (xs : List UInt8) (h : Cl xs) : ∀ n, Cl (Lib.repeatL xs n)
  | 0 => Cl.nil
  | n + 1 => h.append (Cl.rep xs h n)
theorem Cl.entry (id : List UInt8) (vs : List ViewT) : Cl (entryB id vs) := by
  unfold entryB
  exact ((((Cl.of rfl).append (Cl.esc _)).append (Cl.of rfl)).append (Cl.esc _) |>.append (Cl.of rfl)).append (Cl.esc _)
theorem Lns.node (vs : List ViewT) (q : NodeT) : Lns (nodeB vs q) 1 := by
  have hi : Cl (indentB q.depth) := Cl.rep _ (Cl.of rfl) _
  unfold nodeB
  split
  · exact ((hi.append (Cl.of rfl)).append (Cl.esc _)).lns.append .feed
  · exact (hi.append (Cl.entry _ _)).lns.append .feed
theorem Lns.thread (vs : List ViewT) (ns : List NodeT) : Lns (threadB vs ns) ns.length := by
  unfold threadB
  induction ns with
  | nil => exact .nil
  | cons q ns ih =>
    rw [List.map_cons, List.flatten_cons, List.length_cons, Nat.add_comm]
    exact (Lns.node vs q).append ih
theorem Lns.of (E : List UInt8) (n : Nat) (h : Lns E n) (xs : List (List UInt8)) (hx : ∀ x ∈ xs, Cl x) : Lns (putL E xs) (n + 1) := h.line hx
theorem cl2 {a b : List UInt8} (ha : Cl a) (hb : Cl b) : ∀ x ∈ [a, b], Cl x := by
  intro x hx
  simp only [List.mem_cons, List.not_mem_nil, or_false] at hx
  rcases hx with rfl | rfl
  · exact ha
  · exact hb
theorem cl1 {a : List UInt8} (ha : Cl a) : ∀ x ∈ [a], Cl x := by
  intro x hx
  simp only [List.mem_cons, List.not_mem_nil, or_false] at hx
  subst hx
  exact ha
theorem cl3 {a b c : List UInt8} (ha : Cl a) (hb : Cl b) (hc : Cl c) : ∀ x ∈ [a, b, c], Cl x := by
  intro x hx
  simp only [List.mem_cons, List.not_mem_nil, or_false] at hx
  rcases hx with rfl | rfl | rfl
  · exact ha
  · exact hb
  · exact hc
theorem cl4 {a b c d : List UInt8} (ha : Cl a) (hb : Cl b) (hc : Cl c) (hd : Cl d) : ∀ x ∈ [a, b, c, d], Cl x := by
  intro x hx
  simp only [List.mem_cons, List.not_mem_nil, or_false] at hx
  rcases hx with rfl | rfl | rfl | rfl
  · exact ha
  · exact hb
  · exact hc
  · exact hd
theorem cl5 {a b c d e : List UInt8} (ha : Cl a) (hb : Cl b) (hc : Cl c) (hd : Cl d) (he : Cl e) : ∀ x ∈ [a, b, c, d, e], Cl x := by
  intro x hx
  simp only [List.mem_cons, List.not_mem_nil, or_false] at hx
  rcases hx with rfl | rfl | rfl | rfl | rfl
  · exact ha
  · exact hb
  · exact hc
  · exact hd
  · exact he
theorem Cl.foldl (l : List Int) : ∀ a, Cl a → Cl (l.foldl (fun a n => a ++ ([32] ++ Lib.itoa n)) a) := by
  induction l with
  | nil => exact fun _ h => h
  | cons n l ih => exact fun a h => ih _ (h.append ((Cl.of rfl).append (Cl.itoa n)))
theorem Lns.shown (E : List UInt8) (n : Nat) (h : Lns E n) (x : ShownT) : Lns (shownE E x) (n + 1) := by
  unfold shownE
  split
  · exact h.line (cl2 (Cl.of rfl) (Cl.hex _))
  · exact h.line (cl4 (Cl.of rfl) (Cl.hex _) (Cl.of rfl) (Cl.esc _))
theorem Lns.showns (l : List ShownT) : ∀ (E : List UInt8) (n : Nat), Lns E n → Lns (l.foldl shownE E) (n + l.length) := by
  induction l with
  | nil => exact fun _ _ h => h
  | cons x l ih =>
    intro E n h
    rw [List.foldl_cons, List.length_cons, show n + (l.length + 1) = n + 1 + l.length by omega]
    exact ih _ _ (h.shown E n x)
theorem Lns.message (q : ViewT) : Lns (messageB q) (8 + q.lines.length) := by
  have h7 : Lns (headB q) 7 := by
    unfold headB
    refine Lns.line (n := 6) (Lns.line (n := 5) (Lns.line (n := 4) (Lns.line (n := 3) (Lns.line (n := 2) (Lns.line (n := 1) (Lns.line (n := 0) .nil ?_) ?_) ?_) ?_) ?_) ?_) ?_
    · exact cl2 (Cl.of rfl) (Cl.esc _)
    · exact cl2 (Cl.of rfl) (Cl.esc _)
    · exact cl2 (Cl.of rfl) (Cl.esc _)
    · exact cl2 (Cl.of rfl) (Cl.itoa _)
    · exact cl2 (Cl.of rfl) (Cl.itoa _)
    · exact cl1 (Cl.foldl _ _ (Cl.of rfl))
    · exact cl2 (Cl.of rfl) (Cl.hex _)
  unfold messageB
  rw [show 8 + q.lines.length = 7 + q.lines.length + 1 by omega]
  exact Lns.line (Lns.showns _ _ _ h7) (cl1 (Cl.of rfl))
end Go.Proofs.YtfkjjhfoncckcaaGreatDoor
