/- The lines of a page: feeds counts them. -/
import Derived.Test.YtfkjjhfoncckcaaGreatDoorVMessage
namespace Go.Proofs.YtfkjjhfoncckcaaGreatDoor
open Go.RowKit Go.Sort

/-- A text of n lines: n line feeds, and no other byte below 32. -/
def Lns (s : List UInt8) (n : Nat) : Prop := (∀ c ∈ s, c = 10 ∨ 32 ≤ c.toNat) ∧ s.count 10 = n
/-- A text without bytes below 32. -/
def Cl (s : List UInt8) : Prop := ∀ c ∈ s, 32 ≤ c.toNat
theorem Lns.nil : Lns [] 0 := ⟨fun _ h => (by cases h), rfl⟩
theorem Lns.append {a b : List UInt8} {m n : Nat} (h : Lns a m) (k : Lns b n) : Lns (a ++ b) (m + n) :=
  ⟨fun c hc => (List.mem_append.1 hc).elim (h.1 c) (k.1 c), by rw [List.count_append, h.2, k.2]⟩
theorem Cl.lns {s : List UInt8} (h : Cl s) : Lns s 0 :=
  ⟨fun c hc => .inr (h c hc), List.count_eq_zero.2 fun hc => absurd (h 10 hc) (by decide)⟩
theorem Lns.feed : Lns [10] 1 := ⟨fun c hc => .inl (by simpa using hc), rfl⟩
theorem Cl.nil : Cl [] := fun _ h => (by cases h)
theorem Cl.append {a b : List UInt8} (h : Cl a) (k : Cl b) : Cl (a ++ b) := fun c hc => (List.mem_append.1 hc).elim (h c) (k c)
theorem Cl.flatten {xs : List (List UInt8)} (h : ∀ x ∈ xs, Cl x) : Cl xs.flatten := fun c hc => by
  obtain ⟨x, hx, hcx⟩ := List.mem_flatten.1 hc
  exact h x hx c hcx
theorem Lns.line {E : List UInt8} {n : Nat} (h : Lns E n) {xs : List (List UInt8)} (hx : ∀ x ∈ xs, Cl x) : Lns (putL E xs) (n + 1) :=
  (h.append (Cl.flatten hx).lns).append .feed
theorem Cl.of {s : List UInt8} (h : (s.all fun c => decide (32 ≤ c.toNat)) = true) : Cl s := fun c hc => of_decide_eq_true (List.all_eq_true.1 h c hc)

def lnC (c : UInt8) : Nat := if c = 10 then 1 else 0
theorem count_snoc (s : List UInt8) (k : Nat) (h : k < s.length) : (s.take (k + 1)).count 10 = (s.take k).count 10 + lnC s[k] := by
  rw [List.take_succ_eq_append_getElem h, List.count_append, List.count_singleton, lnC]
  by_cases e : s[k] = 10 <;> simp [e]
set_option maxHeartbeats 1000000 in
set_option maxRecDepth 100000 in
theorem feeds_ok (s : List UInt8) (n : Nat) (w : World) (h : Lns s n) (hl : s.length ≤ 1073741824) :
    Calls Tryz.prog 10 #[vstr s] w fun e w' => e = .returned (.int .i64 n) ∧ w' = w := by
  have H := Lib.hid h
  clear h
  go_enter Tryz.func10, Tryz.ntmps10
  go_wp2_with fail
  go_loopw [3, 4] (fun nv iv wr => ∃ k : Nat, k ≤ s.length ∧ iv = .int .i64 k ∧ nv = .int .i64 ((s.take k).count 10 : Nat) ∧ wr = w) (fun _ i _ => s.length - (intOf i).toNat)
  case atStart => exact ⟨0, Nat.zero_le _, rfl, rfl, rfl⟩
  case round =>
    obtain ⟨k, hk, rfl, rfl, rfl⟩ := hrel
    by_cases hlt : k < s.length
    · have hsn := count_snoc s k hlt
      have hg : ((⟨s.toArray⟩ : ByteArray)[k]'hlt) = s[k] := rfl
      have hc := H.out.1 s[k] (List.getElem_mem hlt)
      obtain ⟨c, hcc⟩ : ∃ c, c = s[k] := ⟨_, rfl⟩
      obtain ⟨q, hq⟩ : ∃ q, q = (s.take k).count 10 := ⟨_, rfl⟩
      have hql : q ≤ s.length := by rw [hq]; exact Nat.le_trans List.count_le_length (by simp; omega)
      rw [← hcc, ← hq] at hsn
      rw [← hcc] at hg hc
      rw [← hq]
      have Hsn := Lib.hid hsn
      clear hsn hcc hq
      rcases hc with rfl | hc
      · have z : ((10 : UInt8).toNat : Int) = 10 := rfl
        go_wp2
        go_roundw
        case rel => exact ⟨k + 1, by omega, by go_num, by rw [Hsn.out]; go_num, by first | rfl | trivial⟩
        case measure => simp [intOf]; omega
      · have b0 : ¬ (c.toNat : Int) = 10 := by omega
        have b1 : ¬ (c.toNat : Int) < 32 := by omega
        have hc10 : lnC c = 0 := if_neg fun e => by rw [e] at hc; exact absurd hc (by decide)
        have Hc := Lib.hid hc10
        clear hc hc10
        go_wp2
        go_roundw
        case rel => exact ⟨k + 1, by omega, by go_num, by rw [Hsn.out, Hc.out]; rfl, by first | rfl | trivial⟩
        case measure => simp [intOf]; omega
    · obtain rfl : k = s.length := by omega
      rw [List.take_length, H.out.2]
      go_wp2
      go_ret
      exact ⟨rfl, rfl⟩
end Go.Proofs.YtfkjjhfoncckcaaGreatDoor
