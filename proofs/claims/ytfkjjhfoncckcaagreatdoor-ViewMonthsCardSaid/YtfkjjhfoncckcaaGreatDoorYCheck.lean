/- The law's own bounds: nodes, subs, short. -/
import Derived.Test.YtfkjjhfoncckcaaGreatDoorYFeeds
namespace Go.Proofs.YtfkjjhfoncckcaaGreatDoor
open Go.RowKit Go.Sort

structure SubT where
  list : Int
  addr : List UInt8
  mode : Int
  topic : List UInt8
  since : Int
def SubAt (W : World) (q : SubT) (b o : Nat) : Prop :=
  W.cell? ⟨b, o, none⟩ = some (.int .i64 q.list) ∧ W.cell? ⟨b, o + 1, none⟩ = some (vstr q.addr) ∧ W.cell? ⟨b, o + 2, none⟩ = some (.int .i64 q.mode) ∧ W.cell? ⟨b, o + 3, none⟩ = some (vstr q.topic) ∧ W.cell? ⟨b, o + 4, none⟩ = some (.int .i64 q.since)
theorem SubAt.ext {W W' : World} (x : Ext W W') {q : SubT} {b o : Nat} (h : SubAt W q b o) : SubAt W' q b o := ⟨x.holds h.1, x.holds h.2.1, x.holds h.2.2.1, x.holds h.2.2.2.1, x.holds h.2.2.2.2⟩
def SubsAt (W : World) (qs : List SubT) (v : Value) : Prop := RowAt 5 qs.length (fun i b o => ∀ h : i < qs.length, SubAt W qs[i] b o) v
theorem SubsAt.ext {W W' : World} (x : Ext W W') {qs : List SubT} {v : Value} (h : SubsAt W qs v) : SubsAt W' qs v := RowAt.mono h fun _ _ _ _ k hi => (k hi).ext x
/-- A row of strings. -/
def IdsAt (W : World) (l : List (List UInt8)) (v : Value) : Prop := RowAt 1 l.length (fun i b o => ∀ h : i < l.length, W.cell? ⟨b, o, none⟩ = some (vstr l[i])) v
theorem IdsAt.ext {W W' : World} (x : Ext W W') {l : List (List UInt8)} {v : Value} (h : IdsAt W l v) : IdsAt W' l v := RowAt.mono h fun _ _ _ _ k hi => x.holds (k hi)

def nodeOk (q : NodeT) : Bool := decide (q.id.length ≤ 200)
def nodesOk (l : List NodeT) : Bool := l.all nodeOk && decide (l.length ≤ 12)
def subOk (q : SubT) : Bool := decide (q.addr.length ≤ 200) && decide (q.topic.length ≤ 200)
def subsOk (l : List SubT) : Bool := l.all subOk && decide (l.length ≤ 12)
def idsOk (l : List (List UInt8)) : Bool := l.all (fun s => decide (s.length ≤ 200)) && decide (l.length ≤ 12)
theorem all_bad {α : Type} (f : α → Bool) (l : List α) (k : Nat) (hk : k < l.length) (h : f l[k] = false) : l.all f = false := by
  rw [← Bool.not_eq_true]
  intro e
  rw [List.all_eq_true.1 e l[k] (List.getElem_mem hk)] at h
  cases h
theorem all_good {α : Type} (f : α → Bool) (l : List α) (h : ∀ k (hk : k < l.length), f l[k] = true) : l.all f = true := by
  refine List.all_eq_true.2 fun x hx => ?_
  obtain ⟨j, hj, rfl⟩ := List.getElem_of_mem hx
  exact h j hj

set_option maxHeartbeats 1000000 in
set_option maxRecDepth 100000 in
theorem nodes_chk (l : List NodeT) (v : Value) (w : World) (h : NodesAt w l v) (hl : l.length ≤ 9223372036854775807) :
    Calls Tryz.prog 7 #[v] w fun e w' => e = .returned (.bool (nodesOk l)) ∧ w' = w := by
  obtain ⟨a, c, rfl, hc, hr⟩ := h
  have Hr := Lib.hid hr
  clear hr
  go_enter Tryz.func7, Tryz.ntmps7
  go_wp2_with fail
  go_loopw [3] (fun iv wr => ∃ k : Nat, k ≤ l.length ∧ iv = .int .i64 k ∧ (∀ j (hj : j < l.length), j < k → nodeOk l[j] = true) ∧ wr = w) (fun i _ => l.length - (intOf i).toNat)
  case atStart => exact ⟨0, Nat.zero_le _, rfl, fun j _ hj => absurd hj (Nat.not_lt_zero _), rfl⟩
  case round =>
    obtain ⟨k, hk, rfl, hp, rfl⟩ := hrel
    have Hp := Lib.hid hp
    clear hp
    by_cases hlt : k < l.length
    · rcases Hr.out with h0 | ⟨b, o, ha, hrow⟩
      · omega
      subst ha
      have hcell := (hrow k hlt hlt).1
      clear hrow
      by_cases hb : l[k].id.length ≤ 200
      · have hi : ¬ (200 : Int) < l[k].id.length := by omega
        have hok : Hid (nodeOk l[k] = true) := Lib.hid (decide_eq_true hb)
        clear hb
        go_wp2
        go_roundw
        case rel => exact ⟨k + 1, by omega, by go_num, fun j hj hjk => by
          by_cases e : j = k
          · subst e; exact hok.out
          · exact Hp.out j hj (by omega), by first | rfl | trivial⟩
        case measure => simp [intOf]; omega
      · have hi : (200 : Int) < l[k].id.length := by omega
        have hok : Hid (nodesOk l = false) := Lib.hid (by rw [nodesOk, all_bad nodeOk l k hlt (decide_eq_false hb)]; rfl)
        clear hb
        go_wp2
        go_ret
        exact ⟨by rw [hok.out]; rfl, rfl⟩
    · obtain rfl : k = l.length := by omega
      have hok : Hid (l.all nodeOk = true) := Lib.hid (all_good nodeOk l fun j hj => Hp.out j hj hj)
      go_wp2
      go_ret
      refine ⟨ret_bool ?_, rfl⟩
      rw [nodesOk, hok.out, Bool.true_and, decide_eq_decide]
      omega
set_option maxHeartbeats 1000000 in
set_option maxRecDepth 100000 in
theorem subs_chk (l : List SubT) (v : Value) (w : World) (h : SubsAt w l v) (hl : l.length ≤ 9223372036854775807) :
    Calls Tryz.prog 8 #[v] w fun e w' => e = .returned (.bool (subsOk l)) ∧ w' = w := by
  obtain ⟨a, c, rfl, hc, hr⟩ := h
  have Hr := Lib.hid hr
  clear hr
  go_enter Tryz.func8, Tryz.ntmps8
  go_wp2_with fail
  go_loopw [3] (fun iv wr => ∃ k : Nat, k ≤ l.length ∧ iv = .int .i64 k ∧ (∀ j (hj : j < l.length), j < k → subOk l[j] = true) ∧ wr = w) (fun i _ => l.length - (intOf i).toNat)
  case atStart => exact ⟨0, Nat.zero_le _, rfl, fun j _ hj => absurd hj (Nat.not_lt_zero _), rfl⟩
  case round =>
    obtain ⟨k, hk, rfl, hp, rfl⟩ := hrel
    have Hp := Lib.hid hp
    clear hp
    by_cases hlt : k < l.length
    · rcases Hr.out with h0 | ⟨b, o, ha, hrow⟩
      · omega
      subst ha
      obtain ⟨_, h1, _, h3, _⟩ := hrow k hlt hlt
      clear hrow
      by_cases hb : l[k].addr.length ≤ 200
      · have hi : ¬ (200 : Int) < l[k].addr.length := by omega
        by_cases hb2 : l[k].topic.length ≤ 200
        · have hi2 : ¬ (200 : Int) < l[k].topic.length := by omega
          have hok : Hid (subOk l[k] = true) := Lib.hid (by rw [subOk, decide_eq_true hb, decide_eq_true hb2]; rfl)
          clear hb hb2
          go_wp2
          go_roundw
          case rel => exact ⟨k + 1, by omega, by go_num, fun j hj hjk => by
            by_cases e : j = k
            · subst e; exact hok.out
            · exact Hp.out j hj (by omega), by first | rfl | trivial⟩
          case measure => simp [intOf]; omega
        · have hi2 : (200 : Int) < l[k].topic.length := by omega
          have hok : Hid (subsOk l = false) := Lib.hid (by rw [subsOk, all_bad subOk l k hlt (by rw [subOk, decide_eq_false hb2, Bool.and_false])]; rfl)
          clear hb hb2
          go_wp2
          go_ret
          exact ⟨by rw [hok.out]; rfl, rfl⟩
      · have hi : (200 : Int) < l[k].addr.length := by omega
        have hok : Hid (subsOk l = false) := Lib.hid (by rw [subsOk, all_bad subOk l k hlt (by rw [subOk, decide_eq_false hb, Bool.false_and])]; rfl)
        clear hb
        go_wp2
        go_ret
        exact ⟨by rw [hok.out]; rfl, rfl⟩
    · obtain rfl : k = l.length := by omega
      have hok : Hid (l.all subOk = true) := Lib.hid (all_good subOk l fun j hj => Hp.out j hj hj)
      go_wp2
      go_ret
      refine ⟨ret_bool ?_, rfl⟩
      rw [subsOk, hok.out, Bool.true_and, decide_eq_decide]
      omega
set_option maxHeartbeats 1000000 in
set_option maxRecDepth 100000 in
theorem ids_chk (l : List (List UInt8)) (v : Value) (w : World) (h : IdsAt w l v) (hl : l.length ≤ 9223372036854775807) :
    Calls Tryz.prog 9 #[v] w fun e w' => e = .returned (.bool (idsOk l)) ∧ w' = w := by
  obtain ⟨a, c, rfl, hc, hr⟩ := h
  have Hr := Lib.hid hr
  clear hr
  go_enter Tryz.func9, Tryz.ntmps9
  go_wp2_with fail
  go_loopw [3] (fun iv wr => ∃ k : Nat, k ≤ l.length ∧ iv = .int .i64 k ∧ (∀ j (hj : j < l.length), j < k → decide (l[j].length ≤ 200) = true) ∧ wr = w) (fun i _ => l.length - (intOf i).toNat)
  case atStart => exact ⟨0, Nat.zero_le _, rfl, fun j _ hj => absurd hj (Nat.not_lt_zero _), rfl⟩
  case round =>
    obtain ⟨k, hk, rfl, hp, rfl⟩ := hrel
    have Hp := Lib.hid hp
    clear hp
    by_cases hlt : k < l.length
    · rcases Hr.out with h0 | ⟨b, o, ha, hrow⟩
      · omega
      subst ha
      have hcell := hrow k hlt hlt
      rw [Nat.mul_one] at hcell
      clear hrow
      by_cases hb : l[k].length ≤ 200
      · have hi : ¬ (200 : Int) < l[k].length := by omega
        have hok : Hid (decide (l[k].length ≤ 200) = true) := Lib.hid (decide_eq_true hb)
        clear hb
        go_wp2
        go_roundw
        case rel => exact ⟨k + 1, by omega, by go_num, fun j hj hjk => by
          by_cases e : j = k
          · subst e; exact hok.out
          · exact Hp.out j hj (by omega), by first | rfl | trivial⟩
        case measure => simp [intOf]; omega
      · have hi : (200 : Int) < l[k].length := by omega
        have hok : Hid (idsOk l = false) := Lib.hid (by rw [idsOk, all_bad _ l k hlt (decide_eq_false hb)]; rfl)
        clear hb
        go_wp2
        go_ret
        exact ⟨by rw [hok.out]; rfl, rfl⟩
    · obtain rfl : k = l.length := by omega
      have hok : Hid (l.all (fun s => decide (s.length ≤ 200)) = true) := Lib.hid (all_good _ l fun j hj => Hp.out j hj hj)
      go_wp2
      go_ret
      refine ⟨ret_bool ?_, rfl⟩
      rw [idsOk, hok.out, Bool.true_and, decide_eq_decide]
      omega
end Go.Proofs.YtfkjjhfoncckcaaGreatDoor
