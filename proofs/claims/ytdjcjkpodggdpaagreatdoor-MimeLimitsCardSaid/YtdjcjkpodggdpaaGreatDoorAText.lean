/- Contracts of package text: mapped, Lower, Upper, Same: each is the pure function on bytes; nothing that existed changes. -/
import Derived.Test.YtdjcjkpodggdpaaGreatDoorBase
namespace Go.Proofs.YtdjcjkpodggdpaaGreatDoor
open Go.RowKit

/-- One byte of mapped. -/
def shiftB (lo hi : UInt8) (d : Int) (c : UInt8) : UInt8 := if lo ≤ c ∧ c ≤ hi then UInt8.ofNat (((c.toNat : Int) + d) % 256).toNat else c

theorem shiftB_hit {lo hi : UInt8} {d : Int} {c : UInt8} (h1 : lo.toNat ≤ c.toNat) (h2 : c.toNat ≤ hi.toNat) (hd : -256 ≤ d) (hd' : d ≤ 256) :
    (Value.int .u8 (wrap64 (wrap64 (c.toNat : Int) + d) % 256)) = .int .u8 ((shiftB lo hi d c).toNat : Int) := by
  have h1' : lo ≤ c := by rw [UInt8.le_iff_toNat_le]; omega
  have h2' : c ≤ hi := by rw [UInt8.le_iff_toNat_le]; omega
  have hc := c.toNat_lt
  have e1 : wrap64 (c.toNat : Int) = c.toNat := IntWalk.wrap64_in _ (by omega)
  have e2 : wrap64 ((c.toNat : Int) + d) = (c.toNat : Int) + d := IntWalk.wrap64_in _ (by omega)
  rw [e1, e2, shiftB, if_pos ⟨h1', h2'⟩, UInt8.toNat_ofNat']
  congr 1
  omega
theorem shiftB_low {lo hi : UInt8} {d : Int} {c : UInt8} (h : ¬ lo.toNat ≤ c.toNat) : shiftB lo hi d c = c := by
  unfold shiftB
  rw [if_neg]
  rintro ⟨h1, _⟩
  rw [UInt8.le_iff_toNat_le] at h1
  omega
theorem shiftB_high {lo hi : UInt8} {d : Int} {c : UInt8} (h : ¬ c.toNat ≤ hi.toNat) : shiftB lo hi d c = c := by
  unfold shiftB
  rw [if_neg]
  rintro ⟨_, h1⟩
  rw [UInt8.le_iff_toNat_le] at h1
  omega
theorem map_step_set (f : UInt8 → UInt8) (l : List UInt8) (k : Nat) (h : k < l.length) :
    ((l.take k).map f ++ l.drop k).set k (f l[k]) = (l.take (k + 1)).map f ++ l.drop (k + 1) := by
  rw [List.take_succ_eq_append_getElem h, List.drop_eq_getElem_cons h]
  rw [List.set_append_right _ _ (by simp; omega)]
  simp only [List.length_map, List.length_take, Nat.min_eq_left (Nat.le_of_lt h), Nat.sub_self, List.set_cons_zero, List.map_append, List.map_cons, List.map_nil, List.append_assoc, List.singleton_append]
theorem map_step_same (f : UInt8 → UInt8) (l : List UInt8) (k : Nat) (h : k < l.length) (e : f l[k] = l[k]) :
    (l.take k).map f ++ l.drop k = (l.take (k + 1)).map f ++ l.drop (k + 1) := by
  rw [List.take_succ_eq_append_getElem h, List.drop_eq_getElem_cons h]
  simp only [e, List.map_append, List.map_cons, List.map_nil, List.append_assoc, List.singleton_append]
theorem at_step (f : UInt8 → UInt8) (l : List UInt8) (k : Nat) (h : k < l.length) (h' : k < ((l.take k).map f ++ l.drop k).length) : ((l.take k).map f ++ l.drop k)[k] = l[k] := by
  rw [List.getElem_append_right (by simp; omega)]
  simp only [List.length_map, List.length_take, Nat.min_eq_left (Nat.le_of_lt h), Nat.sub_self, List.getElem_drop, Nat.add_zero]

theorem mapped_any (s : ByteArray) (lo hi : UInt8) (d : Int) (w : World) (hs : s.size ≤ maxLen) (hd : -256 ≤ d) (hd' : d ≤ 256) :
    Calls Tryz.prog 39 #[.string s, .int .u8 lo.toNat, .int .u8 hi.toNat, .int .i64 d] w fun e w' =>
      e = .returned (.string ⟨(s.data.toList.map (shiftB lo hi d)).toArray⟩) ∧ Ext w w' := by
  have hconv := run_bytes_of_string (P := Tryz.prog) w 9 84 5 s Tryz.underlying9 Tryz.underlying84 Tryz.underlying5
  unfold maxLen at hs
  have hsz : s.data.toList.length = s.size := by rw [Array.length_toList]; rfl
  have Hs := Lib.hid hsz
  clear hsz
  go_enter Tryz.func39, Tryz.ntmps39
  go_wp2
  clear hconv
  go_loopw [10, 11, 16] (fun _ _ i wr => ∃ k : Nat, k ≤ s.size ∧ i = .int .i64 k ∧ BufAt wr w.heap.size ((s.data.toList.take k).map (shiftB lo hi d) ++ s.data.toList.drop k) ∧ Ext w wr)
    (fun _ _ i _ => s.size - (intOf i).toNat)
  case atStart =>
    refine ⟨0, Nat.zero_le _, rfl, ⟨by show w.heap.size < (w.alloc _).heap.size; rw [World.size_alloc]; omega, fun j hj => ?_⟩, ((Ext.refl w).alloc _).drew⟩
    have hj' : j < s.data.size := by simp only [List.take_zero, List.map_nil, List.drop_zero, List.nil_append, Array.length_toList] at hj; exact hj
    refine ⟨?_, ?_⟩
    · rw [World.cell?_drew, World.cell?_alloc_mark, bytesRow_at _ _ _ hj']
      simp
    · rw [World.frozen?_drew, World.frozen?_alloc_mark]
      have : (bytesRow s (grownCap w s.size 0 5)).size ≥ s.data.size := by simp [bytesRow]
      simp; omega
  case round =>
    obtain ⟨k, hk, rfl, hbuf, hbel⟩ := hrel
    by_cases hlt : k < s.size
    · have hl : k < s.data.toList.length := by rw [Hs.out]; exact hlt
      obtain ⟨hc1, hc2⟩ := hbuf.2 k (by simp; omega)
      rw [at_step _ _ _ hl, Array.getElem_toList] at hc1
      have HB := Lib.hid hbuf
      clear hbuf
      go_wp2
      · have h1 : lo.toNat ≤ s.data[k].toNat := by assumption
        have h2 : s.data[k].toNat ≤ hi.toNat := by assumption
        go_roundw
        case rel =>
          have E := shiftB_hit h1 h2 hd hd'
          rw [E]
          have hb := HB.out.set k (shiftB lo hi d s.data[k])
          have hm := map_step_set (shiftB lo hi d) s.data.toList k hl
          rw [Array.getElem_toList] at hm
          rw [hm] at hb
          exact ⟨k + 1, by omega, by go_num, hb, hbel.setCell (p := ⟨w.heap.size, k, none⟩) (Nat.le_refl _) _⟩
        case measure => simp [intOf]; omega
      · have h1 : ¬ s.data[k].toNat ≤ hi.toNat := by assumption
        go_roundw
        case rel =>
          exact ⟨k + 1, by omega, by go_num, by rw [← map_step_same _ _ _ hl (by rw [Array.getElem_toList]; exact shiftB_high h1)]; exact HB.out, hbel⟩
        case measure => simp [intOf]; omega
      · have h1 : ¬ lo.toNat ≤ s.data[k].toNat := by assumption
        go_roundw
        case rel =>
          exact ⟨k + 1, by omega, by go_num, by rw [← map_step_same _ _ _ hl (by rw [Array.getElem_toList]; exact shiftB_low h1)]; exact HB.out, hbel⟩
        case measure => simp [intOf]; omega
    · obtain rfl : k = s.size := by omega
      have hl : ((s.data.toList.take s.size).map (shiftB lo hi d) ++ s.data.toList.drop s.size) = s.data.toList.map (shiftB lo hi d) := by
        rw [List.take_of_length_le (Nat.le_of_eq Hs.out), List.drop_of_length_le (Nat.le_of_eq Hs.out), List.append_nil]
      rw [hl] at hbuf
      have hback := run_convert_bytes_back (P := Tryz.prog) wr 84 9 5 ⟨w.heap.size, 0, none⟩ (grownCap w s.size 0 5) (s.data.toList.map (shiftB lo hi d))
        Tryz.underlying84 Tryz.underlying5 Tryz.underlying9 (fun j hj => by rw [addr_add0]; exact (hbuf.2 j hj).1)
      rw [List.length_map, Hs.out] at hback
      clear hbuf hl
      go_wp2
      go_ret
      exact ⟨rfl, hbel⟩

/-- Lower case. -/
def lowerB (l : List UInt8) : List UInt8 := l.map (shiftB 65 90 32)
def upperB (l : List UInt8) : List UInt8 := l.map (shiftB 97 122 (-32))

theorem lower_any (s : ByteArray) (w : World) (hs : s.size ≤ maxLen) :
    Calls Tryz.prog 19 #[.string s] w fun e w' => e = .returned (vstr (lowerB s.data.toList)) ∧ Ext w w' := by
  go_enter Tryz.func19, Tryz.ntmps19
  go_wp2_with (go_at_call 39; refine (mapped_any s 65 90 32 _ hs (by omega) (by omega)).mono ?_; rintro e w' ⟨rfl, hb⟩)
  go_ret
  exact ⟨rfl, hb⟩
theorem upper_any (s : ByteArray) (w : World) (hs : s.size ≤ maxLen) :
    Calls Tryz.prog 91 #[.string s] w fun e w' => e = .returned (vstr (upperB s.data.toList)) ∧ Ext w w' := by
  go_enter Tryz.func91, Tryz.ntmps91
  go_wp2_with (go_at_call 39; refine (mapped_any s 97 122 (-32) _ hs (by omega) (by omega)).mono ?_; rintro e w' ⟨rfl, hb⟩)
  go_ret
  exact ⟨rfl, hb⟩
/-- Equal but for the case of letters. -/
def sameB (a b : List UInt8) : Bool := lowerB a == lowerB b
theorem lowerB_length (l : List UInt8) : (lowerB l).length = l.length := by simp [lowerB]
theorem same_any (s t : ByteArray) (w : World) (hs : s.size ≤ maxLen) (ht : t.size ≤ maxLen) :
    Calls Tryz.prog 30 #[.string s, .string t] w fun e w' => e = .returned (.bool (sameB s.data.toList t.data.toList)) ∧ Ext w w' := by
  by_cases hl : s.size = t.size
  · have hb : ((s.size : Int) == (t.size : Int)) = true := by simp [hl]
    have Hl := Lib.hid hl
    clear hl
    go_enter Tryz.func30, Tryz.ntmps30
    go_wp2_with fail
    refine (lower_any s _ hs).mono ?_
    rintro e w1 ⟨rfl, h1⟩
    go_wp2_with fail
    refine (lower_any t _ ht).mono ?_
    rintro e w2 ⟨rfl, h2⟩
    go_wp2
    go_ret
    exact ⟨rfl, h1.trans h2⟩
  · have hb : ((s.size : Int) == (t.size : Int)) = false := by simp; omega
    have Hl := Lib.hid hl
    clear hl
    go_enter Tryz.func30, Tryz.ntmps30
    go_wp2_with fail
    go_ret
    refine ⟨ret_bool ?_, Ext.refl _⟩
    rw [sameB, Eq.comm, beq_eq_false_iff_ne]
    intro h
    have := congrArg List.length h
    rw [lowerB_length, lowerB_length, len_toList, len_toList] at this
    exact Hl.out this
#print axioms same_any
end Go.Proofs.YtdjcjkpodggdpaaGreatDoor
