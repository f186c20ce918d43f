/- Contracts of package header: names, tokens, fields by name. -/
import Derived.Test.YtdjcjkpodggdpaaGreatDoorALib
namespace Go.Proofs.YtdjcjkpodggdpaaGreatDoor
open Go.RowKit

/-- A field name. -/
def namedB (l : List UInt8) : Bool := !l.isEmpty && decide (l.length ≤ 200) && printB l && !l.contains 58

theorem empty_toList {s : ByteArray} (h : s.data.toList = []) : s = ⟨#[]⟩ := by
  have : s = ⟨s.data.toList.toArray⟩ := rfl
  rw [this, h]

theorem named_any (s : ByteArray) (w : World) (hs : s.size ≤ maxLen) :
    Calls Tryz.prog 29 #[.string s] w fun e w' => e = .returned (.bool (namedB s.data.toList)) ∧ Ext w w' := by
  by_cases he : s.data.toList = []
  · obtain rfl := empty_toList he
    go_enter Tryz.func29, Tryz.ntmps29
    go_wp2
    go_ret
    exact ⟨rfl, Ext.refl _⟩
  · have hne : s.toList.isEmpty = false := by rw [Lib.toList_data]; simpa using he
    have hne' : s.data.toList.isEmpty = false := by simpa using he
    by_cases hl : s.size ≤ 200
    · go_enter Tryz.func29, Tryz.ntmps29
      by_cases hp : printB s.data.toList = true
      · go_wp2_with (first | (go_at_call 52; refine (printable_any s _).mono ?_; rintro e w1 ⟨rfl, h1⟩) | (go_at_call 53; refine (Tryz.strings_Contains_one s 58 _).mono ?_; rintro e w2 ⟨rfl, rfl⟩))
        go_ret
        refine ⟨ret_bool ?_, h1⟩
        rw [← Lib.contains_iff_indexByte]
        simp [namedB, hne', hp, hl, len_toList]
      · have hp' : printB s.data.toList = false := by simpa using hp
        clear hp
        go_wp2_with (go_at_call 52; refine (printable_any s _).mono ?_; rintro e w1 ⟨rfl, h1⟩)
        go_ret
        exact ⟨ret_bool (by simp [namedB, hp']), h1⟩
    · go_enter Tryz.func29, Tryz.ntmps29
      go_wp2
      go_ret
      exact ⟨ret_bool (by simp [namedB, hl, len_toList]), Ext.refl _⟩

/-- The index of the first pair with a property, or -1. -/
def idxP {α : Type} (p : α → Bool) (l : List α) : Int := match l.findIdx? p with | some i => i | none => -1

theorem indexFunc_fields (g : Nat) (lb : Array Value) (eg : ∀ args w, (callFunc g args).run Tryz.prog w = .ok (.enter g args) w) (p : List UInt8 × List UInt8 → Bool)
    (l : List (List UInt8 × List UInt8)) (v : Value) (w : World) (hv : PairsAt w v l) (hl : l.length ≤ maxLen)
    (hf : ∀ (W : World) (x), x ∈ l → Ext w W → Calls Tryz.prog g (#[.agg #[vstr x.1, vstr x.2]] ++ lb) W fun e w' => e = .returned (.bool (p x)) ∧ Ext W w') :
    Calls Tryz.prog 31 #[v, .func (.func g) #[] lb] w fun e w' => e = .returned (.int .i64 (idxP p l)) ∧ Ext w w' := by
  rcases hv with ⟨rfl, a, c, rfl⟩ | ⟨hne, b, o, c, rfl, hc, hcells⟩
  · go_enter Tryz.func31, Tryz.ntmps31
    go_wp2
    refine wp_loop_rounds 1 ?_
    rw [rounds_succ]
    go_wp2
    go_ret
    exact ⟨rfl, Ext.refl _⟩
  · unfold maxLen at hl
    go_enter Tryz.func31, Tryz.ntmps31
    go_wp2
    go_loopw [5, 8] (fun _ i wr => ∃ k : Nat, k ≤ l.length ∧ i = .int .i64 k ∧ (∀ j (hj : j < l.length), j < k → p l[j] = false) ∧ Ext w wr) (fun _ i _ => l.length - (intOf i).toNat)
    case atStart => exact ⟨0, Nat.zero_le _, rfl, fun j _ hj => absurd hj (Nat.not_lt_zero _), Ext.refl w⟩
    case round =>
      obtain ⟨k, hk, rfl, hp, hx⟩ := hrel
      by_cases hlt : k < l.length
      · obtain ⟨hc1, hc2⟩ := hcells k hlt
        have hd1 := hx.holds hc1
        have hd2 := hx.holds hc2
        have Hp := Lib.hid hp
        have Hf := Lib.hid hf
        have Hc := Lib.hid hcells
        clear hp hf hcells hc1 hc2
        go_wp2_with fail
        have hc := Hf.out wr l[k] (List.getElem_mem hlt) hx
        by_cases hpk : p l[k] = true
        · refine (hc.mono ?_)
          rintro e w1 ⟨rfl, h1⟩
          rw [hpk]
          go_wp2
          go_ret
          refine ⟨ret_int ?_, hx.trans h1⟩
          rw [idxP, List.findIdx?_eq_some_iff_getElem.2 ⟨hlt, hpk, fun j hj => by simpa using Hp.out j (by omega) hj⟩]
        · have hpk' : p l[k] = false := by simpa using hpk
          refine (hc.mono ?_)
          rintro e w1 ⟨rfl, h1⟩
          rw [hpk']
          go_wp2
          go_roundw
          case rel => exact ⟨k + 1, by omega, by go_num, fun j hj hjk => by
            by_cases e : j = k
            · subst e; exact hpk'
            · exact Hp.out j hj (by omega), hx.trans h1⟩
          case measure => simp [intOf]; omega
      · obtain rfl : k = l.length := by omega
        have Hp := Lib.hid hp
        clear hp hf hcells
        go_wp2
        go_ret
        refine ⟨ret_int ?_, hx⟩
        rw [idxP, List.findIdx?_eq_none_iff.2 fun x hx => by
          obtain ⟨j, hj, rfl⟩ := List.getElem_of_mem hx
          exact Hp.out j hj hj]
theorem indexFunc_params (g : Nat) (lb : Array Value) (eg : ∀ args w, (callFunc g args).run Tryz.prog w = .ok (.enter g args) w) (p : List UInt8 × List UInt8 → Bool)
    (l : List (List UInt8 × List UInt8)) (v : Value) (w : World) (hv : PairsAt w v l) (hl : l.length ≤ maxLen)
    (hf : ∀ (W : World) (x), x ∈ l → Ext w W → Calls Tryz.prog g (#[.agg #[vstr x.1, vstr x.2]] ++ lb) W fun e w' => e = .returned (.bool (p x)) ∧ Ext W w') :
    Calls Tryz.prog 58 #[v, .func (.func g) #[] lb] w fun e w' => e = .returned (.int .i64 (idxP p l)) ∧ Ext w w' := by
  rcases hv with ⟨rfl, a, c, rfl⟩ | ⟨hne, b, o, c, rfl, hc, hcells⟩
  · go_enter Tryz.func58, Tryz.ntmps58
    go_wp2
    refine wp_loop_rounds 1 ?_
    rw [rounds_succ]
    go_wp2
    go_ret
    exact ⟨rfl, Ext.refl _⟩
  · unfold maxLen at hl
    go_enter Tryz.func58, Tryz.ntmps58
    go_wp2
    go_loopw [5, 8] (fun _ i wr => ∃ k : Nat, k ≤ l.length ∧ i = .int .i64 k ∧ (∀ j (hj : j < l.length), j < k → p l[j] = false) ∧ Ext w wr) (fun _ i _ => l.length - (intOf i).toNat)
    case atStart => exact ⟨0, Nat.zero_le _, rfl, fun j _ hj => absurd hj (Nat.not_lt_zero _), Ext.refl w⟩
    case round =>
      obtain ⟨k, hk, rfl, hp, hx⟩ := hrel
      by_cases hlt : k < l.length
      · obtain ⟨hc1, hc2⟩ := hcells k hlt
        have hd1 := hx.holds hc1
        have hd2 := hx.holds hc2
        have Hp := Lib.hid hp
        have Hf := Lib.hid hf
        have Hc := Lib.hid hcells
        clear hp hf hcells hc1 hc2
        go_wp2_with fail
        have hc := Hf.out wr l[k] (List.getElem_mem hlt) hx
        by_cases hpk : p l[k] = true
        · refine (hc.mono ?_)
          rintro e w1 ⟨rfl, h1⟩
          rw [hpk]
          go_wp2
          go_ret
          refine ⟨ret_int ?_, hx.trans h1⟩
          rw [idxP, List.findIdx?_eq_some_iff_getElem.2 ⟨hlt, hpk, fun j hj => by simpa using Hp.out j (by omega) hj⟩]
        · have hpk' : p l[k] = false := by simpa using hpk
          refine (hc.mono ?_)
          rintro e w1 ⟨rfl, h1⟩
          rw [hpk']
          go_wp2
          go_roundw
          case rel => exact ⟨k + 1, by omega, by go_num, fun j hj hjk => by
            by_cases e : j = k
            · subst e; exact hpk'
            · exact Hp.out j hj (by omega), hx.trans h1⟩
          case measure => simp [intOf]; omega
      · obtain rfl : k = l.length := by omega
        have Hp := Lib.hid hp
        clear hp hf hcells
        go_wp2
        go_ret
        refine ⟨ret_int ?_, hx⟩
        rw [idxP, List.findIdx?_eq_none_iff.2 fun x hx => by
          obtain ⟨j, hj, rfl⟩ := List.getElem_of_mem hx
          exact Hp.out j hj hj]

/-- A closure of header.has: the block nb holds the name. -/
theorem has1_any (a b s : ByteArray) (nb : Nat) (w : World) (hc : w.cell? ⟨nb, 0, none⟩ = some (.string s)) (ha : a.size ≤ maxLen) (hs : s.size ≤ maxLen) :
    Calls Tryz.prog 54 #[.agg #[.string a, .string b], .pointer (some ⟨nb, 0, none⟩)] w fun e w' => e = .returned (.bool (sameB a.data.toList s.data.toList)) ∧ Ext w w' := by
  have hlt := lt_of_cell hc
  have hc' : (w.alloc (.cells #[.string a, .string b] 33)).cell? ⟨nb, 0, none⟩ = some (.string s) := (Ext.alloc (Ext.refl w) _).holds hc
  go_enter Tryz.func54, Tryz.ntmps54
  go_wp2_with (go_at_call 30; refine (same_any a s _ ha hs).mono ?_; rintro e w1 ⟨rfl, h1⟩)
  go_ret
  exact ⟨rfl, ((Ext.refl w).alloc _).trans h1⟩
theorem has_any (s : ByteArray) (w : World) :
    Calls Tryz.prog 32 #[.string s] w fun e w' => e = .returned (.func (.func 54) #[] #[.pointer (some ⟨w.heap.size, 0, none⟩)]) ∧ w' = w.alloc (.cells #[.string s] 9) := by
  go_enter Tryz.func32, Tryz.ntmps32
  go_wp2
  go_ret
  exact ⟨rfl, rfl⟩
/-- The strings of pairs are short. -/
def Short (l : List (List UInt8 × List UInt8)) : Prop := ∀ x ∈ l, x.1.length ≤ 1073741824 ∧ x.2.length ≤ 1073741824
theorem le_maxLen {n : Nat} (h : n ≤ 1073741824) : n ≤ maxLen := by unfold maxLen; omega
/-- The value of the first field with a name. -/
def getB (l : List (List UInt8 × List UInt8)) (n : List UInt8) : List UInt8 × Bool := match l.find? (fun x => sameB x.1 n) with | some x => (x.2, true) | none => ([], false)
theorem idxP_none {α : Type} {p : α → Bool} {l : List α} (h : l.find? p = none) : idxP p l = -1 := by
  have : l.findIdx? p = none := by
    rw [List.findIdx?_eq_none_iff]
    rw [List.find?_eq_none] at h
    intro x hx
    simpa using h x hx
  rw [idxP, this]
theorem idxP_some {α : Type} {p : α → Bool} {l : List α} {x : α} (h : l.find? p = some x) : ∃ i : Nat, ∃ hi : i < l.length, idxP p l = i ∧ l[i] = x ∧ p x = true := by
  obtain ⟨hp, i, hi, hx, hlt⟩ := List.find?_eq_some_iff_getElem.1 h
  refine ⟨i, hi, ?_, hx, hp⟩
  rw [idxP, List.findIdx?_eq_some_iff_getElem.2 ⟨hi, by rw [hx]; exact hp, fun j hj => by simpa using hlt j hj⟩]

theorem get_any (l : List (List UInt8 × List UInt8)) (v : Value) (s : ByteArray) (w : World) (hv : PairsAt w v l) (hl : l.length ≤ 1073741824) (hsh : Short l) (hs : s.size ≤ 1073741824) :
    Calls Tryz.prog 16 #[v, .string s] w fun e w' => e = .returned (.tuple #[vstr (getB l s.data.toList).1, .bool (getB l s.data.toList).2]) ∧ Ext w w' := by
  have hx0 : Ext w (w.alloc (.cells #[.string s] 9)) := (Ext.refl w).alloc _
  have hidx := indexFunc_fields 54 #[.pointer (some ⟨w.heap.size, 0, none⟩)] (enters_of Tryz.func54 (by kernel_rfl) rfl) (fun x => sameB x.1 s.data.toList) l v (w.alloc (.cells #[.string s] 9))
    (hv.ext hx0) (le_maxLen hl) (fun W x hx hW => has1_any ⟨x.1.toArray⟩ ⟨x.2.toArray⟩ s w.heap.size W (hW.holds (by rw [World.cell?_alloc_mark]; rfl)) (le_maxLen (hsh x hx).1) (le_maxLen hs))
  have Hidx := Lib.hid hidx
  have Hv := Lib.hid hv
  clear hidx hv
  cases hf : l.find? (fun x => sameB x.1 s.data.toList) with
  | none =>
    have e1 : getB l s.data.toList = ([], false) := by rw [getB, hf]
    have Hi := Lib.hid (idxP_none hf)
    clear hf
    rw [e1]
    clear e1
    go_enter Tryz.func16, Tryz.ntmps16
    go_wp2_with (first | (go_at_call 32; refine (has_any s _).mono ?_; rintro e w1 ⟨rfl, rfl⟩) | (go_at_call 31; refine Hidx.out.mono ?_; rintro e w1 ⟨rfl, h1⟩; rw [Hi.out]))
    go_ret2
    exact ⟨rfl, hx0.trans h1⟩
  | some x =>
    have e1 : getB l s.data.toList = (x.2, true) := by rw [getB, hf]
    obtain ⟨i, hi, hix, hxi, _⟩ := idxP_some hf
    have Hi := Lib.hid hix
    clear hf hix
    rw [e1, ← hxi]
    clear e1 hxi
    rcases Hv.out with ⟨rfl, _⟩ | ⟨hne, b, o, c, rfl, hc, hcells⟩
    · simp at hi
    · have d1 := (hcells i hi).2
      have D1 := Lib.hid (hx0.holds d1)
      clear d1 hcells Hv
      go_enter Tryz.func16, Tryz.ntmps16
      go_wp2_with (first | (go_at_call 32; refine (has_any s _).mono ?_; rintro e w1 ⟨rfl, rfl⟩) | (go_at_call 31; refine Hidx.out.mono ?_; rintro e w1 ⟨rfl, h1⟩; rw [Hi.out]; have d2 := h1.holds D1.out))
      go_ret2
      exact ⟨rfl, hx0.trans h1⟩

/-- The bytes that are special in a parameter. -/
def specialB : List UInt8 := [40, 41, 60, 62, 64, 44, 59, 58, 92, 34, 47, 91, 93, 63, 61]
/-- A token. -/
def tokenB (l : List UInt8) : Bool := !l.isEmpty && printB l && !Lib.containsAny l specialB
theorem printB_ascii {l : List UInt8} (h : printB l = true) : ∀ (j : Nat) b, l[j]? = some b → b.toNat < 128 := by
  intro j b hb
  have hm := List.mem_of_getElem? hb
  rw [printB, List.all_eq_true] at h
  have := h b hm
  simp only [decide_eq_true_eq] at this
  have h2 := this.2
  rw [UInt8.le_iff_toNat_le] at h2
  simp at h2
  omega
theorem token_any (s : ByteArray) (w : World) (hs : s.size ≤ 1073741824) :
    Calls Tryz.prog 35 #[.string s] w fun e w' => e = .returned (.bool (tokenB s.data.toList)) ∧ Ext w w' := by
  by_cases he : s.data.toList = []
  · obtain rfl := empty_toList he
    go_enter Tryz.func35, Tryz.ntmps35
    go_wp2
    go_ret
    exact ⟨rfl, Ext.refl _⟩
  · have hne : s.toList.isEmpty = false := by rw [Lib.toList_data]; simpa using he
    have hne' : s.data.toList.isEmpty = false := by simpa using he
    by_cases hp : printB s.data.toList = true
    · have ha := Lib.hid (printB_ascii hp)
      go_enter Tryz.func35, Tryz.ntmps35
      go_wp2_with (first | (go_at_call 52; refine (printable_any s _).mono ?_; rintro e w1 ⟨rfl, h1⟩) | (go_at_call 57; refine (Tryz.strings_ContainsAny_laid s ⟨#[40, 41, 60, 62, 64, 44, 59, 58, 92, 34, 47, 91, 93, 63, 61]⟩ _ (by omega) (by decide) ha.out (ascii_of_all (by decide))).mono ?_; rintro e w2 ⟨rfl, h2⟩))
      go_ret
      refine ⟨ret_bool ?_, h1.trans h2⟩
      simp [tokenB, hne', hp, specialB]
    · have hp' : printB s.data.toList = false := by simpa using hp
      clear hp
      go_enter Tryz.func35, Tryz.ntmps35
      go_wp2_with (go_at_call 52; refine (printable_any s _).mono ?_; rintro e w1 ⟨rfl, h1⟩)
      go_ret
      exact ⟨ret_bool (by simp [tokenB, hp']), h1⟩
end Go.Proofs.YtdjcjkpodggdpaaGreatDoor
