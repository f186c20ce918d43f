/- The contracts of header.unquoted and header.Params. -/
import Derived.Test.YtdjcjkpodggdpaaGreatDoorAHdr
import Derived.Test.YtdjcjkpodggdpaaGreatDoorAPieces
import Derived.Test.YtdjcjkpodggdpaaGreatDoorABuild
namespace Go.Proofs.YtdjcjkpodggdpaaGreatDoor
open Go.RowKit

/-- What is read behind a quotation mark. -/
def unqGo : List UInt8 → List UInt8 → List UInt8 × Bool
  | [], _ => ([], false)
  | c :: t, acc =>
    if c = 34 then (acc, t.isEmpty)
    else match t with
      | [] => unqGo [] (acc ++ [c])
      | x :: t' => if c = 92 then unqGo t' (acc ++ [x]) else unqGo (x :: t') (acc ++ [c])
/-- The value of a parameter, and whether it is well formed. -/
def unqB (l : List UInt8) : List UInt8 × Bool := if Lib.hasPrefix l [34] then unqGo (l.drop 1) [] else (l, !l.isEmpty && printB l && !l.contains 34)

theorem uq_quote {l acc : List UInt8} {k : Nat} (hk : k < l.length) (hc : l[k] = 34) : unqGo (l.drop k) acc = (acc, decide (k = l.length - 1)) := by
  rw [List.drop_eq_getElem_cons hk, hc, unqGo.eq_def]
  simp
  by_cases h : k = l.length - 1
  · simp [h]; omega
  · simp [h]; omega
theorem uq_back {l acc : List UInt8} {k : Nat} (hk : k + 1 < l.length) (hc : l[k]'(by omega) = 92) : unqGo (l.drop k) acc = unqGo (l.drop (k + 1 + 1)) (acc ++ [l[k + 1]]) := by
  rw [List.drop_eq_getElem_cons (by omega), hc, List.drop_eq_getElem_cons hk, unqGo.eq_def]
  simp
theorem uq_else {l acc : List UInt8} {k : Nat} (hk : k < l.length) (h1 : l[k] ≠ 34) (h2 : k + 1 < l.length → l[k] ≠ 92) : unqGo (l.drop k) acc = unqGo (l.drop (k + 1)) (acc ++ [l[k]]) := by
  by_cases h : k + 1 < l.length
  · rw [List.drop_eq_getElem_cons hk, List.drop_eq_getElem_cons h, unqGo.eq_def]
    simp [h1, h2 h]
  · rw [List.drop_eq_getElem_cons hk, List.drop_of_length_le (by omega), unqGo.eq_def]
    simp [h1]

set_option maxHeartbeats 1000000 in
set_option maxRecDepth 100000 in
theorem unquoted_any (s : ByteArray) (w : World) (hs : s.size ≤ 1073741824) :
    Calls Tryz.prog 34 #[.string s] w fun e w' => e = .returned (.tuple #[vstr (unqB s.data.toList).1, .bool (unqB s.data.toList).2]) ∧ Ext w w' := by
  by_cases hq : Lib.hasPrefix s.data.toList [34] = true
  · have e1 : unqB s.data.toList = unqGo (s.data.toList.drop 1) [] := by rw [unqB, if_pos hq]
    rw [e1]
    clear e1
    go_enter Tryz.func34, Tryz.ntmps34
    go_wp2_with (go_at_call 42; refine (Tryz.strings_HasPrefix s _ _).mono ?_; rintro e w ⟨rfl, rfl⟩)
    go_loopw [5] (fun i wr => ∃ (k : Nat) (acc : List UInt8), k ≤ s.size + 1 ∧ acc.length ≤ k ∧ i = .int .i64 k ∧ Bld w.heap.size w.heap.size acc wr ∧ Ext w wr ∧ w.heap.size < wr.heap.size ∧ unqGo (s.data.toList.drop k) acc = unqGo (s.data.toList.drop 1) [])
      (fun i _ => s.size + 1 - (intOf i).toNat)
    case atStart =>
      have hs1 : s.data.toList ≠ [] := by intro h; rw [h] at hq; simp [Lib.hasPrefix] at hq
      have : 0 < s.size := by rw [← len_toList]; exact List.length_pos_iff.2 hs1
      exact ⟨1, [], by omega, by simp, rfl, bld_new (Nat.le_refl _) (heap_new _ _), (Ext.refl w).alloc _, by simp, rfl⟩
    case round =>
      obtain ⟨k, acc, hk, hacc, rfl, hbld, hx, hsz, heq⟩ := hrel
      have Heq := Lib.hid heq
      clear heq
      by_cases hlt : k < s.size
      · have hl : k < s.data.toList.length := by rw [len_toList]; exact hlt
        have hg : s.data.toList[k] = s[k] := by rw [Array.getElem_toList]; rfl
        have Hg := Lib.hid hg
        clear hg
        go_wp2_with (first | (go_at_call 55; refine (builder_string w.heap.size w.heap.size acc _ hbld hx.size).mono ?_; rintro e w1 ⟨rfl, h1, h2, h3⟩))
        · have h : ((s[k].toNat : Int) == 34) = true := by assumption
          have hc : s.data.toList[k] = 34 := by rw [Hg.out]; exact byte_eq (n := 34) (by omega) (by simpa using h)
          go_ret2
          refine ⟨?_, hx.upon h2⟩
          rw [← Heq.out, uq_quote hl hc, len_toList]
          show Ending.returned (.tuple #[vstr acc, .bool ((k : Int) == (s.size : Int) - 1)]) = _
          have e : ((k : Int) == (s.size : Int) - 1) = decide (k = s.size - 1) := by
            rw [Bool.eq_iff_iff]
            simp only [beq_iff_eq, decide_eq_true_eq]
            omega
          rw [e]
        · have h1 : (s[k].toNat : Int) = 92 := by assumption
          have h2 : (k : Int) + 1 < s.size := by assumption
          have hl2 : k + 1 < s.data.toList.length := by rw [len_toList]; omega
          have hc : s.data.toList[k] = 92 := by rw [Hg.out]; exact byte_eq (n := 92) (by omega) h1
          have hg2 : s.data.toList[k + 1] = s[k + 1] := by rw [Array.getElem_toList]; rfl
          refine (writeByte_num w.heap.size w.heap.size acc s[k + 1] _ rfl wr hbld (by omega) hx.size).mono ?_
          rintro e w1 ⟨rfl, b1, b2, b3⟩
          go_wp2
          go_roundw
          case rel => exact ⟨k + 1 + 1, acc ++ [s[k + 1]], by omega, by simp; omega, by go_num, b1, hx.upon b2, by have := b2.size; omega, by rw [← Heq.out, uq_back hl2 hc, hg2]⟩
          case measure => simp [intOf]; omega
        · have h1 : (s[k].toNat : Int) = 92 := by assumption
          have h2 : (s.size : Int) ≤ k + 1 := by assumption
          refine (writeByte_num w.heap.size w.heap.size acc s[k] _ h1 wr hbld (by omega) hx.size).mono ?_
          rintro e w1 ⟨rfl, b1, b2, b3⟩
          go_wp2
          go_roundw
          case rel => exact ⟨k + 1, acc ++ [s[k]], by omega, by simp; omega, by go_num, b1, hx.upon b2, by have := b2.size; omega, by
            rw [← Heq.out, uq_else hl (by rw [Hg.out]; exact byte_ne (by rw [h1]; decide)) (fun hh => by rw [len_toList] at hh; omega), Hg.out]⟩
          case measure => simp [intOf]; omega
        · have h0 : ((s[k].toNat : Int) == 34) = false := by assumption
          have h1 : ¬ (s[k].toNat : Int) = 92 := by assumption
          refine (writeByte_num w.heap.size w.heap.size acc s[k] _ rfl wr hbld (by omega) hx.size).mono ?_
          rintro e w1 ⟨rfl, b1, b2, b3⟩
          go_wp2
          go_roundw
          case rel => exact ⟨k + 1, acc ++ [s[k]], by omega, by simp; omega, by go_num, b1, hx.upon b2, by have := b2.size; omega, by
            rw [← Heq.out, uq_else hl (by rw [Hg.out]; exact byte_ne (by simpa using h0)) (fun _ => by rw [Hg.out]; exact byte_ne (by simpa using h1)), Hg.out]⟩
          case measure => simp [intOf]; omega
      · go_wp2
        go_ret2
        refine ⟨?_, hx⟩
        rw [← Heq.out, List.drop_of_length_le (by rw [len_toList]; omega)]
        rfl
  · have hq' : Lib.hasPrefix s.data.toList [34] = false := by simpa using hq
    clear hq
    have e1 : unqB s.data.toList = (s.data.toList, !s.data.toList.isEmpty && printB s.data.toList && !s.data.toList.contains 34) := by rw [unqB, hq']; rfl
    rw [e1]
    clear e1
    by_cases he : s.data.toList = []
    · obtain rfl := empty_toList he
      go_enter Tryz.func34, Tryz.ntmps34
      go_wp2_with (go_at_call 42; refine (Tryz.strings_HasPrefix _ _ _).mono ?_; rintro e w1 ⟨rfl, rfl⟩)
      go_ret2
      exact ⟨rfl, Ext.refl _⟩
    · have hne : s.toList.isEmpty = false := by rw [Lib.toList_data]; simpa using he
      have hne' : s.data.toList.isEmpty = false := by simpa using he
      by_cases hp : printB s.data.toList = true
      · go_enter Tryz.func34, Tryz.ntmps34
        go_wp2_with (first | (go_at_call 42; refine (Tryz.strings_HasPrefix s _ _).mono ?_; rintro e w1 ⟨rfl, rfl⟩) | (go_at_call 52; refine (printable_any s _).mono ?_; rintro e w1 ⟨rfl, h1⟩) | (go_at_call 53; refine (Tryz.strings_Contains_one s 34 _).mono ?_; rintro e w2 ⟨rfl, rfl⟩))
        go_ret2
        refine ⟨?_, h1⟩
        rw [← Lib.contains_iff_indexByte]
        simp [hne', hp]
      · have hp' : printB s.data.toList = false := by simpa using hp
        clear hp
        go_enter Tryz.func34, Tryz.ntmps34
        go_wp2_with (first | (go_at_call 42; refine (Tryz.strings_HasPrefix s _ _).mono ?_; rintro e w1 ⟨rfl, rfl⟩) | (go_at_call 52; refine (printable_any s _).mono ?_; rintro e w1 ⟨rfl, h1⟩))
        go_ret2
        refine ⟨?_, h1⟩
        simp [hne', hp']

theorem any_idxP {α : Type} (p : α → Bool) (l : List α) : decide (0 ≤ idxP p l) = l.any p := by
  cases h : l.find? p with
  | none =>
    rw [idxP_none h]
    rw [List.find?_eq_none] at h
    symm
    simpa using h
  | some x =>
    obtain ⟨i, hi, e, hx, hp⟩ := idxP_some h
    rw [e]
    have : l.any p = true := List.any_eq_true.2 ⟨x, hx ▸ List.getElem_mem hi, hp⟩
    rw [this]
    simp
/-- The closure of header.Params: the block nb holds the name. -/
theorem params1_any (a b s : ByteArray) (nb : Nat) (w : World) (hc : w.cell? ⟨nb, 0, none⟩ = some (.string s)) :
    Calls Tryz.prog 37 #[.agg #[.string a, .string b], .pointer (some ⟨nb, 0, none⟩)] w fun e w' => e = .returned (.bool (a.data.toList == s.data.toList)) ∧ Ext w w' := by
  have hlt := lt_of_cell hc
  have hc' : (w.alloc (.cells #[.string a, .string b] 75)).cell? ⟨nb, 0, none⟩ = some (.string s) := (Ext.alloc (Ext.refl w) _).holds hc
  go_enter Tryz.func37, Tryz.ntmps37
  go_wp2
  go_ret
  exact ⟨by simp [Lib.toList_data], (Ext.refl w).alloc _⟩
theorem contains_params (g : Nat) (lb : Array Value) (eg : ∀ args w, (callFunc g args).run Tryz.prog w = .ok (.enter g args) w) (p : List UInt8 × List UInt8 → Bool)
    (l : List (List UInt8 × List UInt8)) (v : Value) (w : World) (hv : PairsAt w v l) (hl : l.length ≤ maxLen)
    (hf : ∀ (W : World) (x), x ∈ l → Ext w W → Calls Tryz.prog g (#[.agg #[vstr x.1, vstr x.2]] ++ lb) W fun e w' => e = .returned (.bool (p x)) ∧ Ext W w') :
    Calls Tryz.prog 36 #[v, .func (.func g) #[] lb] w fun e w' => e = .returned (.bool (l.any p)) ∧ Ext w w' := by
  have h := Lib.hid (indexFunc_params g lb eg p l v w hv hl hf)
  clear hv hl hf eg
  go_enter Tryz.func36, Tryz.ntmps36
  go_wp2_with (go_at_call 58; refine h.out.mono ?_; rintro e w1 ⟨rfl, h1⟩)
  go_ret
  exact ⟨ret_bool (any_idxP p l), h1⟩

/-- The params with one piece more. -/
def paramStep (out : List (List UInt8 × List UInt8)) (p : List UInt8) : List (List UInt8 × List UInt8) :=
  let c := cut1 61 p
  let name := lowerB (trimB c.1)
  let v := unqB (trimB c.2.1)
  if c.2.2 && v.2 && tokenB name && !out.any (fun x => x.1 == name) then out ++ [(name, v.1)] else out
/-- A value with parameters. -/
def paramsB (l : List UInt8) : List UInt8 × List (List UInt8 × List UInt8) := (trimB ((piecesB l).headD []), ((piecesB l).drop 1).foldl paramStep [])

theorem trimB_len (l : List UInt8) : (trimB l).length ≤ l.length := by
  have h1 : ∀ (p : UInt8 → Bool) (l : List UInt8), (l.dropWhile p).length ≤ l.length := fun p l => (List.dropWhile_suffix p).length_le
  unfold trimB Lib.trimS Lib.trimLeftS Lib.trimRightS
  refine Nat.le_trans (h1 _ _) ?_
  rw [List.length_reverse]
  refine Nat.le_trans (h1 _ _) ?_
  simp
theorem cut1_len1 (c : UInt8) (l : List UInt8) : (cut1 c l).1.length ≤ l.length := (List.takeWhile_prefix _).length_le
theorem cut1_len2 (c : UInt8) (l : List UInt8) : (cut1 c l).2.1.length ≤ l.length := by
  simp only [cut1, List.length_drop]
  have := (List.dropWhile_suffix (l := l) (· != c)).length_le
  omega
theorem piecesGo_ne : ∀ (n : Nat) (l : List UInt8) (q : Bool) (cur : List UInt8), l.length ≤ n → piecesGo l q cur ≠ [] := by
  intro n
  induction n with
  | zero =>
    intro l q cur h
    obtain rfl := List.length_eq_zero_iff.1 (Nat.le_zero.1 h)
    simp [piecesGo.eq_def]
  | succ n ih =>
    intro l q cur h
    cases l with
    | nil => simp [piecesGo.eq_def]
    | cons c t =>
      rw [piecesGo.eq_def]
      simp only []
      simp only [List.length_cons] at h
      split
      · exact ih _ _ _ (by omega)
      · split
        · split
          · simp
          · rename_i x t' _
            exact ih _ _ _ (by simp only [List.length_cons] at h; omega)
        · split
          · simp
          · exact ih _ _ _ (by omega)
theorem piecesB_ne (l : List UInt8) : piecesB l ≠ [] := piecesGo_ne _ l _ _ (Nat.le_refl _)
theorem piecesGo_le : ∀ (n : Nat) (l : List UInt8) (q : Bool) (cur : List UInt8), l.length ≤ n → (∀ p ∈ piecesGo l q cur, p.length ≤ cur.length + l.length) ∧ (piecesGo l q cur).length ≤ l.length + 1 := by
  intro n
  induction n with
  | zero =>
    intro l q cur h
    obtain rfl := List.length_eq_zero_iff.1 (Nat.le_zero.1 h)
    simp [piecesGo.eq_def]
  | succ n ih =>
    intro l q cur h
    cases l with
    | nil => simp [piecesGo.eq_def]
    | cons c t =>
      rw [piecesGo.eq_def]
      simp only []
      simp only [List.length_cons] at h ⊢
      split
      · obtain ⟨h1, h2⟩ := ih t (!q) (cur ++ [c]) (by omega)
        refine ⟨fun p hp => ?_, by omega⟩
        have := h1 p hp
        simp only [List.length_append, List.length_cons, List.length_nil] at this
        omega
      · split
        · cases t with
          | nil => simp
          | cons x t' =>
            simp only [List.length_cons] at h ⊢
            obtain ⟨h1, h2⟩ := ih t' q (cur ++ [c, x]) (by omega)
            refine ⟨fun p hp => ?_, by omega⟩
            have := h1 p hp
            simp only [List.length_append, List.length_cons, List.length_nil] at this
            omega
        · split
          · obtain ⟨h1, h2⟩ := ih t q [] (by omega)
            refine ⟨fun p hp => ?_, by simp only [List.length_cons]; omega⟩
            rcases List.mem_cons.1 hp with rfl | hp
            · omega
            · have := h1 p hp
              simp only [List.length_nil] at this
              omega
          · obtain ⟨h1, h2⟩ := ih t q (cur ++ [c]) (by omega)
            refine ⟨fun p hp => ?_, by omega⟩
            have := h1 p hp
            simp only [List.length_append, List.length_cons, List.length_nil] at this
            omega
theorem piecesB_le (l : List UInt8) : (∀ p ∈ piecesB l, p.length ≤ l.length) ∧ (piecesB l).length ≤ l.length + 1 := by
  have := piecesGo_le _ l false [] (Nat.le_refl _)
  simpa [piecesB] using this
end Go.Proofs.YtdjcjkpodggdpaaGreatDoor
