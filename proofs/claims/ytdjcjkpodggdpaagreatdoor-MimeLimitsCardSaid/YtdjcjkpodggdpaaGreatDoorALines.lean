/- The iterator header.lines: the lines of a string, each with the place behind it. -/
import Derived.Test.YtdjcjkpodggdpaaGreatDoorAForms
namespace Go.Proofs.YtdjcjkpodggdpaaGreatDoor
open Go.RowKit
attribute [local go_sem] Oper.semAt_some

/-- A line without the CR at its end. -/
def stripB (l : List UInt8) : List UInt8 := Lib.trimSuffix l [13]
/-- The lines of what is left; cur: what the line under way holds. -/
def linesGo : List UInt8 → List UInt8 → Nat → List (List UInt8 × Nat)
  | [], cur, at_ => if cur.isEmpty then [] else [(stripB cur, at_)]
  | c :: t, cur, at_ => if c = 10 then (stripB cur, at_ + 1) :: linesGo t [] (at_ + 1) else linesGo t (cur ++ [c]) (at_ + 1)
def linesB (l : List UInt8) : List (List UInt8 × Nat) := linesGo l [] 0
/-- What a line yields. -/
def encL (x : List UInt8 × Nat) : Array Value := #[.agg #[vstr x.1, .int .i64 x.2]]

theorem linesGo_cut : ∀ (l cur : List UInt8) (a : Nat), (cur ≠ [] ∨ l ≠ []) → linesGo l cur a =
    (stripB (cur ++ (cut1 10 l).1), a + (cut1 10 l).1.length + (if (cut1 10 l).2.2 then 1 else 0)) :: linesGo (cut1 10 l).2.1 [] (a + (cut1 10 l).1.length + (if (cut1 10 l).2.2 then 1 else 0)) := by
  intro l
  induction l with
  | nil =>
    intro cur a h
    have hc : cur ≠ [] := by simpa using h
    simp [linesGo, cut1_nil, hc]
  | cons c t ih =>
    intro cur a _
    by_cases hc : c = 10
    · subst hc
      rw [cut1_hit]
      simp [linesGo]
    · rw [cut1_miss _ hc, linesGo, if_neg hc, ih (cur ++ [c]) (a + 1) (.inl (by simp))]
      simp [Nat.add_assoc, Nat.add_comm 1]
theorem cut1_eq (c : UInt8) (l : List UInt8) : l = (cut1 c l).1 ++ (if (cut1 c l).2.2 then c :: (cut1 c l).2.1 else []) := by
  induction l with
  | nil => rfl
  | cons b t ih =>
    by_cases hb : b = c
    · subst hb; rw [cut1_hit]; simp
    · rw [cut1_miss _ hb]
      simpa using ih
theorem cut1_rest (c : UInt8) (l : List UInt8) : (cut1 c l).2.1 = l.drop ((cut1 c l).1.length + (if (cut1 c l).2.2 then 1 else 0)) := by
  have h := cut1_eq c l
  cases hf : (cut1 c l).2.2
  · rw [hf] at h
    simp only [Bool.false_eq_true, if_false, List.append_nil, Nat.add_zero] at h ⊢
    have h2 : (cut1 c l).2.1 = [] := by
      have hc : l.contains c = false := hf
      have hnot : c ∉ l := by simpa using hc
      have hall : ∀ m : List UInt8, c ∉ m → m.dropWhile (· != c) = [] := by
        intro m
        induction m with
        | nil => intro _; rfl
        | cons b m ih =>
          intro hm
          have hb : b ≠ c := fun e => hm (by simp [e])
          have e : (b :: m).dropWhile (· != c) = m.dropWhile (· != c) := List.dropWhile_cons_of_pos (by simp [hb])
          rw [e]
          exact ih (fun hc => hm (List.mem_cons_of_mem _ hc))
      have : l.dropWhile (· != c) = [] := hall l hnot
      simp [cut1, this]
    rw [h2]
    rw [List.drop_of_length_le (by rw [← h]; exact Nat.le_refl _)]
  · rw [hf] at h
    rw [if_pos rfl] at h
    rw [if_pos rfl]
    have key : ∀ A B : List UInt8, B = (A ++ c :: B).drop (A.length + 1) := by
      intro A B
      induction A with
      | nil => rfl
      | cons x A ih => simp
    exact (key _ _).trans (congrArg (List.drop _) h.symm)
theorem cut1_lt (c : UInt8) (l : List UInt8) (h : l ≠ []) : 0 < (cut1 c l).1.length + (if (cut1 c l).2.2 then 1 else 0) ∧ (cut1 c l).1.length + (if (cut1 c l).2.2 then 1 else 0) ≤ l.length := by
  have e := congrArg List.length (cut1_eq c l)
  have hp : 0 < l.length := List.length_pos_iff.2 h
  cases hf : (cut1 c l).2.2 <;> rw [hf] at e <;> simp at e ⊢ <;> omega
/-- A round of header.lines. -/
theorem linesGo_step (l : List UInt8) (a : Nat) (h : a < l.length) :
    linesGo (l.drop a) [] a = (stripB (cut1 10 (l.drop a)).1, a + (cut1 10 (l.drop a)).1.length + (if (cut1 10 (l.drop a)).2.2 then 1 else 0)) ::
      linesGo (l.drop (a + (cut1 10 (l.drop a)).1.length + (if (cut1 10 (l.drop a)).2.2 then 1 else 0))) [] (a + (cut1 10 (l.drop a)).1.length + (if (cut1 10 (l.drop a)).2.2 then 1 else 0)) := by
  rw [linesGo_cut _ _ _ (.inr (by simp; omega)), cut1_rest, List.drop_drop]
  simp [Nat.add_assoc]
theorem trimSuffix_l (l : List UInt8) (w : World) (h : l.length ≤ 1073741824) :
    Calls Tryz.prog 49 #[vstr l, .string ⟨#[13]⟩] w fun e w' => e = .returned (vstr (stripB l)) ∧ Ext w w' :=
  (Tryz.strings_TrimSuffix ⟨l.toArray⟩ ⟨#[13]⟩ w (by rw [size_mk]; omega)).mono fun _ _ ⟨he, hw⟩ => ⟨he, Ext.of_eq hw⟩

theorem extract_dropL (l : List UInt8) (a : Nat) : (⟨l.toArray⟩ : ByteArray).extract a l.length = ⟨(l.drop a).toArray⟩ := extract_drop ⟨l.toArray⟩ a
theorem lines_any (s : ByteArray) (w : World) :
    Calls Tryz.prog 26 #[.string s] w fun e w' => e = .returned (.func (.func 48) #[] #[.pointer (some ⟨w.heap.size, 0, none⟩)]) ∧ w' = w.alloc (.cells #[.string s] 9) := by
  go_enter Tryz.func26, Tryz.ntmps26
  go_wp2
  go_ret
  exact ⟨rfl, rfl⟩

set_option maxHeartbeats 1000000 in
set_option maxRecDepth 100000 in
theorem lines_iter (l : List UInt8) (Bn N : Nat) (bs : List Nat) (w0 : World) (hB : Boxed w0 Bn 9 (vstr l)) (hN : Bn < N) (hbs : Bn ∉ bs) (hs : l.length ≤ 1073741824) :
    Iter Tryz.prog 48 #[.pointer (some ⟨Bn, 0, none⟩)] encL (Old N bs) (linesB l) w0 := by
  intro n hn ll J Jx W hW hJ hJx hY h0
  have hBW : Boxed W Bn 9 (vstr l) := Boxed.ext hW hB
  refine callsIn_of_wp Tryz.func48 rfl trivial ?_ rfl
  simp only [Tryz.ntmps48, List.size_toArray, List.length_cons, List.length_nil, Nat.reduceAdd, Nat.reduceSub, Array.replicate_succ, Array.replicate_zero, List.push_toArray, List.append_toArray, List.nil_append, List.cons_append]
  gi_wp2
  gi_loopw [3] (fun i wr => ∃ (a : Nat) (pre : List {x : List UInt8 × Nat // x ∈ linesB l}), a ≤ l.length ∧ i = .int .i64 a ∧ linesB l = pre.map (·.1) ++ linesGo (l.drop a) [] a ∧ J pre wr ∧ Boxed wr Bn 9 (vstr l) ∧ W.heap.size ≤ wr.heap.size)
    (fun i _ => l.length - (intOf i).toNat)
  case atStart => exact ⟨0, [], Nat.zero_le _, rfl, rfl, h0, hBW, Nat.le_refl _⟩
  case round =>
    obtain ⟨a, pre, ha, rfl, hpre, hj, hb, hsz⟩ := hrel
    have hc := hb.cell
    have Hpre := Lib.hid hpre
    have HY := Lib.hid hY
    clear hpre hY h0 hBW hB
    by_cases hlt : a < l.length
    · have hl1 : (l.drop a).length ≤ l.length := by simp
      have hc1 := cut1_len1 10 (l.drop a)
      have hct := cut1_lt 10 (l.drop a) (by simp; omega)
      have hdl : (l.drop a).length = l.length - a := List.length_drop
      gi_wp2
      rw [extract_dropL]
      refine ⟨trivial, fun _ => by omega, (inW _ (cut_l (l.drop a) 10 _ (by omega))).mono ?_⟩
      rintro e w2 ⟨rfl, x2⟩
      have b2 := (Boxed.ext x2 hb).cell
      have j2 := hJ pre _ _ _ hj (grownBy_of_ext x2) (fun r e => by cases e)
      have Hst := Lib.hid (linesGo_step l a hlt)
      obtain ⟨lc, hlc⟩ : ∃ lc, lc = (cut1 10 (l.drop a)).1 := ⟨_, rfl⟩
      obtain ⟨fd, hfd⟩ : ∃ fd, fd = (cut1 10 (l.drop a)).2.2 := ⟨_, rfl⟩
      rw [← hlc] at hct hc1
      rw [← hfd] at hct
      rw [hdl] at hct hc1
      rw [← hlc, ← hfd] at Hst ⊢
      clear hlc hfd hdl
      cases fd
      · simp only [Bool.false_eq_true, if_false, Nat.add_zero] at Hst hct
        gi_wp2
        refine ⟨trivial, fun _ => by omega, (inW _ (trimSuffix_l lc _ (by omega))).mono ?_⟩
        rintro e w3 ⟨rfl, x3⟩
        have b3 := (Boxed.ext x3 (Boxed.ext x2 hb))
        have j3 := hJ pre _ _ _ j2 (grownBy_of_ext x3) (fun r e => by cases e)
        have hp := Hpre.out
        rw [Hst.out] at hp
        have Hp := Lib.hid hp
        have hlen : pre.length < (linesB l).length := by have := congrArg List.length hp; simp at this; omega
        have hmem : (stripB lc, a + lc.length) ∈ linesB l := by have := Hp.out; exact this.symm ▸ (by simp)
        clear hp
        obtain ⟨fn, tmps, assign, body, hy, hR⟩ := HY.out pre ⟨(stripB lc, a + lc.length), hmem⟩ w3 j3 hlen
        simp only [encL, Int.natCast_add] at hy
        gi_wp2
        refine ⟨fun _ => by omega, hR.mono ?_⟩
        rintro e w4 (⟨rfl, hJ4, hk4⟩ | ⟨rfl, hJx4⟩)
        · gi_wp2
          go_roundw
          case rel => exact ⟨a + lc.length, pre ++ [⟨(stripB lc, a + lc.length), hmem⟩], by omega, by go_num, Hp.out.trans (by simp), hJ4, hk4.boxed hN hbs b3, by have := hk4.size; have := x2.size; have := x3.size; omega⟩
          case measure => simp [intOf]; omega
        · gi_wp2
          refine bodyPost_ret (results_none rfl _ _ _) rfl ?_
          exact ⟨⟨_, rfl⟩, .inr ⟨_, ⟨linesGo (l.drop (a + lc.length)) [] (a + lc.length), (Hp.out.trans (by simp)).symm⟩, hJx4⟩⟩
      · simp only [if_true] at Hst hct
        gi_wp2
        refine ⟨trivial, fun _ => by omega, (inW _ (trimSuffix_l lc _ (by omega))).mono ?_⟩
        rintro e w3 ⟨rfl, x3⟩
        have b3 := (Boxed.ext x3 (Boxed.ext x2 hb))
        have j3 := hJ pre _ _ _ j2 (grownBy_of_ext x3) (fun r e => by cases e)
        have hp := Hpre.out
        rw [Hst.out] at hp
        have Hp := Lib.hid hp
        have hlen : pre.length < (linesB l).length := by have := congrArg List.length hp; simp at this; omega
        have hmem : (stripB lc, a + lc.length + 1) ∈ linesB l := by have := Hp.out; exact this.symm ▸ (by simp)
        clear hp
        obtain ⟨fn, tmps, assign, body, hy, hR⟩ := HY.out pre ⟨(stripB lc, a + lc.length + 1), hmem⟩ w3 j3 hlen
        simp only [encL, Int.natCast_add, Int.cast_ofNat_Int] at hy
        gi_wp2
        refine ⟨fun _ => by omega, hR.mono ?_⟩
        rintro e w4 (⟨rfl, hJ4, hk4⟩ | ⟨rfl, hJx4⟩)
        · gi_wp2
          go_roundw
          case rel => exact ⟨a + lc.length + 1, pre ++ [⟨(stripB lc, a + lc.length + 1), hmem⟩], by omega, by go_num, Hp.out.trans (by simp), hJ4, hk4.boxed hN hbs b3, by have := hk4.size; have := x2.size; have := x3.size; omega⟩
          case measure => simp [intOf]; omega
        · gi_wp2
          refine bodyPost_ret (results_none rfl _ _ _) rfl ?_
          exact ⟨⟨_, rfl⟩, .inr ⟨_, ⟨linesGo (l.drop (a + lc.length + 1)) [] (a + lc.length + 1), (Hp.out.trans (by simp)).symm⟩, hJx4⟩⟩
    · gi_wp2
      go_end0
      refine ⟨⟨_, rfl⟩, .inl ⟨pre, ?_, hj⟩⟩
      have hp := Hpre.out
      rw [List.drop_of_length_le (by omega)] at hp
      exact (hp.trans (by simp [linesGo])).symm
end Go.Proofs.YtdjcjkpodggdpaaGreatDoor
