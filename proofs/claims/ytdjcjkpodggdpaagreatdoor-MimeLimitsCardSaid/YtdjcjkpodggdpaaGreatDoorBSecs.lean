/- The iterator mime.sections. -/
import Derived.Test.YtdjcjkpodggdpaaGreatDoorBSect
namespace Go.Proofs.YtdjcjkpodggdpaaGreatDoor
open Go.RowKit
attribute [local go_sem] Oper.semAt_some

/-- The lines of what is left: each with its place and the place behind it. -/
def rawGo : List UInt8 → List UInt8 → Nat → Nat → List (List UInt8 × Nat × Nat)
  | [], cur, st, pos => if cur.isEmpty then [] else [(cur, st, pos)]
  | c :: t, cur, st, pos => if c = 10 then (cur, st, pos + 1) :: rawGo t [] (pos + 1) (pos + 1) else rawGo t (cur ++ [c]) st (pos + 1)
/-- The open section ends ahead of a line at a. -/
def flushB (s : List UInt8) (a : Nat) : Option Nat → List (List UInt8)
  | none => []
  | some o => [sub s o (max o (a - 1))]
/-- The sections that come of lines; op: where the open one begins. -/
def secGo (s b : List UInt8) : List (List UInt8 × Nat × Nat) → Option Nat → List (List UInt8)
  | [], none => []
  | [], some o => [s.drop o]
  | x :: t, op =>
    if (delimB x.1 b).1 then
      flushB s x.2.1 op ++ (if (delimB x.1 b).2 then [] else secGo s b t (some x.2.2))
    else secGo s b t op
/-- The sections of a content. -/
def sectionsB (s b : List UInt8) : List (List UInt8) := secGo s b (rawGo s [] 0 0) none

theorem rawGo_cut : ∀ (l cur : List UInt8) (st a : Nat), (cur ≠ [] ∨ l ≠ []) → rawGo l cur st a =
    (cur ++ (cut1 10 l).1, st, a + (cut1 10 l).1.length + (if (cut1 10 l).2.2 then 1 else 0)) ::
      rawGo (cut1 10 l).2.1 [] (a + (cut1 10 l).1.length + (if (cut1 10 l).2.2 then 1 else 0)) (a + (cut1 10 l).1.length + (if (cut1 10 l).2.2 then 1 else 0)) := by
  intro l
  induction l with
  | nil =>
    intro cur st a h
    have hc : cur ≠ [] := by simpa using h
    simp [rawGo, cut1_nil, hc]
  | cons c t ih =>
    intro cur st a _
    by_cases hc : c = 10
    · subst hc
      rw [cut1_hit]
      simp [rawGo]
    · rw [cut1_miss _ hc, rawGo, if_neg hc, ih (cur ++ [c]) st (a + 1) (.inl (by simp))]
      simp [Nat.add_assoc, Nat.add_comm 1]
theorem rawGo_step (l : List UInt8) (a : Nat) (h : a < l.length) :
    ∃ nx, nx = min l.length (a + (cut1 10 (l.drop a)).1.length + 1) ∧ a < nx ∧ nx ≤ l.length ∧
      rawGo (l.drop a) [] a a = ((cut1 10 (l.drop a)).1, a, nx) :: rawGo (l.drop nx) [] nx nx := by
  have e := cut1_eq 10 (l.drop a)
  have el := congrArg List.length e
  rw [List.length_drop] at el
  have hl := cut1_lt 10 (l.drop a) (by simp; omega)
  rw [List.length_drop] at hl
  refine ⟨_, rfl, ?_, Nat.min_le_left _ _, ?_⟩
  · omega
  · have hnx : min l.length (a + (cut1 10 (l.drop a)).1.length + 1) = a + (cut1 10 (l.drop a)).1.length + (if (cut1 10 (l.drop a)).2.2 then 1 else 0) := by
      cases hf : (cut1 10 (l.drop a)).2.2
      · rw [hf] at el hl
        simp at el hl ⊢
        omega
      · rw [hf] at hl
        simp at hl ⊢
        omega
    rw [hnx, rawGo_cut _ _ _ _ (.inr (by simp; omega)), cut1_rest, List.drop_drop]
    simp [Nat.add_assoc]

theorem extract_sub (l : List UInt8) (a b : Nat) : (⟨l.toArray⟩ : ByteArray).extract a b = ⟨(sub l a b).toArray⟩ := by rw [Lib.extract_eq]; rfl
/-- What a section yields. -/
def encS (x : List UInt8) : Array Value := #[vstr x]
/-- The open place as a number. -/
def openN : Option Nat → Int
  | none => -1
  | some o => o

set_option maxHeartbeats 2000000 in
set_option maxRecDepth 100000 in
theorem sections_iter (s b : List UInt8) (Bs Bb N : Nat) (bs : List Nat) (w0 : World) (hS : Boxed w0 Bs 9 (vstr s)) (hB : Boxed w0 Bb 9 (vstr b)) (hN1 : Bs < N) (hN2 : Bb < N) (hb1 : Bs ∉ bs) (hb2 : Bb ∉ bs) (hs : s.length ≤ 1073741824) (hb : b.length ≤ 1073741824) :
    Iter Tryz.prog 70 #[.pointer (some ⟨Bs, 0, none⟩), .pointer (some ⟨Bb, 0, none⟩)] encS (Old N bs) (sectionsB s b) w0 := by
  intro n hn ll J Jx W hW hJ hJx hY h0
  have hSW : Boxed W Bs 9 (vstr s) := Boxed.ext hW hS
  have hBW : Boxed W Bb 9 (vstr b) := Boxed.ext hW hB
  refine callsIn_of_wp Tryz.func70 rfl trivial ?_ rfl
  simp only [Tryz.ntmps70, List.size_toArray, List.length_cons, List.length_nil, Nat.reduceAdd, Nat.reduceSub, Array.replicate_succ, Array.replicate_zero, List.push_toArray, List.append_toArray, List.nil_append, List.cons_append]
  gi_wp2
  gi_loopw [4, 5] (fun o i wr => ∃ (a : Nat) (op : Option Nat) (pre : List {x : List UInt8 // x ∈ sectionsB s b}), a ≤ s.length ∧ (∀ k, op = some k → k ≤ a) ∧ i = .int .i64 a ∧ o = .int .i64 (openN op) ∧
      sectionsB s b = pre.map (·.1) ++ secGo s b (rawGo (s.drop a) [] a a) op ∧ J pre wr ∧ Boxed wr Bs 9 (vstr s) ∧ Boxed wr Bb 9 (vstr b) ∧ W.heap.size ≤ wr.heap.size)
    (fun _ i _ => s.length - (intOf i).toNat)
  case atStart => exact ⟨0, none, [], Nat.zero_le _, (by intro k hk; cases hk), rfl, rfl, rfl, h0, hSW, hBW, Nat.le_refl _⟩
  case round =>
    obtain ⟨a, op, pre, ha, hop, rfl, rfl, hpre, hj, bS, bB, hsz⟩ := hrel
    have cS := bS.cell
    have cB := bB.cell
    have Hpre := Lib.hid hpre
    have HY := Lib.hid hY
    have Hop := Lib.hid hop
    clear hpre hY h0 hBW hB hSW hS hop
    by_cases hlt : a < s.length
    · obtain ⟨nx, hnx, hnx1, hnx2, hst⟩ := rawGo_step s a hlt
      have hl1 : (s.drop a).length ≤ s.length := by simp
      have hc1 := cut1_len1 10 (s.drop a)
      have Hst := Lib.hid hst
      have Hnx := Lib.hid hnx
      clear hst hnx
      gi_wp2
      rw [extract_dropL]
      refine ⟨trivial, fun _ => by omega, (inW _ (cut_l (s.drop a) 10 _ (by omega))).mono ?_⟩
      rintro e w2 ⟨rfl, x2⟩
      have cS2 := x2.holds cS
      have cB2 := x2.holds cB
      obtain ⟨lc, hlc⟩ : ∃ lc, lc = (cut1 10 (s.drop a)).1 := ⟨_, rfl⟩
      rw [← hlc] at hc1 Hst Hnx ⊢
      clear hlc
      have hmin : min (s.length : Int) ((a : Int) + lc.length + 1) = (nx : Int) := by rw [Hnx.out]; omega
      gi_wp2
      refine ⟨trivial, fun _ => by omega, (inW _ (delim_l lc b _ (by omega) hb)).mono ?_⟩
      rintro e w3 ⟨rfl, x3⟩
      have x23 := x2.trans x3
      have bS3 := Boxed.ext x23 bS
      have bB3 := Boxed.ext x23 bB
      have cS3 := bS3.cell
      have j3 := hJ pre _ _ _ hj (grownBy_of_ext x23) (fun r e => by cases e)
      have hsz3 : W.heap.size ≤ w3.heap.size := Nat.le_trans hsz x23.size
      have hsg : secGo s b ((lc, a, nx) :: rawGo (s.drop nx) [] nx nx) op = if (delimB lc b).1 then
          flushB s a op ++ (if (delimB lc b).2 then [] else secGo s b (rawGo (s.drop nx) [] nx nx) (some nx)) else secGo s b (rawGo (s.drop nx) [] nx nx) op := by rw [secGo]
      have hp := Hpre.out
      rw [Hst.out, hsg] at hp
      obtain ⟨d1, hd1⟩ : ∃ d1, d1 = (delimB lc b).1 := ⟨_, rfl⟩
      obtain ⟨d2, hd2⟩ : ∃ d2, d2 = (delimB lc b).2 := ⟨_, rfl⟩
      rw [← hd1, ← hd2] at hp ⊢
      have Hp := Lib.hid hp
      clear hp hsg hd1 hd2 Hst Hpre cS2 cB2 x2 x3 x23 hj
      cases d1
      · have hp2 : Hid (sectionsB s b = pre.map (·.1) ++ secGo s b (rawGo (s.drop nx) [] nx nx) op) := Lib.hid (Hp.out.trans (by simp))
        gi_wp2
        refine ⟨fun _ h => (by cases h), ?_⟩
        gi_wp2
        go_roundw
        case rel => exact ⟨nx, op, pre, hnx2, fun k hk => by have := Hop.out k hk; omega, rfl, rfl, hp2.out, j3, bS3, bB3, hsz3⟩
        case measure => simp [intOf]; omega
      · cases op with
        | none =>
          cases d2
          · have hp2 : Hid (sectionsB s b = pre.map (·.1) ++ secGo s b (rawGo (s.drop nx) [] nx nx) (some nx)) := Lib.hid (Hp.out.trans (by simp [flushB]))
            simp only [openN]
            gi_wp2
            refine ⟨fun _ h => (by cases h), ?_⟩
            gi_wp2
            go_roundw
            case rel => exact ⟨nx, some nx, pre, hnx2, fun k hk => by cases hk; exact Nat.le_refl _, rfl, rfl, hp2.out, j3, bS3, bB3, hsz3⟩
            case measure => simp [intOf]; omega
          · have hp2 : Hid (pre.map (·.1) = sectionsB s b) := Lib.hid ((Hp.out.trans (by simp [flushB])).symm)
            simp only [openN]
            gi_wp2
            refine ⟨fun _ h => (by cases h), ?_⟩
            gi_wp2
            refine bodyPost_ret (results_none rfl _ _ _) rfl ?_
            exact ⟨⟨_, rfl⟩, .inl ⟨pre, hp2.out, j3⟩⟩
        | some o =>
          have ho := Hop.out o rfl
          obtain ⟨M, hM⟩ : ∃ M, M = max o (a - 1) := ⟨_, rfl⟩
          have hmax : max (o : Int) ((a : Int) - 1) = (M : Int) := by rw [hM]; omega
          have c0 : (0 : Int) ≤ o := by omega
          have c1 : (o : Int) ≤ M := by omega
          have c2 : (M : Int) ≤ s.length := by omega
          have hfl : flushB s a (some o) = [sub s o M] := by rw [hM]; rfl
          have hp1 := Hp.out
          rw [hfl] at hp1
          have Hp1 := Lib.hid hp1
          have hmem : sub s o M ∈ sectionsB s b := by have := Hp1.out; exact this.symm ▸ (by simp)
          have hlen : pre.length < (sectionsB s b).length := by have := congrArg List.length hp1; simp at this; omega
          clear hp1 hfl hM
          obtain ⟨fn, tmps, assign, body, hy, hR⟩ := HY.out pre ⟨sub s o M, hmem⟩ w3 j3 hlen
          simp only [encS, vstr, ← extract_sub] at hy
          simp only [openN]
          gi_wp2
          refine ⟨fun _ => by omega, hR.mono ?_⟩
          rintro e w4 (⟨rfl, hJ4, hk4⟩ | ⟨rfl, hJx4⟩)
          · have bS4 := hk4.boxed hN1 hb1 bS3
            have bB4 := hk4.boxed hN2 hb2 bB3
            have hsz4 := Nat.le_trans hsz3 hk4.size
            cases d2
            · have hp2 : Hid (sectionsB s b = (pre ++ [(⟨sub s o M, hmem⟩ : {x : List UInt8 // x ∈ sectionsB s b})]).map (·.1) ++ secGo s b (rawGo (s.drop nx) [] nx nx) (some nx)) := Lib.hid (Hp1.out.trans (by simp))
              gi_wp2
              go_roundw
              case rel => exact ⟨nx, some nx, pre ++ [⟨sub s o M, hmem⟩], hnx2, fun k hk => by cases hk; exact Nat.le_refl _, rfl, rfl, hp2.out, hJ4, bS4, bB4, hsz4⟩
              case measure => simp [intOf]; omega
            · have hp2 : Hid ((pre ++ [(⟨sub s o M, hmem⟩ : {x : List UInt8 // x ∈ sectionsB s b})]).map (·.1) = sectionsB s b) := Lib.hid ((Hp1.out.trans (by simp)).symm)
              gi_wp2
              refine bodyPost_ret (results_none rfl _ _ _) rfl ?_
              exact ⟨⟨_, rfl⟩, .inl ⟨pre ++ [⟨sub s o M, hmem⟩], hp2.out, hJ4⟩⟩
          · gi_wp2
            refine bodyPost_ret (results_none rfl _ _ _) rfl ?_
            exact ⟨⟨_, rfl⟩, .inr ⟨pre ++ [⟨sub s o M, hmem⟩], ⟨_, by rw [List.map_append]; exact (Hp1.out.trans (by simp only [List.map_cons, List.map_nil, List.append_assoc]; rfl)).symm⟩, hJx4⟩⟩
    · have ha2 : a = s.length := by omega
      have hp := Hpre.out
      rw [List.drop_of_length_le (by omega)] at hp
      cases op with
      | none =>
        have hp2 : Hid (pre.map (·.1) = sectionsB s b) := Lib.hid ((hp.trans (by simp [rawGo, secGo])).symm)
        clear hp
        simp only [openN]
        gi_wp2
        go_end0
        exact ⟨⟨_, rfl⟩, .inl ⟨pre, hp2.out, hj⟩⟩
      | some o =>
        have ho := Hop.out o rfl
        have hp1 : sectionsB s b = pre.map (·.1) ++ [s.drop o] := hp.trans (by simp [rawGo, secGo])
        have Hp1 := Lib.hid hp1
        have hmem : s.drop o ∈ sectionsB s b := by have := Hp1.out; exact this.symm ▸ (by simp)
        have hlen : pre.length < (sectionsB s b).length := by have := congrArg List.length hp1; simp at this; omega
        clear hp1 hp
        have c0 : (0 : Int) ≤ o := by omega
        have c1 : (o : Int) ≤ s.length := by omega
        obtain ⟨fn, tmps, assign, body, hy, hR⟩ := HY.out pre ⟨s.drop o, hmem⟩ wr hj hlen
        simp only [encS, vstr, ← extract_dropL] at hy
        simp only [openN]
        gi_wp2
        refine ⟨fun _ => by omega, hR.mono ?_⟩
        rintro e w4 (⟨rfl, hJ4, hk4⟩ | ⟨rfl, hJx4⟩)
        · have hp2 : Hid ((pre ++ [(⟨s.drop o, hmem⟩ : {x : List UInt8 // x ∈ sectionsB s b})]).map (·.1) = sectionsB s b) := Lib.hid ((Hp1.out.trans (by simp)).symm)
          gi_wp2
          go_end0
          exact ⟨⟨_, rfl⟩, .inl ⟨pre ++ [⟨s.drop o, hmem⟩], hp2.out, hJ4⟩⟩
        · gi_wp2
          go_end0
          exact ⟨⟨_, rfl⟩, .inr ⟨pre ++ [⟨s.drop o, hmem⟩], ⟨[], (Hp1.out.trans (by simp)).symm⟩, hJx4⟩⟩
end Go.Proofs.YtdjcjkpodggdpaaGreatDoor
