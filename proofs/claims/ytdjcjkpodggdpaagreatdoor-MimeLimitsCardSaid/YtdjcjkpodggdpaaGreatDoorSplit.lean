/- strings.SplitSeq at a separator of one byte. -/
import Derived.Test.YtdjcjkpodggdpaaGreatDoorSteps
import Derived.Test.YtdjcjkpodggdpaaGreatDoorALib
namespace Go.Proofs.YtdjcjkpodggdpaaGreatDoor
open Go.RowKit
attribute [local go_sem] Oper.semAt_some

/-- The pieces between the separators; cur: what the piece under way holds. -/
def splitGo (c : UInt8) : List UInt8 → List UInt8 → List (List UInt8)
  | [], cur => [cur]
  | x :: t, cur => if x = c then cur :: splitGo c t [] else splitGo c t (cur ++ [x])
def splitB (c : UInt8) (l : List UInt8) : List (List UInt8) := splitGo c l []
theorem splitGo_cut (c : UInt8) : ∀ l cur : List UInt8, splitGo c l cur = if (cut1 c l).2.2 then (cur ++ (cut1 c l).1) :: splitB c (cut1 c l).2.1 else [cur ++ l] := by
  intro l
  induction l with
  | nil => intro cur; simp [splitGo, cut1_nil]
  | cons x t ih =>
    intro cur
    by_cases h : x = c
    · subst h
      rw [cut1_hit]
      simp [splitGo, splitB]
    · rw [cut1_miss _ h, splitGo, if_neg h, ih]
      simp
theorem splitB_cut (c : UInt8) (l : List UInt8) : splitB c l = if (cut1 c l).2.2 then (cut1 c l).1 :: splitB c (cut1 c l).2.1 else [l] := by
  have := splitGo_cut c l []
  simpa [splitB] using this
theorem splitGo_len (c : UInt8) : ∀ l cur : List UInt8, (splitGo c l cur).length ≤ l.length + 1 ∧ ∀ p ∈ splitGo c l cur, p.length ≤ cur.length + l.length := by
  intro l
  induction l with
  | nil => intro cur; simp [splitGo]
  | cons x t ih =>
    intro cur
    simp only [splitGo]
    split
    · obtain ⟨h1, h2⟩ := ih []
      refine ⟨by simp only [List.length_cons]; omega, fun p hp => ?_⟩
      rcases List.mem_cons.1 hp with rfl | hp
      · simp
      · have := h2 p hp
        simp at this ⊢
        omega
    · obtain ⟨h1, h2⟩ := ih (cur ++ [x])
      refine ⟨by simp only [List.length_cons]; omega, fun p hp => ?_⟩
      have := h2 p hp
      simp at this ⊢
      omega
theorem splitB_len (c : UInt8) (l : List UInt8) : (splitB c l).length ≤ l.length + 1 := (splitGo_len c l []).1
theorem splitB_le {c : UInt8} {l p : List UInt8} (h : p ∈ splitB c l) : p.length ≤ l.length := by have := (splitGo_len c l []).2 p h; simpa using this
def encW (x : List UInt8) : Array Value := #[vstr x]
/-- The iterator's own step: what is left is stored. -/
def StS (B : Nat) (A A' : World) : Prop := ∃ r, A' = A.setCell ⟨B, 0, none⟩ (vstr r)
def lenAt (W : World) (B : Nat) : Nat := match W.cell? ⟨B, 0, none⟩ with | some (.string s) => s.size | _ => 0

theorem splitSeq_any (s sep : List UInt8) (w : World) :
    Calls Tryz.prog 12 #[vstr s, vstr sep] w fun e w' => e = .returned (.func (.func 45) #[] #[.pointer (some ⟨w.heap.size + 1, 0, none⟩), .pointer (some ⟨w.heap.size, 0, none⟩), .pointer (some ⟨w.heap.size + 1 + 1, 0, none⟩)]) ∧
      w' = ((w.alloc (.cells #[vstr s] 9)).alloc (.cells #[vstr sep] 9)).alloc (.cells #[.int .i64 0] 3) := by
  go_enter Tryz.func12, Tryz.ntmps12
  go_wp2_with go_in
  go_ret
  exact ⟨rfl, rfl⟩

set_option maxHeartbeats 2000000 in
set_option maxRecDepth 100000 in
theorem split_iter (c : UInt8) (l : List UInt8) (Bs Bp Bv N : Nat) (bs : List Nat) (w0 : World) (hS : Boxed w0 Bs 9 (vstr l)) (hP : Boxed w0 Bp 9 (vstr [c])) (hV : Boxed w0 Bv 3 (.int .i64 0)) (hN1 : Bs < N) (hN2 : Bp < N) (hN3 : Bv < N)
    (hb1 : Bs ∉ bs) (hb2 : Bp ∉ bs) (hb3 : Bv ∉ bs) (hne1 : Bp ≠ Bs) (hne2 : Bv ≠ Bs) (hs : l.length ≤ 1073741824) :
    IterSt Tryz.prog 45 #[.pointer (some ⟨Bp, 0, none⟩), .pointer (some ⟨Bs, 0, none⟩), .pointer (some ⟨Bv, 0, none⟩)] encW (Old N bs) (StS Bs) (splitB c l) w0 := by
  intro n ll J Jx W hn hW hJ hJx hJS hY h0
  have hSW := Boxed.ext hW hS
  have hPW := Boxed.ext hW hP
  have hVW := Boxed.ext hW hV
  have cS := hSW.cell
  have cP := hPW.cell
  have HY := Lib.hid hY
  have HJS := Lib.hid hJS
  clear hY hS hP hV hJS
  refine callsIn_of_wp Tryz.func45 rfl trivial ?_ rfl
  simp only [Tryz.ntmps45, List.size_toArray, List.length_cons, List.length_nil, Nat.reduceAdd, Nat.reduceSub, Array.replicate_succ, Array.replicate_zero, List.push_toArray, List.append_toArray, List.nil_append, List.cons_append]
  gi_wp2
  gi_loopw [7] (fun _ wr => ∃ (pre : List {x : List UInt8 // x ∈ splitB c l}) (r : List UInt8), r.length ≤ l.length ∧ splitB c l = pre.map (·.1) ++ splitB c r ∧ J pre wr ∧ Boxed wr Bs 9 (vstr r) ∧ Boxed wr Bp 9 (vstr [c]) ∧ Boxed wr Bv 3 (.int .i64 0))
    (fun _ wr => lenAt wr Bs)
  case atStart => exact ⟨[], l, Nat.le_refl _, rfl, h0, hSW, hPW, hVW⟩
  case round =>
    obtain ⟨pre, r, hr, hpre, hj, bS, bP, bV⟩ := hrel
    have kS := bS.cell
    have kP := bP.cell
    have kV := bV.cell
    have Hpre := Lib.hid hpre
    clear hpre h0 cS cP hSW hPW hVW
    rcases indexByte_cut r c with ⟨hix, hc⟩ | ⟨i, hix, hlt, hc⟩
    · have hp1 : splitB c l = pre.map (·.1) ++ [r] := Hpre.out.trans (congrArg (pre.map (·.1) ++ ·) (show splitB c r = [r] by rw [splitB_cut, hc]; rfl))
      have Hp1 := Lib.hid hp1
      have hmem : r ∈ splitB c l := by have := Hp1.out; exact this.symm ▸ (by simp)
      have hlen : pre.length < (splitB c l).length := by have := congrArg List.length hp1; simp at this; omega
      have Hix := Lib.hid hix
      clear hp1 hix hc
      gi_wp2
      refine ⟨trivial, fun _ => by omega, (inW _ (Tryz.strings_Index_one ⟨r.toArray⟩ c _)).mono ?_⟩
      rintro e w2 ⟨rfl, rfl⟩
      rw [Hix.out]
      obtain ⟨fn, tmps, assign, body, hy, hR⟩ := HY.out pre ⟨r, hmem⟩ w2 hj hlen
      simp only [encW] at hy
      gi_wp2
      refine ⟨fun _ => by omega, hR.mono ?_⟩
      rintro e w4 (⟨rfl, hJ4, hk4⟩ | ⟨rfl, hJx4⟩)
      · have hp2 : Hid ((pre ++ [(⟨r, hmem⟩ : {x : List UInt8 // x ∈ splitB c l})]).map (·.1) = splitB c l) := Lib.hid ((Hp1.out.trans (by simp)).symm)
        gi_wp2
        go_end0
        exact ⟨⟨_, rfl⟩, .inl ⟨pre ++ [⟨r, hmem⟩], hp2.out, hJ4⟩⟩
      · gi_wp2
        go_end0
        exact ⟨⟨_, rfl⟩, .inr ⟨pre ++ [⟨r, hmem⟩], ⟨[], (Hp1.out.trans (by simp)).symm⟩, hJx4⟩⟩
    · have hp1 : splitB c l = pre.map (·.1) ++ (r.take i :: splitB c (r.drop (i + 1))) := Hpre.out.trans (congrArg (pre.map (·.1) ++ ·) (show splitB c r = r.take i :: splitB c (r.drop (i + 1)) by rw [splitB_cut, hc]; rfl))
      have Hp1 := Lib.hid hp1
      have hmem : r.take i ∈ splitB c l := by have := Hp1.out; exact this.symm ▸ (by simp)
      have hlen : pre.length < (splitB c l).length := by have := congrArg List.length hp1; simp at this; omega
      have Hix := Lib.hid hix
      have e1 : (⟨r.toArray⟩ : ByteArray).extract 0 i = ⟨(r.take i).toArray⟩ := extract_take ⟨r.toArray⟩ i
      have e2 : (⟨r.toArray⟩ : ByteArray).extract (i + 1) r.length = ⟨(r.drop (i + 1)).toArray⟩ := extract_drop ⟨r.toArray⟩ (i + 1)
      have c0 : (0 : Int) ≤ i := by omega
      have c1 : (i : Int) ≤ r.length := by omega
      have c2 : (0 : Int) ≤ (i : Int) + 1 := by omega
      have c3 : (i : Int) + 1 ≤ r.length := by omega
      clear hp1 hix hc
      obtain ⟨fn, tmps, assign, body, hy, hR⟩ := HY.out pre ⟨r.take i, hmem⟩ wr hj hlen
      simp only [encW] at hy
      gi_wp2
      refine ⟨trivial, fun _ => by omega, (inW _ (Tryz.strings_Index_one ⟨r.toArray⟩ c _)).mono ?_⟩
      rintro e w2 ⟨rfl, rfl⟩
      rw [Hix.out]
      gi_wp2
      refine ⟨fun _ => by omega, hR.mono ?_⟩
      rintro e w4 (⟨rfl, hJ4, hk4⟩ | ⟨rfl, hJx4⟩)
      · have bS4 := hk4.boxed hN1 hb1 bS
        have bP4 := hk4.boxed hN2 hb2 bP
        have bV4 := hk4.boxed hN3 hb3 bV
        have kS4 := bS4.cell
        have kf4 := bS4.frozen
        have kP4 := bP4.cell
        have hp2 : Hid (splitB c l = (pre ++ [(⟨r.take i, hmem⟩ : {x : List UInt8 // x ∈ splitB c l})]).map (·.1) ++ splitB c (r.drop (i + 1))) := Lib.hid (Hp1.out.trans (by simp))
        gi_wp2
        go_roundw
        case rel => exact ⟨pre ++ [⟨r.take i, hmem⟩], r.drop (i + 1), by simp; omega, hp2.out, HJS.out _ _ _ hJ4 ⟨_, rfl⟩, Boxed.set _ bS4, bP4.other hne1 _, bV4.other hne2 _⟩
        case measure =>
          have h1 := (Boxed.set (vstr (r.drop (i + 1))) bS4).cell
          simp only [lenAt, h1, kS, size_mk, List.length_drop]
          omega
      · gi_wp2
        refine bodyPost_ret (results_none rfl _ _ _) rfl ?_
        exact ⟨⟨_, rfl⟩, .inr ⟨pre ++ [⟨r.take i, hmem⟩], ⟨splitB c (r.drop (i + 1)), by rw [List.map_append]; exact (Hp1.out.trans (by simp)).symm⟩, hJx4⟩⟩
end Go.Proofs.YtdjcjkpodggdpaaGreatDoor
