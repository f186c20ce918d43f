/- The contract of mime.divide. -/
import Derived.Test.YtdjcjkpodggdpaaGreatDoorBColl
import Derived.Test.YtdjcjkpodggdpaaGreatDoorBMimeA
namespace Go.Proofs.YtdjcjkpodggdpaaGreatDoor
open Go.RowKit
attribute [local go_sem] Oper.semAt_some

def bdB : List UInt8 := [98, 111, 117, 110, 100, 97, 114, 121]
/-- The boundary among the params: the last one. -/
def bdOf (ps : List (List UInt8 × List UInt8)) : List UInt8 := ps.foldl (fun b x => if x.1 = bdB then x.2 else b) []
def restOf (ps : List (List UInt8 × List UInt8)) : List (List UInt8 × List UInt8) := ps.filter (fun x => !(x.1 == bdB))
def divideB (ty : List UInt8) (ps : List (List UInt8 × List UInt8)) (c : List UInt8) : List (List UInt8) × List (List UInt8 × List UInt8) :=
  if ty = rfcB then ([c], ps) else if bdOf ps = [] ∨ 70 < (bdOf ps).length then ([], restOf ps) else (sectionsB c (bdOf ps), restOf ps)

theorem Tryz.info75c : (Tryz.prog.info? 75).map (fun i => (i.zero, i.size, i.bytes)) = some (some (.agg #[.string ByteArray.empty, .string ByteArray.empty]), 2, 32) := by kernel_rfl

theorem bdOf_snoc (ps : List (List UInt8 × List UInt8)) (k : Nat) (hk : k < ps.length) : bdOf (ps.take (k + 1)) = if ps[k].1 = bdB then ps[k].2 else bdOf (ps.take k) := by
  rw [bdOf, List.take_succ_eq_append_getElem hk, List.foldl_append]; rfl
theorem restOf_snoc (ps : List (List UInt8 × List UInt8)) (k : Nat) (hk : k < ps.length) : restOf (ps.take (k + 1)) = if ps[k].1 = bdB then restOf (ps.take k) else restOf (ps.take k) ++ [ps[k]] := by
  rw [restOf, List.take_succ_eq_append_getElem hk, List.filter_append]
  by_cases h : ps[k].1 = bdB <;> simp [restOf, h]
theorem sectionsB_len : ∀ s b : List UInt8, (sectionsB s b).length ≤ s.length + 1 := by
  have h : ∀ (x : List (List UInt8 × Nat × Nat)) (s b : List UInt8) (op), (secGo s b x op).length ≤ x.length + (if op.isSome then 1 else 0) := by
    intro x
    induction x with
    | nil => intro s b op; cases op <;> simp [secGo]
    | cons x t ih =>
      intro s b op
      simp only [secGo]
      split
      · have := ih s b (some x.2.2)
        simp only [List.length_append]
        cases op <;> simp [flushB] <;> split <;> simp at this ⊢ <;> omega
      · have := ih s b op
        cases op <;> simp at this ⊢ <;> omega
  have g : ∀ (l cur : List UInt8) (st a : Nat), (rawGo l cur st a).length ≤ l.length + 1 := by
    intro l
    induction l with
    | nil => intro cur st a; simp only [rawGo]; split <;> simp
    | cons c t ih =>
      intro cur st a
      simp only [rawGo]
      split
      · have := ih [] (a + 1) (a + 1); simp; omega
      · have := ih (cur ++ [c]) st (a + 1); simp; omega
  intro s b
  have h1 := h (rawGo s [] 0 0) s b none
  have h2 := g s [] 0 0
  simp at h1
  rw [sectionsB]
  omega

set_option maxHeartbeats 4000000 in
set_option maxRecDepth 100000 in
theorem divide_l (af ap aq : Option Addr) (nf np nq cf cp cq : Nat) (ty body c : List UInt8) (ps : List (List UInt8 × List UInt8)) (w : World) (hp : Pairs0 w (.slice ap np cp) ps) (hl : ps.length ≤ 1073741824) (hc : c.length ≤ 536870912) :
    Calls Tryz.prog 22 #[.agg #[.slice af nf cf, vstr ty, .slice ap np cp, vstr body, .slice aq nq cq], vstr c] w fun e w' => ∃ v1 v2, e = .returned (.tuple #[v1, v2]) ∧ Strs0 w' v1 (divideB ty ps c).1 ∧ Pairs0 w' v2 (divideB ty ps c).2 ∧ Ext w w' := by
  obtain ⟨i0, hi, hz0, hz1, hz2⟩ := info_parts Tryz.info75c
  have Hp := Lib.hid hp
  clear hp
  by_cases hty : ty = rfcB
  · subst hty
    have h2 : Hid (divideB rfcB ps c = ([c], ps)) := Lib.hid (if_pos rfl)
    have hx : Ext w (((w.alloc (.cells #[.slice af nf cf, vstr rfcB, .slice ap np cp, vstr body, .slice aq nq cq] 27)).alloc (.cells #[vstr c] 9)).drew) := (((Ext.refl w).alloc _).alloc _).drew
    have hs : Strs0 (((w.alloc (.cells #[.slice af nf cf, vstr rfcB, .slice ap np cp, vstr body, .slice aq nq cq] 27)).alloc (.cells #[vstr c] 9)).drew) (.slice (some ⟨w.heap.size + 1, 0, none⟩) 1 1) [c] := by
      refine .inr ⟨by simp, _, _, rfl, Nat.le_refl _, fun i hi => ?_⟩
      obtain rfl : i = 0 := by simpa using hi
      have := cell_new (w.alloc (.cells #[.slice af nf cf, vstr rfcB, .slice ap np cp, vstr body, .slice aq nq cq] 27)) (vstr c) 9
      rw [World.size_alloc] at this
      rw [World.cell?_drew]
      exact this
    have Hx := Lib.hid hx
    have Hs := Lib.hid hs
    clear hx hs
    go_enter Tryz.func22, Tryz.ntmps22
    go_wp2
    go_region
    all_goals go_wp2
    all_goals go_ret2
    all_goals exact ⟨_, _, rfl, by rw [h2.out]; exact Hs.out, by rw [h2.out]; exact (Hp.out).ext Hx.out, Hx.out⟩
  · have hty1 : (ty == [109, 101, 115, 115, 97, 103, 101, 47, 114, 102, 99, 56, 50, 50]) = false := beq_eq_false_iff_ne.2 hty
    obtain ⟨D, hD⟩ : ∃ D, D = divideB ty ps c := ⟨_, rfl⟩
    rw [← hD]
    have HD : Hid (D = if bdOf ps = [] ∨ 70 < (bdOf ps).length then ([], restOf ps) else (sectionsB c (bdOf ps), restOf ps)) := Lib.hid (by rw [hD, divideB, if_neg hty])
    clear hty hD
    go_enter Tryz.func22, Tryz.ntmps22
    go_wp2
    have hx0 : Ext w (w.alloc (.cells #[.slice af nf cf, vstr ty, .slice ap np cp, vstr body, .slice aq nq cq] 27)) := (Ext.refl w).alloc _
    obtain ⟨w1, hw1⟩ : ∃ w1, w1 = w.alloc (.cells #[.slice af nf cf, vstr ty, .slice ap np cp, vstr body, .slice aq nq cq] 27) := ⟨_, rfl⟩
    rw [← hw1] at hx0 ⊢
    clear hw1
    have hnp : np = ps.length := by
      rcases (Hp.out).at with ⟨rfl, a, c, h⟩ | ⟨_, b, o, c, h, _⟩ <;> cases h <;> rfl
    subst hnp
    go_loopw [6, 7, 20] (fun v b i wr => ∃ k : Nat, k ≤ ps.length ∧ i = .int .i64 k ∧ b = vstr (bdOf (ps.take k)) ∧ wr.ownsRow w.heap.size 75 2 v (restOf (ps.take k)).length (pairCells (restOf (ps.take k))) ∧ Ext w wr)
      (fun _ _ i _ => ps.length - (intOf i).toNat)
    case atStart => exact ⟨0, Nat.zero_le _, rfl, rfl, World.ownsRow_nil _ _ _ _, hx0⟩
    case round =>
      obtain ⟨k, hk, rfl, rfl, ho, hx⟩ := hrel
      by_cases hlt : k < ps.length
      · rcases (Hp.out).at with ⟨rfl, _⟩ | ⟨hne, bb, o, c', he, hcl, hcells⟩
        · simp at hlt
        cases he
        obtain ⟨hc1, hc2⟩ := hcells k hlt
        have hd1 := hx.holds hc1
        have hd2 := hx.holds hc2
        have hb1 := bdOf_snoc ps k hlt
        have hr1 := restOf_snoc ps k hlt
        have hrl : (restOf (ps.take k)).length ≤ ps.length := Nat.le_trans (List.length_filter_le _ _) (by simp; omega)
        obtain ⟨R, hR⟩ : ∃ R, R = restOf (ps.take k) := ⟨_, rfl⟩
        obtain ⟨Bd, hBd⟩ : ∃ Bd, Bd = bdOf (ps.take k) := ⟨_, rfl⟩
        rw [← hR] at ho hrl hr1
        rw [← hBd] at hb1 ⊢
        obtain ⟨nm, hnm⟩ : ∃ nm, nm = ps[k].1 := ⟨_, rfl⟩
        obtain ⟨vl, hvl⟩ : ∃ vl, vl = ps[k].2 := ⟨_, rfl⟩
        have hpk : ps[k] = (nm, vl) := by rw [hnm, hvl]
        rw [← hnm] at hd1 hb1 hr1
        rw [← hvl] at hd2 hb1
        rw [hpk] at hr1
        have Hb1 := Lib.hid hb1
        have Hr1 := Lib.hid hr1
        have hsz : w.heap.size ≤ wr.heap.size := hx.size
        have Hx := Lib.hid hx
        clear hcells hc1 hc2 hb1 hr1 hR hBd hnm hvl hpk hx hne hx0
        by_cases hnb : nm = bdB
        · have h1 : Hid (bdOf (ps.take (k + 1)) = vl) := Lib.hid (by rw [Hb1.out, if_pos hnb])
          have h2 : Hid (restOf (ps.take (k + 1)) = R) := Lib.hid (by rw [Hr1.out, if_pos hnb])
          have h3 : (nm == [98, 111, 117, 110, 100, 97, 114, 121]) = true := by rw [hnb]; rfl
          clear hnb Hb1 Hr1
          go_wp2
          go_roundw
          case rel => exact ⟨k + 1, by omega, by go_num, by rw [h1.out], by rw [h2.out]; exact ownsRow_ext ((Ext.refl wr).alloc _) ho, (Hx.out).alloc _⟩
          case measure => simp [intOf]; omega
        · have h1 : Hid (bdOf (ps.take (k + 1)) = Bd) := Lib.hid (by rw [Hb1.out, if_neg hnb])
          have h2 : Hid (restOf (ps.take (k + 1)) = R ++ [(nm, vl)]) := Lib.hid (by rw [Hr1.out, if_neg hnb])
          have h3 : (nm == [98, 111, 117, 110, 100, 97, 114, 121]) = false := beq_eq_false_iff_ne.2 hnb
          have x2 : Ext wr (wr.alloc (.cells #[vstr nm, vstr vl] 75)) := (Ext.refl wr).alloc _
          have own2 := ownsRow_ext x2 ho
          have hsz2 : w.heap.size ≤ (wr.alloc (.cells #[vstr nm, vstr vl] 75)).heap.size := by have := x2.size; omega
          clear hnb Hb1 Hr1
          go_wp2_with (at_builtin; refine wpList_append1 (wr.alloc (.cells #[vstr nm, vstr vl] 75)) 75 [vstr nm, vstr vl] rfl (.tmp 29) (.tmp 31) 24 rfl w.heap.size i0 (.agg #[.string ByteArray.empty, .string ByteArray.empty]) 2 32 Tryz.underlying24 hi hz0 hz1 hz2 rfl (by decide) _ _ _ rfl own2 1 ?hx rfl (by simp [Value.oneCell']) (by omega) (by omega) hsz2 ?k; (case hx => go_loud (rw [World.size_alloc]; rfl)); intro g cap w10 own10 hb10 _)
          go_roundw
          case rel => exact ⟨k + 1, by omega, by go_num, by rw [h1.out], by rw [h2.out]; simpa [pairCells_snoc] using own10, ((Hx.out).trans x2).upon (hb10.mono (by omega))⟩
          case measure => simp [intOf]; omega
      · obtain rfl : k = ps.length := by omega
        rw [List.take_length] at ho ⊢
        have HR : Hid (Pairs0 wr u6 (restOf ps)) := Lib.hid (Pairs0.of_owns ho)
        obtain ⟨ao, cap, rfl⟩ := ownsRow_slice ho
        obtain ⟨Bd, hBd⟩ : ∃ Bd, Bd = bdOf ps := ⟨_, rfl⟩
        rw [← hBd]
        have Hx := Lib.hid hx
        clear ho hx0 hx
        by_cases he : Bd = []
        · have h2 : Hid (D = ([], restOf ps)) := Lib.hid (by rw [HD.out, ← hBd, if_pos (.inl he)])
          clear hBd HD
          subst he
          go_wp2
          go_ret2
          rw [h2.out]
          exact ⟨_, _, rfl, .inl ⟨rfl, _, _, rfl⟩, HR.out, Hx.out⟩
        · by_cases h70 : 70 < Bd.length
          · have h2 : Hid (D = ([], restOf ps)) := Lib.hid (by rw [HD.out, ← hBd, if_pos (.inr h70)])
            have he1 : (Bd == []) = false := beq_eq_false_iff_ne.2 he
            have d1 : decide (70 < (Bd.length : Int)) = true := by rw [decide_eq_true_eq]; omega
            clear hBd he HD
            go_wp2
            go_ret2
            rw [h2.out]
            exact ⟨_, _, rfl, .inl ⟨rfl, _, _, rfl⟩, HR.out, Hx.out⟩
          · have h2 : Hid (D = (sectionsB c Bd, restOf ps)) := Lib.hid (by rw [HD.out, ← hBd, if_neg (by simp [he, h70])])
            have he1 : (Bd == []) = false := beq_eq_false_iff_ne.2 he
            have d1 : decide (70 < (Bd.length : Int)) = false := by rw [decide_eq_false_iff_not]; omega
            clear hBd he HD
            have hsl := sectionsB_len c Bd
            have hcol := collect_any 70 #[.pointer (some ⟨wr.heap.size, 0, none⟩), .pointer (some ⟨wr.heap.size + 1, 0, none⟩)] (enters_of Tryz.func70 (by kernel_rfl) rfl) (sectionsB c Bd) (by omega) ((wr.alloc (.cells #[vstr c] 9)).alloc (.cells #[vstr Bd] 9))
              (sections_iter c Bd wr.heap.size (wr.heap.size + 1) _ _ _ (((Boxed.new wr _ _).alloc _).alloc _) (by have := Boxed.new (wr.alloc (.cells #[vstr c] 9)) 9 (vstr Bd); rw [World.size_alloc] at this; exact this.alloc _) (by simp; omega) (by simp) (by simp; omega) (by simp) (by omega) (by omega))
            have Hcol := Lib.hid hcol
            clear hcol
            go_wp2_with fail
            refine (sections_any c Bd _).mono ?_
            rintro e w2 ⟨rfl, rfl⟩
            go_wp2_with fail
            refine Hcol.out.mono ?_
            rintro e w3 ⟨v, rfl, h1, x3⟩
            go_wp2
            go_ret2
            have x2 : Ext wr w3 := (((Ext.refl wr).alloc _).alloc _).trans x3
            rw [h2.out]
            exact ⟨_, _, rfl, h1, (HR.out).ext x2, (Hx.out).trans x2⟩
end Go.Proofs.YtdjcjkpodggdpaaGreatDoor
