/- slices.AppendSeq and slices.Collect over an iterator of strings; mime.sections. -/
import Derived.Test.YtdjcjkpodggdpaaGreatDoorBSecs
import Derived.Test.YtdjcjkpodggdpaaGreatDoorAParse
namespace Go.Proofs.YtdjcjkpodggdpaaGreatDoor
open Go.RowKit
attribute [local go_sem] Oper.semAt_some

theorem sections_any (s b : List UInt8) (w : World) :
    Calls Tryz.prog 44 #[vstr s, vstr b] w fun e w' => e = .returned (.func (.func 70) #[] #[.pointer (some ⟨w.heap.size, 0, none⟩), .pointer (some ⟨w.heap.size + 1, 0, none⟩)]) ∧ w' = (w.alloc (.cells #[vstr s] 9)).alloc (.cells #[vstr b] 9) := by
  go_enter Tryz.func44, Tryz.ntmps44
  go_wp2
  go_ret
  exact ⟨rfl, rfl⟩

theorem Tryz.info9c : (Tryz.prog.info? 9).map (fun i => (i.zero, i.size, i.bytes)) = some (some (.string ByteArray.empty), 1, 16) := by kernel_rfl

/-- A slice of strings that begins with its block. -/
def Strs0 (W : World) (v : Value) (l : List (List UInt8)) : Prop :=
  (l = [] ∧ ∃ a c, v = .slice a 0 c) ∨ (l ≠ [] ∧ ∃ b c, v = .slice (some ⟨b, 0, none⟩) l.length c ∧ l.length ≤ c ∧ ∀ i (hi : i < l.length), W.cell? ⟨b, i, none⟩ = some (vstr l[i]))
theorem Strs0.of_owns {W : World} {base : Nat} {e : TypeId} {v : Value} {l : List (List UInt8)} (h : W.ownsRow base e 1 v l.length (l.map vstr)) : Strs0 W v l := by
  by_cases hl : l = []
  · subst hl
    rcases h.2 with ⟨rfl, _⟩ | ⟨g, cap, cur, rfl, _⟩
    · exact .inl ⟨rfl, _, _, rfl⟩
    · exact .inl ⟨rfl, _, _, rfl⟩
  · rcases h.2 with ⟨_, h0⟩ | ⟨g, cap, cur, hv, hb, hg, hn, _⟩
    · exact absurd (List.length_eq_zero_iff.1 h0) hl
    · subst hv
      refine .inr ⟨hl, g, cap, rfl, hn, fun i hi => ?_⟩
      rw [World.ownsRow.cellAt h i (by omega)]
      simp [hi]
theorem Strs0.ext {a b : World} (h : Ext a b) {v : Value} {l : List (List UInt8)} (k : Strs0 a v l) : Strs0 b v l := by
  rcases k with k | ⟨hne, bl, c, rfl, hc, hcells⟩
  · exact .inl k
  · exact .inr ⟨hne, bl, c, rfl, hc, fun i hi => h.holds (hcells i hi)⟩
/-- Between two rounds of AppendSeq. -/
def SInv (b : Nat) (W0 : World) {xs : List (List UInt8)} (pre : List {x : List UInt8 // x ∈ xs}) (W : World) : Prop :=
  ∃ v, Boxed W b 54 v ∧ W.ownsRow b 9 1 v pre.length (pre.map (fun x => vstr x.1)) ∧ Old (b + 1) [b] W0 W
theorem SInv.abides {b B : Nat} {W0 : World} {xs : List (List UInt8)} (hB : b + 1 ≤ B) : ∀ (pre : List {x : List UInt8 // x ∈ xs}) W W', Ag B W W' → SInv b W0 pre W → SInv b W0 pre W' := by
  rintro pre W W' h ⟨v, h1, h2, h3⟩
  exact ⟨v, h.boxed h1, h.ownsRow h2, h.old h3 hB⟩

set_option maxHeartbeats 2000000 in
set_option maxRecDepth 100000 in
theorem appendSeq_any (gf : Nat) (lb : Array Value) (eg : ∀ args w, (callFunc gf args).run Tryz.prog w = .ok (.enter gf args) w) (xs : List (List UInt8)) (hlen : xs.length ≤ 1073741824) (w : World)
    (hit : Iter Tryz.prog gf lb encS (Old (w.heap.size + 1) [w.heap.size]) xs (w.alloc (.cells #[.slice none 0 0] 54))) :
    Calls Tryz.prog 69 #[.slice none 0 0, .func (.func gf) #[] lb] w fun e w' => ∃ v, e = .returned v ∧ Strs0 w' v xs ∧ Ext w w' := by
  obtain ⟨i0, hi, hz0, hz1, hz2⟩ := info_parts Tryz.info9c
  refine callsIn_wide (n := 12).1 ?_
  refine callsIn_of_wp_marks Tryz.func69 rfl trivial ?_ rfl
  simp only [Tryz.ntmps69, List.size_toArray, List.length_cons, List.length_nil, Nat.reduceAdd, Nat.reduceSub, Array.replicate_succ, Array.replicate_zero, List.push_toArray, List.append_toArray, List.nil_append, List.cons_append]
  gi_wp2
  obtain ⟨b, hb⟩ : ∃ b, b = w.heap.size := ⟨_, rfl⟩
  obtain ⟨W0, hW0⟩ : ∃ W0, W0 = w.alloc (.cells #[.slice none 0 0] 54) := ⟨_, rfl⟩
  have hsz0 : W0.heap.size = b + 1 := by rw [hW0, hb]; simp
  have x0 : Ext w W0 := by rw [hW0]; exact (Ext.refl w).alloc _
  have f0 : Boxed W0 b 54 (.slice none 0 0) := by rw [hW0, hb]; exact Boxed.new w _ _
  have hbw : b ≤ w.heap.size := by omega
  rw [← hW0, ← hb] at hit ⊢
  have Hb := Lib.hid hb
  clear hW0 hb
  refine wpIn_rangeFunc_ownH (F := Fence.wide) (n := 12) rfl (by omega) (gf := gf) (lb := lb) rfl trivial eg (hit 11 (by omega))
    Old.trans (fun W l' o o' h1 _ _ _ => Old.putObj W l' o' (by omega)) (Below.refl _ _) (fun _ => rfl)
    (SInv b W0) (fun _ _ _ => False) (ownFrom_of (SInv.abides (by omega))) (fun c => ownFrom_of (fun _ _ _ _ h => h))
    ⟨_, f0, World.ownsRow_nil _ _ _ _, Old.refl _ _ _⟩
    (fun x a' _ => a' = { tmps := #[.slice none 0 0, .func (.func gf) #[] lb, .pointer (some ⟨b, 0, none⟩), undef, .slice none 0 0, vstr x.1, .func (.func gf) #[] lb, vstr x.1, undef, undef, undef, undef, undef], defers := [] })
    (fun x a' => ownFrom_of (by rintro _ W W' _ h; exact h)) ?assign ?body ?done ?stop
  case assign =>
    intro ll pre x W K hI hK
    dsimp only [encS]
    gi_wp2
    exact hK _ _ (KeepsOthers.from (KeepsOthers.refl _) _) (Old.refl _ _ _) hI rfl
  case body =>
    rintro ll pre x a' W hll ⟨r, hr⟩ ⟨v, bo, ho, hold⟩ rfl hlt
    obtain ⟨x, hx⟩ := x
    have hsz : b + 1 ≤ W.heap.size := by have := hold.size; omega
    have Bo := bo.cell
    have Bf := bo.frozen
    obtain ⟨ao, cap, rfl⟩ := ownsRow_slice ho
    dsimp only
    gi_wp2_with (first
      | (gi_at_builtin; refine wpListIn_append1 W 9 [vstr x] rfl (.tmp 8) (.tmp 10) 54 rfl b i0 (.string ByteArray.empty) 1 16 Tryz.underlying54 hi hz0 hz1 hz2 rfl (by decide) _ _ _ rfl ho _ rfl rfl (by simp [Value.oneCell']) (by omega) (by omega) (by omega) ?_; intro g' cap' w1 hown' hgrow hown0; obtain ⟨hv1, hv2, hr2, hk2, hb2⟩ := bo.appended (by decide) ho (by omega) (Nat.le_refl _) hown' hgrow; have hc1 := hv1.cell; have hf1 := hv1.frozen)
      | gi_in)
    have hO : Old (b + 1) [b] W (w1.setCell ⟨b, 0, none⟩ (.slice (some ⟨g', 0, none⟩) (pre.length + 1) cap')) := ⟨hb2.os, hb2.tape, hb2.output, hb2.size, fun k h1 h2 _ => hb2.block k (by simp at h2; omega)⟩
    exact ⟨hk2.from _, hO, _, hv2, by simpa using hr2, hold.trans hO⟩
  case done =>
    rintro D ys W hD hS ⟨v, bo, ho, hold⟩ hK
    have hyl : ys.length = xs.length := by have := congrArg List.length hS; simpa using this
    have hym : ys.map (fun x => vstr x.1) = xs.map vstr := by have := congrArg (List.map vstr) hS; rw [List.map_map] at this; exact this
    rw [hyl, hym] at ho
    have Bo := bo.cell
    gi_wp2
    refine ⟨by simp, .inl ⟨_, _, rfl, run_takeDeferred hK, ?_⟩⟩
    have hDb : b + 1 ≤ D := by omega
    have ho2 := ownsRow_putObj ho (.deferred none) hK rfl
    have hold2 := hold.trans (Old.putObj _ D (.deferred none) hDb)
    have hb := Hb.out
    refine ⟨v, by simp [results, Tryz.results69, go_sem], v, rfl, Strs0.of_owns ho2, x0.upon (hold2.below (by omega) (by omega) (by simp; omega))⟩
  case stop =>
    rintro D c pre W hD hS h hK
    exact h.elim

set_option maxHeartbeats 1000000 in
theorem collect_any (gf : Nat) (lb : Array Value) (eg : ∀ args w, (callFunc gf args).run Tryz.prog w = .ok (.enter gf args) w) (xs : List (List UInt8)) (hlen : xs.length ≤ 1073741824) (w : World)
    (hit : Iter Tryz.prog gf lb encS (Old (w.heap.size + 1) [w.heap.size]) xs (w.alloc (.cells #[.slice none 0 0] 54))) :
    Calls Tryz.prog 43 #[.func (.func gf) #[] lb] w fun e w' => ∃ v, e = .returned v ∧ Strs0 w' v xs ∧ Ext w w' := by
  have H := Lib.hid (appendSeq_any gf lb eg xs hlen w hit)
  clear hit eg
  go_enter Tryz.func43, Tryz.ntmps43
  go_wp2_with fail
  refine H.out.mono ?_
  rintro e w1 ⟨v, rfl, h1, h2⟩
  go_wp2
  go_ret
  exact ⟨v, rfl, h1, h2⟩
end Go.Proofs.YtdjcjkpodggdpaaGreatDoor
