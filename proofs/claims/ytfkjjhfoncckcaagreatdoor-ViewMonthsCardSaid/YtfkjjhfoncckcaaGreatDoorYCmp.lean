/- The order of the views in a month. -/
import Derived.Test.YtfkjjhfoncckcaaGreatDoorYMbox
import Derived.Shelf.SlSortCmp.InsertionK
import Derived.Laws.Cover1
import Derived.StillTailTactics
namespace Go.Proofs.YtfkjjhfoncckcaaGreatDoor
open Go.RowKit Go.Sort

/-- cmp.Compare of two strings; cmp.Or of two numbers. -/
def compareS (a b : List UInt8) : Int := if Op.bytesLess a b = true then -1 else if (a == b) = true then 0 else 1
def orI (x y : Int) : Int := if x = 0 then y else x
set_option maxHeartbeats 1000000 in
set_option maxRecDepth 100000 in
theorem nan_s (a : List UInt8) (w : World) : Calls Tryz.prog 72 #[vstr a] w fun e w' => e = .returned (.bool false) ∧ w' = w := by
  go_enter Tryz.func72, Tryz.ntmps72
  go_wp2
  go_ret
  exact ⟨by simp, rfl⟩
set_option maxHeartbeats 1000000 in
set_option maxRecDepth 100000 in
theorem compare_s (a b : List UInt8) (w : World) : Calls Tryz.prog 38 #[vstr a, vstr b] w fun e w' => e = .returned (.int .i64 (compareS a b)) ∧ w' = w := by
  go_enter Tryz.func38, Tryz.ntmps38
  cases h1 : Op.bytesLess a b with
  | true =>
    have e : compareS a b = -1 := if_pos h1
    have HE := Lib.hid e
    clear e
    go_wp2_with (go_at_call 72; refine (nan_s _ _).mono ?_; rintro e w1 ⟨rfl, rfl⟩)
    go_ret
    exact ⟨by rw [HE.out]; rfl, rfl⟩
  | false =>
    have h1n : ¬ Op.bytesLess a b = true := by rw [h1]; decide
    cases h2 : (a == b) with
    | true =>
      have e : compareS a b = 0 := by rw [compareS, if_neg h1n, if_pos h2]
      have HE := Lib.hid e
      clear e h1n
      go_wp2_with (go_at_call 72; refine (nan_s _ _).mono ?_; rintro e w1 ⟨rfl, rfl⟩)
      all_goals first
        | (go_ret; exact ⟨by rw [HE.out]; rfl, rfl⟩)
        | (exfalso; simp_all; done)
    | false =>
      have e : compareS a b = 1 := by rw [compareS, if_neg h1n, if_neg (by rw [h2]; decide)]
      have HE := Lib.hid e
      clear e h1n
      go_wp2_with (go_at_call 72; refine (nan_s _ _).mono ?_; rintro e w1 ⟨rfl, rfl⟩)
      all_goals first
        | (go_ret; exact ⟨by rw [HE.out]; rfl, rfl⟩)
        | (exfalso; simp_all; done)
set_option maxHeartbeats 1000000 in
set_option maxRecDepth 100000 in
theorem or_two (x y : Int) (b : Nat) (w : World) (h0 : w.cell? ⟨b, 0, none⟩ = some (.int .i64 x)) (h1 : w.cell? ⟨b, 1, none⟩ = some (.int .i64 y)) :
    Calls Tryz.prog 36 #[.slice (some ⟨b, 0, none⟩) 2 2] w fun e w' => e = .returned (.int .i64 (orI x y)) ∧ w' = w := by
  go_enter Tryz.func36, Tryz.ntmps36
  go_wp2_with fail
  go_loopw [8] (fun i wr => wr = w ∧ (i = .int .i64 0 ∨ (i = .int .i64 1 ∧ x = 0) ∨ (i = .int .i64 2 ∧ x = 0 ∧ y = 0))) (fun i _ => 2 - (intOf i).toNat)
  case atStart => exact ⟨rfl, .inl rfl⟩
  case round =>
    rcases hrel with ⟨rfl, rfl | ⟨rfl, hx⟩ | ⟨rfl, hx, hy⟩⟩
    · by_cases hx : x = 0
      · subst hx
        go_wp2
        go_roundw
        case rel => exact ⟨by first | rfl | trivial, .inr (.inl ⟨rfl, by first | rfl | trivial⟩)⟩
        case measure => simp [intOf]
      · have e : orI x y = x := if_neg hx
        have HE := Lib.hid e
        clear e
        go_wp2
        go_ret
        exact ⟨by rw [HE.out]; rfl, rfl⟩
    · subst hx
      have e : orI 0 y = y := if_pos rfl
      have HE := Lib.hid e
      clear e
      by_cases hy : y = 0
      · subst hy
        go_wp2
        go_roundw
        case rel => exact ⟨by first | rfl | trivial, .inr (.inr ⟨rfl, by first | rfl | trivial, by first | rfl | trivial⟩)⟩
        case measure => simp [intOf]
      · go_wp2
        go_ret
        exact ⟨by rw [HE.out]; rfl, rfl⟩
    · subst hx hy
      go_wp2
      go_ret
      exact ⟨rfl, rfl⟩

theorem cell_at (w : World) (cs : Array Value) (t : TypeId) (o : Nat) {b : Nat} {v : Value} (hb : b = w.heap.size) (h : cs[o]? = some v) : (w.alloc (.cells cs t)).cell? ⟨b, o, none⟩ = some v := by rw [hb, World.cell?_alloc_mark]; exact h
/-- A view's eight cells. -/
structure VC where
  q : ViewT
  la : Option Addr
  lc : Nat
  ma : Option Addr
  mc : Nat
instance : Inhabited VC := ⟨⟨emptyV, none, 0, none, 0⟩⟩
def VC.enc (x : VC) : List Value := [vstr x.q.id, vstr x.q.sender, vstr x.q.subject, .int .i64 x.q.date, .int .i64 x.q.state, .slice x.la x.q.lines.length x.lc, vstr x.q.commit, .slice x.ma x.q.lists.length x.mc]
def VC.cmp (x y : VC) : Int := orI (Lib.compareInt x.q.date y.q.date) (compareS x.q.id y.q.id)
set_option maxHeartbeats 1000000 in
set_option maxRecDepth 100000 in
theorem month_cmp (x y : VC) (W : World) : Calls Tryz.prog 35 #[.agg x.enc.toArray, .agg y.enc.toArray] W fun e w' => e = .returned (.int .i64 (x.cmp y)) ∧ ∃ q os', w' = grow (W.drewN q) os' := by
  obtain ⟨x, lx, cx, mx, kx⟩ := x
  obtain ⟨y, ly, cy, my, ky⟩ := y
  obtain ⟨p, hp⟩ : ∃ p, p = Lib.compareInt x.date y.date := ⟨_, rfl⟩
  obtain ⟨r, hr⟩ : ∃ r, r = compareS x.id y.id := ⟨_, rfl⟩
  have hc : VC.cmp ⟨x, lx, cx, mx, kx⟩ ⟨y, ly, cy, my, ky⟩ = orI p r := by rw [VC.cmp, hp, hr]
  rw [hc]
  have HP := Lib.hid hp
  have HR := Lib.hid hr
  clear hp hr hc
  unfold VC.enc
  go_enter Tryz.func35, Tryz.ntmps35
  go_upto_region 1 with fail
  obtain ⟨W2, hW2⟩ : ∃ W2, W2 = (W.alloc (.cells #[vstr x.id, vstr x.sender, vstr x.subject, .int .i64 x.date, .int .i64 x.state, .slice lx x.lines.length cx, vstr x.commit, .slice mx x.lists.length kx] 43)).alloc (.cells #[vstr y.id, vstr y.sender, vstr y.subject, .int .i64 y.date, .int .i64 y.state, .slice ly y.lines.length cy, vstr y.commit, .slice my y.lists.length ky] 43) := ⟨_, rfl⟩
  obtain ⟨b, hb⟩ : ∃ b, b = W.heap.size := ⟨_, rfl⟩
  have hs : (W.alloc (.cells #[vstr x.id, vstr x.sender, vstr x.subject, .int .i64 x.date, .int .i64 x.state, .slice lx x.lines.length cx, vstr x.commit, .slice mx x.lists.length kx] 43)).heap.size = b + 1 := by rw [hb]; simp
  have ex : W2.heap[b]? = some (.cells #[vstr x.id, vstr x.sender, vstr x.subject, .int .i64 x.date, .int .i64 x.state, .slice lx x.lines.length cx, vstr x.commit, .slice mx x.lists.length kx] 43 (0, 0)) := by
    rw [hW2]
    refine (((Ext.refl _).alloc _).heap (by rw [hs]; omega)).trans ?_
    rw [hb]
    exact heap_new W _
  have ey : W2.heap[b + 1]? = some (.cells #[vstr y.id, vstr y.sender, vstr y.subject, .int .i64 y.date, .int .i64 y.state, .slice ly y.lines.length cy, vstr y.commit, .slice my y.lists.length ky] 43 (0, 0)) := by
    rw [hW2, ← hs]
    exact heap_new _ _
  have x0 : W2.cell? ⟨b, 0, none⟩ = some (vstr x.id) := by rw [Lib.cell_of_heap ex]; rfl
  have x3 : W2.cell? ⟨b, 3, none⟩ = some (.int .i64 x.date) := by rw [Lib.cell_of_heap ex]; rfl
  have y0 : W2.cell? ⟨b + 1, 0, none⟩ = some (vstr y.id) := by rw [Lib.cell_of_heap ey]; rfl
  have y3 : W2.cell? ⟨b + 1, 3, none⟩ = some (.int .i64 y.date) := by rw [Lib.cell_of_heap ey]; rfl
  have z0 : (W2.drew.alloc (.cells #[.int .i64 p, .int .i64 r] 3)).cell? ⟨W2.heap.size, 0, none⟩ = some (.int .i64 p) := cell_at _ _ _ _ rfl rfl
  have z1 : (W2.drew.alloc (.cells #[.int .i64 p, .int .i64 r] 3)).cell? ⟨W2.heap.size, 1, none⟩ = some (.int .i64 r) := cell_at _ _ _ _ rfl rfl
  have Z := Lib.hid (or_two p r W2.heap.size _ z0 z1)
  have hG : ∃ q os', W2.drew.alloc (.cells #[.int .i64 p, .int .i64 r] 3) = grow (W.drewN q) os' := ⟨1, _, by rw [hW2]; simp only [alloc_eq_grow, drew_grow, grow_grow]; rfl⟩
  have HG := Lib.hid hG
  rw [show (W.alloc (.cells #[.string ⟨x.id.toArray⟩, .string ⟨x.sender.toArray⟩, .string ⟨x.subject.toArray⟩, .int .i64 x.date, .int .i64 x.state, .slice lx x.lines.length cx, .string ⟨x.commit.toArray⟩, .slice mx x.lists.length kx] 43)).alloc (.cells #[.string ⟨y.id.toArray⟩, .string ⟨y.sender.toArray⟩, .string ⟨y.subject.toArray⟩, .int .i64 y.date, .int .i64 y.state, .slice ly y.lines.length cy, .string ⟨y.commit.toArray⟩, .slice my y.lists.length ky] 43) = W2 from hW2.symm, ← hb]
  clear hW2 hs ex ey z0 z1 hG hb
  go_still_tail 10, (by kernel_rfl)
  still_call (Tryz.cmp_Compare_int x.date y.date _)
  rw [← HP.out]
  repeat still_step
  still_call (compare_s x.id y.id _)
  rw [← HR.out]
  refine wpStill_nil ?_
  change wpList _ _ _ _ _ W2.drew
  go_wp2_with (go_at_call 36; refine Z.out.mono ?_; rintro e wc ⟨rfl, rfl⟩)
  go_ret
  exact ⟨rfl, HG.out⟩
end Go.Proofs.YtfkjjhfoncckcaaGreatDoor
