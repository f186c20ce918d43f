/- slices.SortStableFunc of at most 19 views. -/
import Derived.Test.YtfkjjhfoncckcaaGreatDoorYCmp
namespace Go.Proofs.YtfkjjhfoncckcaaGreatDoor
open Go.RowKit Go.Sort

def sort_ren : Go.Shelf.Ren := ⟨fun | 20 => 95 | n => n, fun | 24 => 43 | 22 => 22 | 3 => 3 | 25 => 82 | 4 => 4 | 0 => 0 | n => n, fun | n => n⟩
theorem sort_lays : Go.Proofs.SlLaysF0.n20 Tryz.prog sort_ren := {
  mixed := by kernel_rfl
  f20 := ⟨Tryz.f95.name, by decide, Tryz.func95.trans (congrArg some (by kernel_rfl))⟩
  t0 := Tryz.underlying0
  a0 := Tryz.isAgg0
  z0 := Tryz.sizeOf0
  v0 := Tryz.zeroValue0
  t3 := Tryz.underlying3
  a3 := Tryz.isAgg3
  z3 := Tryz.sizeOf3
  v3 := Tryz.zeroValue3
  t4 := Tryz.underlying4
  a4 := Tryz.isAgg4
  z4 := Tryz.sizeOf4
  v4 := Tryz.zeroValue4
  t22 := Tryz.underlying22
  a22 := Tryz.isAgg22
  z22 := Tryz.sizeOf22
  v22 := Tryz.zeroValue22
  t25 := Tryz.underlying82
  a25 := Tryz.isAgg82
  z25 := Tryz.sizeOf82
  v25 := Tryz.zeroValue82 }
/-- The views of a row, sorted. -/
def sortV (d : Array VC) : Array VC := Sort.insertionSort (ltOf VC.cmp) d 0 d.size
theorem enc_len (x : VC) : x.enc.length = 8 := rfl
theorem enc_one (x : VC) : ∀ v ∈ x.enc, v.oneCell' = true := by
  intro v hv
  simp only [VC.enc, List.mem_cons, List.not_mem_nil, or_false] at hv
  rcases hv with rfl | rfl | rfl | rfl | rfl | rfl | rfl | rfl <;> rfl
theorem ins_any (blk off cap : Nat) (d : Array VC) (w : World) (hH : HoldsK VC.enc 8 w blk off d) (hblk : blk < w.heap.size) (hsz : d.size ≤ 19) :
    Calls Tryz.prog 95 #[.slice (some ⟨blk, off, none⟩) d.size cap, .int .i64 0, .int .i64 d.size, .func (.func 35) #[] #[]] w fun e w' =>
      e = .returned (.tuple #[]) ∧ ∃ n os, w' = sortWorldK VC.enc 8 w blk off n (sortV d) os :=
  AnyQ.insertionSortCmpFunc sort_lays 8 Tryz.isAgg43 Tryz.sizeOf43 VC.enc enc_len enc_one VC.cmp 35 #[] blk off cap 0 d.size d w
    (enters_of Tryz.func35 (by kernel_rfl) rfl) (fun _ _ _ _ x y => month_cmp x y _) hH hblk (Nat.zero_le _) (Nat.le_refl _) (by omega)
set_option maxHeartbeats 1000000 in
set_option maxRecDepth 100000 in
theorem ins_none (p : Option Addr) (cap : Nat) (fv : Value) (w : World) :
    Calls Tryz.prog 95 #[.slice p 0 cap, .int .i64 0, .int .i64 0, fv] w fun e w' => e = .returned (.tuple #[]) ∧ w' = w := by
  go_enter Tryz.func95, Tryz.ntmps95
  go_wp2
  refine wp_loop_rounds 1 ?_
  rw [rounds_succ]
  go_wp2
  go_end0
  exact ⟨rfl, rfl⟩
set_option maxHeartbeats 1000000 in
set_option maxRecDepth 100000 in
theorem stable_call (s fv : Value) (n : Nat) (w : World) (Q : World → Prop) (hn : n ≤ 19) (h : Calls Tryz.prog 95 #[s, .int .i64 0, .int .i64 n, fv] w fun e w' => e = .returned (.tuple #[]) ∧ Q w') :
    Calls Tryz.prog 70 #[s, .int .i64 n, fv] w fun e w' => e = .returned (.tuple #[]) ∧ Q w' := by
  have h1 : ¬ (20 : Int) ≤ n := by omega
  have h2 : ¬ (20 : Int) < n := by omega
  have H := Lib.hid h
  clear h
  go_enter Tryz.func70, Tryz.ntmps70
  go_wp2_with fail
  refine wp_loop_rounds 1 ?_
  rw [rounds_succ]
  go_wp2_with (go_at_call 95; refine H.out.mono ?_; rintro e w1 ⟨rfl, hq⟩)
  refine wp_loop_rounds 1 ?_
  rw [rounds_succ]
  go_wp2
  go_end0
  exact ⟨rfl, hq⟩
set_option maxHeartbeats 1000000 in
set_option maxRecDepth 100000 in
theorem sort_call (a : Option Addr) (n c : Nat) (fv : Value) (w : World) (Q : World → Prop) (hn : n ≤ 19) (h : Calls Tryz.prog 95 #[.slice a n c, .int .i64 0, .int .i64 n, fv] w fun e w' => e = .returned (.tuple #[]) ∧ Q w') :
    Calls Tryz.prog 34 #[.slice a n c, fv] w fun e w' => e = .returned (.tuple #[]) ∧ Q w' := by
  have H := Lib.hid (stable_call _ fv n w Q hn h)
  clear h
  go_enter Tryz.func34, Tryz.ntmps34
  go_wp2_with (go_at_call 70; refine H.out.mono ?_; rintro e w1 ⟨rfl, hq⟩)
  go_end0
  exact ⟨rfl, hq⟩
end Go.Proofs.YtfkjjhfoncckcaaGreatDoor
