/- missivelaw13.small: the documented examples. -/
import Derived.Test.YtdjcjkpodggdpaaGreatDoorBEnc
import Derived.Test.YtdjcjkpodggdpaaGreatDoorBLeavesW
import Derived.Test.YtdjcjkpodggdpaaGreatDoorCPlain
namespace Go.Proofs.YtdjcjkpodggdpaaGreatDoor
open Go.RowKit
attribute [local go_sem] Oper.semAt_some

def exA : List UInt8 := [65, 58, 32, 49, 10, 10, 104, 105]
def exB : List UInt8 := [67, 111, 110, 116, 101, 110, 116, 45, 84, 121, 112, 101, 58, 32, 109, 117, 108, 116, 105, 112, 97, 114, 116, 47, 109, 105, 120, 101, 100, 59, 32, 98, 111, 117, 110, 100, 97, 114, 121, 61, 120, 10, 10, 45, 45, 120, 10, 10, 97, 10, 45, 45, 120, 45, 45, 10]
def exC : List UInt8 := [67, 111, 110, 116, 101, 110, 116, 45, 84, 121, 112, 101, 58, 32, 109, 117, 108, 116, 105, 112, 97, 114, 116, 47, 109, 105, 120, 101, 100, 59, 32, 98, 111, 117, 110, 100, 97, 114, 121, 61, 120, 10, 10, 10, 97, 10]
theorem partA : partB dec0 2 exA 1 1 = some (.mk [([65], [49])] plainB [] [104, 105] [], 1) := by kernel_rfl
theorem partBb : partB dec0 3 exB 1 1 = some (.mk [] mixedB [] [] [.mk [] plainB [] [97] []], 2) := by kernel_rfl
theorem partC : partB dec0 2 exC 1 1 = some (.mk [] octB [] [10, 97, 10] [], 1) := by kernel_rfl
theorem encA : encodB [97, 10] = bits7B := by kernel_rfl
theorem encF : encodB [255] = b64B := by kernel_rfl

theorem Pairs0.one {W : World} {v : Value} {x : List UInt8 × List UInt8} (h : Pairs0 W v [x]) : ∃ b c, v = .slice (some ⟨b, 0, none⟩) 1 c ∧ W.cell? ⟨b, 0, none⟩ = some (vstr x.1) ∧ W.cell? ⟨b, 1, none⟩ = some (vstr x.2) := by
  rcases h with ⟨h, _⟩ | ⟨_, b, c, rfl, _, hc⟩
  · cases h
  · exact ⟨b, c, rfl, (hc 0 (by simp)).1, (hc 0 (by simp)).2⟩
theorem Pairs0.zero {W : World} {a : Option Addr} {n c : Nat} (h : Pairs0 W (.slice a n c) []) : n = 0 := by
  rcases h with ⟨_, a', c', h⟩ | ⟨h, _⟩
  · cases h; rfl
  · exact absurd rfl h
/-- The only part of a slice of parts. -/
theorem PartsAt.one {W : World} {S : Nat → Prop} {q : PartT} {v : Value} (h : PartsAt W S [q] v) : ∃ b o c v0 v2 v4, v = .slice (some ⟨b, o, none⟩) 1 c ∧ W.cell? ⟨b, o, none⟩ = some v0 ∧ W.cell? ⟨b, o + 1, none⟩ = some (vstr q.t) ∧ W.cell? ⟨b, o + 2, none⟩ = some v2 ∧ W.cell? ⟨b, o + 3, none⟩ = some (vstr q.b) ∧ W.cell? ⟨b, o + 4, none⟩ = some v4 ∧
    PartAt W S q (.agg #[v0, vstr q.t, v2, vstr q.b, v4]) ∧ 1 ≤ c := by
  obtain ⟨aq, nq, cq, rfl, hn, h⟩ := h
  rcases h with h | ⟨b, o, xs, rfl, _, hle, hc, hat⟩
  · cases h
  · simp only [CellsAt] at hat
    obtain ⟨v0, v1, v2, v3, v4, t, rfl, hq, rfl⟩ := hat
    obtain ⟨af, nf, cf, ap, np, cp, ar, nr, cr, hv, _⟩ := hq.open
    simp only [Value.agg.injEq, Array.mk.injEq, List.cons.injEq, and_true] at hv
    obtain ⟨rfl, rfl, rfl, rfl, rfl⟩ := hv
    simp only [List.length_cons, List.length_nil, Nat.zero_add] at hn
    subst hn
    exact ⟨b, o, cq, _, _, _, rfl, hc 0 (by simp), hc 1 (by simp), hc 2 (by simp), hc 3 (by simp), hc 4 (by simp), hq, hle⟩

set_option maxHeartbeats 2000000 in
set_option maxRecDepth 100000 in
theorem small_any (w : World) : Calls Tryz.prog 4 #[] w fun e w' => e = .returned (.bool true) ∧ Ext w w' := by
  have HA := Lib.hid (mparse_any dec0 dec0_hdec 2 exA _ 1 partA (by decide))
  have HB := Lib.hid (mparse_any dec0 dec0_hdec 3 exB _ 2 partBb (by decide))
  have HC := Lib.hid (mparse_any dec0 dec0_hdec 2 exC _ 1 partC (by decide))
  go_enter Tryz.func4, Tryz.ntmps4
  go_wp2_with fail
  refine (HA.out _).mono ?_
  rintro e w1 ⟨va, rfl, pa, xa⟩
  obtain ⟨af, nf, cf, ap, np, cp, aq, nq, cq, rfl, hfa, _, _⟩ := pa.open
  obtain ⟨fb, fc, hv, hc0, hc1⟩ := Pairs0.one hfa
  cases hv
  have Pa := Lib.hid pa
  have Xa := Lib.hid xa
  clear hfa pa xa
  go_wp2_with fail
  refine (HB.out _).mono ?_
  rintro e w2 ⟨vb, rfl, pb, xb⟩
  have x12 : Ext w1 w2 := ((Ext.refl w1).alloc _).trans xb
  have Fa : Five w2 w1.heap.size _ _ _ _ _ := Five.ext xb (heap_new w1 _)
  have d0 := x12.holds hc0
  have d1 := x12.holds hc1
  obtain ⟨bf, mf, df, bp, mp, dp, bq, mq, dq, rfl, _, hpb, hqb⟩ := pb.open
  obtain rfl := Pairs0.zero hpb
  obtain ⟨qb, qo, qc, u0, u2, u4, hv, p0, p1, p2, p3, p4, _, hqc⟩ := PartsAt.one hqb
  cases hv
  have X12 := Lib.hid x12
  clear hc0 hc1 pb xb hpb hqb x12 p0 p2 p4
  go_wp2_with fail
  refine (HC.out _).mono ?_
  rintro e w3 ⟨vc, rfl, pc, xc⟩
  have x23 : Ext w2 w3 := ((Ext.refl w2).alloc _).trans xc
  have Fb : Five w3 w2.heap.size _ _ _ _ _ := Five.ext xc (heap_new w2 _)
  obtain ⟨cf', lf, ef, cp', lp, ep, cq', lq, eq, rfl, _, _, _⟩ := pc.open
  have x3W : Ext w3 (w3.alloc (.cells #[.slice cf' lf ef, vstr octB, .slice cp' lp ep, vstr [10, 97, 10], .slice cq' lq eq] 27)) := (Ext.refl w3).alloc _
  have FA := Five.ext (x23.trans x3W) Fa
  have FB := Five.ext x3W Fb
  have FC : Five (w3.alloc (.cells #[.slice cf' lf ef, vstr octB, .slice cp' lp ep, vstr [10, 97, 10], .slice cq' lq eq] 27)) w3.heap.size (.slice cf' lf ef) (vstr octB) (.slice cp' lp ep) (vstr [10, 97, 10]) (.slice cq' lq eq) := heap_new w3 _
  have x2W := x23.trans x3W
  have XW := Lib.hid ((Xa.out).trans ((X12.out).trans x2W))
  have A0 := FA.cell0
  have A1 := FA.cell1
  have A3 := FA.cell3
  have B1 := FB.cell1
  have B2 := FB.cell2
  have B4 := FB.cell4
  have C1 := FC.cell1
  have C3 := FC.cell3
  have D0 := x2W.holds d0
  have P3 := x2W.holds p3
  simp only [PartT.t, PartT.b, plainB, mixedB, octB] at A0 A1 A3 B1 B2 B4 C1 C3 D0 P3 XW ⊢
  clear x23 x3W FA FB FC Fa Fb d0 d1 p1 p3 pc xc x2W Xa X12 Pa HA HB HC
  go_wp2_with fail
  refine (encoding_any [97, 10] _ (by decide)).mono ?_
  rintro e w4 ⟨rfl, x4⟩
  rw [encA]
  simp only [bits7B]
  go_wp2_with fail
  refine (encoding_any [255] _ (by decide)).mono ?_
  rintro e w5 ⟨rfl, x5⟩
  rw [encF]
  simp only [b64B]
  go_wp2
  go_ret
  exact ⟨rfl, (XW.out).trans (x4.trans x5)⟩
end Go.Proofs.YtdjcjkpodggdpaaGreatDoor
