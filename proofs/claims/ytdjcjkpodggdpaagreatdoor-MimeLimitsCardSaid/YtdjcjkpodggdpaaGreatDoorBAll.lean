/- mime.all; mime.Count, mime.Leaves. -/
import Derived.Test.YtdjcjkpodggdpaaGreatDoorBVisit
namespace Go.Proofs.YtdjcjkpodggdpaaGreatDoor
open Go.RowKit
attribute [local go_sem] Oper.semAt_some

theorem all_any (af ap aq : Option Addr) (nf cf np cp nq cq : Nat) (t b : List UInt8) (w : World) :
    Calls Tryz.prog 11 #[.agg #[.slice af nf cf, vstr t, .slice ap np cp, vstr b, .slice aq nq cq]] w fun e w' => e = .returned (.func (.func 23) #[] #[.pointer (some ⟨w.heap.size, 0, none⟩)]) ∧ w' = w.alloc (.cells #[.slice af nf cf, vstr t, .slice ap np cp, vstr b, .slice aq nq cq] 27) := by
  go_enter Tryz.func11, Tryz.ntmps11
  go_wp2
  go_ret
  exact ⟨rfl, rfl⟩
/-- What is yielded. -/
def encP (x : PartT × Value) : Array Value := #[x.2]

set_option maxHeartbeats 1000000 in
theorem all_iter {Ok : World → Prop} {Good : World → Nat → Prop} {Kp : World → World → Prop} (C : Cares Ok Good Kp) (q : PartT) (af ap aq : Option Addr) (nf cf np cp nq cq : Nat) (B : Nat) (w0 : World) (hc : countB q ≤ 1000000)
    (hF : Five w0 B (.slice af nf cf) (vstr q.t) (.slice ap np cp) (vstr q.b) (.slice aq nq cq)) (hq : PartAt w0 (Good w0) q (.agg #[.slice af nf cf, vstr q.t, .slice ap np cp, vstr q.b, .slice aq nq cq])) (hok : Ok w0) :
    Iter Tryz.prog 23 #[.pointer (some ⟨B, 0, none⟩)] encP Kp (flatV w0 q (.agg #[.slice af nf cf, vstr q.t, .slice ap np cp, vstr q.b, .slice aq nq cq])) w0 := by
  intro n hn ll J Jx W hW hJ hJx hY h0
  have hF' := hF.ext hW
  have hqW := C.part (C.ext hW) hok hq
  have hfl : flatV W q (.agg #[.slice af nf cf, vstr q.t, .slice ap np cp, vstr q.b, .slice aq nq cq]) = flatV w0 q (.agg #[.slice af nf cf, vstr q.t, .slice ap np cp, vstr q.b, .slice aq nq cq]) := flatV_same (S := Good w0) (fun k gk lt => (C.good (C.ext hW) hok gk lt).2) _ _ hq
  have hl := flatV_len w0 _ q (.agg #[.slice af nf cf, vstr q.t, .slice ap np cp, vstr q.b, .slice aq nq cq]) (Nat.le_refl _)
  have hv := visit_in C ll (countB q) hc (flatV w0 q (.agg #[.slice af nf cf, vstr q.t, .slice ap np cp, vstr q.b, .slice aq nq cq])) J Jx (fun pre A A' hj x => hJ pre A A' none hj (grownBy_of_ext x) (fun r e => by cases e))
    (fun m pre x A hj hlt => YieldAt.anyDepth rfl m (hY pre x A hj (by rw [hl]; exact hlt))) (countB q) (n - 1) q _ [] W (Nat.le_refl _) hqW (C.ok (C.ext hW) hok) h0 (fun x hx => by rw [hfl] at hx; exact hx) (by simp)
  rw [hfl] at hv
  have Hv := Lib.hid hv
  have c0 := hF'.cell0
  have c1 := hF'.cell1
  have c2 := hF'.cell2
  have c3 := hF'.cell3
  have c4 := hF'.cell4
  clear hv hY hq hqW hfl hF hF'
  refine callsIn_of_wp Tryz.func23 rfl trivial ?_ rfl
  simp only [Tryz.ntmps23, List.size_toArray, List.length_cons, List.length_nil, Nat.reduceAdd, Nat.reduceSub, Array.replicate_succ, Array.replicate_zero, List.push_toArray, List.append_toArray, List.nil_append, List.cons_append]
  gi_wp2
  refine ⟨trivial, fun h => by (cases h), (Hv.out).mono ?_⟩
  rintro e w3 (⟨rfl, ⟨L, hL, hJ3⟩, _⟩ | ⟨rfl, L, hL, hx3⟩)
  · gi_wp2
    go_end0
    exact ⟨⟨_, rfl⟩, .inl ⟨L, hL, hJ3⟩⟩
  · gi_wp2
    go_end0
    exact ⟨⟨_, rfl⟩, .inr ⟨L, hL, hx3⟩⟩
end Go.Proofs.YtdjcjkpodggdpaaGreatDoor
