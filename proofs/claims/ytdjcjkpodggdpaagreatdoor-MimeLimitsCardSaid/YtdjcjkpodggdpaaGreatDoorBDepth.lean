/- mime.Depth. -/
import Derived.Test.YtdjcjkpodggdpaaGreatDoorBTree
namespace Go.Proofs.YtdjcjkpodggdpaaGreatDoor
open Go.RowKit
attribute [local go_sem] Oper.semAt_some

mutual
/-- The levels of a tree. -/
def depthB : PartT → Nat
  | .mk _ _ _ _ ps => depthsB ps 0 + 1
def depthsB : List PartT → Nat → Nat
  | [], n => n
  | q :: qs, n => depthsB qs (max n (depthB q))
end
theorem depthB_ps (q : PartT) : depthB q = depthsB q.ps 0 + 1 := by cases q; simp only [depthB, PartT.ps]
theorem depthsB_snoc (q : PartT) : ∀ (qs : List PartT) (n : Nat), depthsB (qs ++ [q]) n = max (depthsB qs n) (depthB q) := by
  intro qs
  induction qs with
  | nil => intro n; simp only [List.nil_append, depthsB]
  | cons x qs ih => intro n; simp only [List.cons_append, depthsB]; exact ih _
theorem depthsB_ge : ∀ (qs : List PartT) (n : Nat), n ≤ depthsB qs n := by
  intro qs
  induction qs with
  | nil => intro n; simp only [depthsB]; exact Nat.le_refl _
  | cons x qs ih => intro n; simp only [depthsB]; have := ih (max n (depthB x)); omega
theorem depthsB_mem : ∀ (qs : List PartT) (n : Nat) (q : PartT), q ∈ qs → depthB q ≤ depthsB qs n := by
  intro qs
  induction qs with
  | nil => intro n q h; simp at h
  | cons x qs ih =>
    intro n q h
    simp only [depthsB]
    rcases List.mem_cons.1 h with rfl | h
    · have := depthsB_ge qs (max n (depthB q)); omega
    · exact ih _ q h
theorem depthB_mem {q x : PartT} (h : x ∈ q.ps) : depthB x < depthB q := by rw [depthB_ps q]; have := depthsB_mem q.ps 0 x h; omega

mutual
/-- The number of parts. -/
def countB : PartT → Nat
  | .mk _ _ _ _ ps => countsB ps + 1
def countsB : List PartT → Nat
  | [] => 0
  | q :: qs => countB q + countsB qs
end
theorem countB_ps (q : PartT) : countB q = countsB q.ps + 1 := by cases q; simp only [countB, PartT.ps]
theorem countsB_len : ∀ qs : List PartT, qs.length ≤ countsB qs := by
  intro qs
  induction qs with
  | nil => simp
  | cons q qs ih => simp only [countsB, List.length_cons]; have := countB_ps q; omega
theorem countsB_mem : ∀ (qs : List PartT) (q : PartT), q ∈ qs → countB q ≤ countsB qs := by
  intro qs
  induction qs with
  | nil => intro q h; simp at h
  | cons x qs ih =>
    intro q h
    simp only [countsB]
    rcases List.mem_cons.1 h with rfl | h
    · omega
    · have := ih q h; omega
theorem countB_mem {q x : PartT} (h : x ∈ q.ps) : countB x < countB q := by rw [countB_ps q]; have := countsB_mem q.ps x h; omega
theorem depth_le_count : ∀ (n : Nat) (q : PartT), countB q ≤ n → depthB q ≤ countB q := by
  intro n
  induction n with
  | zero => intro q h; rw [countB_ps] at h; omega
  | succ n ih =>
    intro q h
    rw [depthB_ps, countB_ps]
    have : ∀ (qs : List PartT) (m : Nat), (∀ x ∈ qs, x ∈ q.ps) → depthsB qs m ≤ max m (countsB qs) := by
      intro qs
      induction qs with
      | nil => intro m _; simp only [depthsB]; omega
      | cons x qs ih2 =>
        intro m hm
        simp only [depthsB, countsB]
        have h1 := ih2 (max m (depthB x)) (fun y hy => hm y (by simp [hy]))
        have h2 := ih x (by have := countB_mem (hm x (by simp)); omega)
        omega
    have := this q.ps 0 (fun x hx => hx)
    omega

theorem depths_le_counts : ∀ (qs : List PartT) (m : Nat), depthsB qs m ≤ max m (countsB qs) := by
  intro qs
  induction qs with
  | nil => intro m; simp only [depthsB]; omega
  | cons x qs ih =>
    intro m
    simp only [depthsB, countsB]
    have h1 := ih (max m (depthB x))
    have h2 := depth_le_count _ x (Nat.le_refl _)
    omega
theorem counts_take : ∀ (qs : List PartT) (k : Nat), countsB (qs.take k) ≤ countsB qs := by
  intro qs
  induction qs with
  | nil => intro k; simp [countsB]
  | cons x qs ih =>
    intro k
    cases k with
    | zero => simp [countsB]
    | succ k => simp only [List.take_succ_cons, countsB]; have := ih k; omega

set_option maxHeartbeats 2000000 in
set_option maxRecDepth 100000 in
theorem depth_any (S : Nat → Prop) : ∀ (n : Nat) (q : PartT) (v : Value) (w : World), countB q ≤ n → n ≤ 1000000 → PartAt w S q v →
    Calls Tryz.prog 7 #[v] w fun e w' => e = .returned (.int .i64 (depthB q)) ∧ Ext w w' := by
  intro n
  induction n with
  | zero => intro q v w h; rw [countB_ps q] at h; omega
  | succ n ih =>
    intro q v w hd hn hq
    obtain ⟨af, nf, cf, ap, np, cp, aq, nq, cq, rfl, hf, hp, hps⟩ := hq.open
    obtain ⟨_, _, _, he, hnq, hps⟩ := hps
    cases he
    have hx0 : Ext w (w.alloc (.cells #[.slice af nf cf, vstr q.t, .slice ap np cp, vstr q.b, .slice aq nq cq] 27)) := (Ext.refl w).alloc _
    have Hq := Lib.hid hq
    have Ih := Lib.hid ih
    have Hps := Lib.hid hps
    clear hq ih hps hf hp
    subst hnq
    have hqn : q.ps.length ≤ 1000000 := by have := countsB_len q.ps; rw [countB_ps q] at hd; omega
    have hdq2 := depth_le_count _ q (Nat.le_refl _)
    have hdq3 : ∀ k, depthsB (q.ps.take k) 0 ≤ 1000000 := fun k => by have h1 := depths_le_counts (q.ps.take k) 0; have h2 := counts_take q.ps k; rw [countB_ps q] at hd; omega
    go_enter Tryz.func7, Tryz.ntmps7
    go_wp2
    obtain ⟨w1, hw1⟩ : ∃ w1, w1 = w.alloc (.cells #[.slice af nf cf, vstr q.t, .slice ap np cp, vstr q.b, .slice aq q.ps.length cq] 27) := ⟨_, rfl⟩
    rw [← hw1] at hx0 ⊢
    clear hw1
    go_loopw [3, 9] (fun m i wr => ∃ k : Nat, k ≤ q.ps.length ∧ i = .int .i64 k ∧ m = .int .i64 (depthsB (q.ps.take k) 0) ∧ Ext w wr) (fun _ i _ => q.ps.length - (intOf i).toNat)
    case atStart => exact ⟨0, Nat.zero_le _, rfl, rfl, hx0⟩
    case round =>
      obtain ⟨k, hk, rfl, rfl, hx⟩ := hrel
      by_cases hlt : k < q.ps.length
      · rcases Hps.out with h0 | ⟨b', o, xs, ha, hb, hc, hcells, hat⟩
        · rw [h0] at hlt; simp at hlt
        subst ha
        obtain ⟨v0, v1, v2, v3, v4, e0, e1, e2, e3, e4, hqk⟩ := CellsAt.at hat k hlt
        have key : ∀ i u, xs[i]? = some u → wr.cell? ⟨b', o + i, none⟩ = some u := by
          intro i u hu
          obtain ⟨hi, rfl⟩ := List.getElem?_eq_some_iff.1 hu
          exact hx.holds (hcells i hi)
        have c0 := key _ _ e0
        have c1 : wr.cell? ⟨b', o + k * 5 + 1, none⟩ = some v1 := by rw [Nat.add_assoc]; exact key _ _ e1
        have c2 : wr.cell? ⟨b', o + k * 5 + 2, none⟩ = some v2 := by rw [Nat.add_assoc]; exact key _ _ e2
        have c3 : wr.cell? ⟨b', o + k * 5 + 3, none⟩ = some v3 := by rw [Nat.add_assoc]; exact key _ _ e3
        have c4 : wr.cell? ⟨b', o + k * 5 + 4, none⟩ = some v4 := by rw [Nat.add_assoc]; exact key _ _ e4
        have hqk' := PartAt.keep (Ext.keep (hx.alloc (.cells #[v0, v1, v2, v3, v4] 27))) _ _ hqk
        obtain ⟨_, _, _, _, _, _, _, _, _, hv, _⟩ := hqk.open
        simp only [Value.agg.injEq, Array.mk.injEq, List.cons.injEq, and_true] at hv
        obtain ⟨rfl, rfl, rfl, rfl, rfl⟩ := hv
        have hdk := countB_mem (List.getElem_mem hlt)
        have hdc := depth_le_count _ q.ps[k] (Nat.le_refl _)
        have hsn : depthsB (q.ps.take (k + 1)) 0 = max (depthsB (q.ps.take k) 0) (depthB q.ps[k]) := by rw [List.take_succ_eq_append_getElem hlt, depthsB_snoc]
        have Hc := Lib.hid ((Ih.out) q.ps[k] _ _ (by omega) (by omega) hqk')
        have Hsn := Lib.hid hsn
        have Hx := Lib.hid hx
        clear key e0 e1 e2 e3 e4 hqk hqk' hcells hat hsn hx
        obtain ⟨dk, hdk2⟩ : ∃ dk, dk = depthB q.ps[k] := ⟨_, rfl⟩
        rw [← hdk2] at Hc Hsn hdc
        clear hdk2
        go_wp2_with fail
        refine (Hc.out).mono ?_
        rintro e w2 ⟨rfl, x2⟩
        have hmx : max ((depthsB (q.ps.take k) 0 : Nat) : Int) (dk : Int) = ((depthsB (q.ps.take (k + 1)) 0 : Nat) : Int) := by rw [Hsn.out]; omega
        go_wp2
        go_roundw
        case rel => exact ⟨k + 1, by omega, by go_num, rfl, ((Hx.out).alloc _).trans x2⟩
        case measure => simp [intOf]; omega
      · obtain rfl : k = q.ps.length := by omega
        rw [List.take_length] at *
        have hdq := depthB_ps q
        have Hx := Lib.hid hx
        clear hx
        go_wp2
        go_ret
        refine ⟨ret_int ?_, Hx.out⟩
        rw [hdq]
        go_num
end Go.Proofs.YtdjcjkpodggdpaaGreatDoor
