/- mime.visit, mime.all: the iterator over the parts of a tree. -/
import Derived.Test.YtdjcjkpodggdpaaGreatDoorBFlat
namespace Go.Proofs.YtdjcjkpodggdpaaGreatDoor
open Go.RowKit
attribute [local go_sem] Oper.semAt_some

theorem RoundIn.anyDepth {F : Fence} (hd : F.depth = none) {m m' : Nat} {P : Program} {l : Nat} {f : FuncId} {tmps : Array Value} {assign body : Code} {w : World} {R : Ending → World → Prop}
    (h : RoundIn F m P l f tmps assign body w R) : RoundIn F m' P l f tmps assign body w R := ⟨h.1, fun c cs _ => h.2 c cs (fun d h => by rw [hd] at h; cases h)⟩
theorem YieldAt.anyDepth {F : Fence} (hd : F.depth = none) {m : Nat} (m' : Nat) {P : Program} {l : Nat} {args : Array Value} {W : World} {R : Ending → World → Prop} (h : YieldAt F m P l args W R) : YieldAt F m' P l args W R := by
  obtain ⟨fn, tmps, assign, body, hy, hR⟩ := h
  exact ⟨fn, tmps, assign, body, hy, RoundIn.anyDepth hd hR⟩

/-- What the caller's body leaves: Good W k: block k is none that it changes. -/
structure Cares (Ok : World → Prop) (Good : World → Nat → Prop) (Kp : World → World → Prop) : Prop where
  trans : ∀ {A B C : World}, Kp A B → Kp B C → Kp A C
  ext : ∀ {W W' : World}, Ext W W' → Kp W W'
  ok : ∀ {W W' : World}, Kp W W' → Ok W → Ok W'
  good : ∀ {W W' : World} {k : Nat}, Kp W W' → Ok W → Good W k → k < W.heap.size → Good W' k ∧ W'.heap[k]? = W.heap[k]?
  fresh : ∀ {W W' : World} {k : Nat} {cs : Array Value} {t : TypeId} {z : Nat × Nat}, Ok W → Ext W W' → W.heap.size ≤ k → W'.heap[k]? = some (.cells cs t z) → Good W' k
  keep : ∀ {W W' : World}, Kp W W' → Ok W → Keep (Good W) W W'

theorem Cares.part {Ok : World → Prop} {Good : World → Nat → Prop} {Kp : World → World → Prop} (C : Cares Ok Good Kp) {W W' : World} (hk : Kp W W') (ho : Ok W) {q : PartT} {v : Value} (h : PartAt W (Good W) q v) : PartAt W' (Good W') q v := by
  have h1 := PartAt.mono (T := fun k => Good W k ∧ k < W.heap.size) (fun b hlt hb => ⟨hb, hlt⟩) _ _ h
  have h2 := PartAt.keep ((C.keep hk ho).mono (T := fun k => Good W k ∧ k < W.heap.size) (fun b hb => hb.1)) _ _ h1
  exact PartAt.mono (fun b _ hb => (C.good hk ho hb.1 hb.2).1) _ _ h2
mutual
theorem flatV_same {W W' : World} {S : Nat → Prop} (h : ∀ k, S k → k < W.heap.size → W'.heap[k]? = W.heap[k]?) : ∀ (q : PartT) (v : Value), PartAt W S q v → flatV W' q v = flatV W q v
  | .mk f t p b ps, v, hq => by
    simp only [PartAt] at hq
    obtain ⟨af, nf, cf, ap, np, cp, aq, nq, cq, rfl, _, _, _, hq⟩ := hq
    simp only [flatV]
    rcases hq with rfl | ⟨b', o, xs, rfl, hb, _, hcells, hat⟩
    · simp only [flatsV]
    · have := flatsV_same h ps xs b' o hb hcells hat
      show _ :: flatsV W' ps b' o = _ :: flatsV W ps b' o
      rw [this]
theorem flatsV_same {W W' : World} {S : Nat → Prop} (h : ∀ k, S k → k < W.heap.size → W'.heap[k]? = W.heap[k]?) : ∀ (qs : List PartT) (xs : List Value) (b o : Nat), S b → (∀ i (hi : i < xs.length), W.cell? ⟨b, o + i, none⟩ = some (xs[i]'hi)) → CellsAt W S qs xs → flatsV W' qs b o = flatsV W qs b o
  | [], _, _, _, _, _, _ => by simp only [flatsV]
  | q :: qs, xs, b, o, hb, hc, hq => by
    simp only [CellsAt] at hq
    obtain ⟨v0, v1, v2, v3, v4, t, rfl, h1, h2⟩ := hq
    have c0 : W.cell? ⟨b, o, none⟩ = some v0 := hc 0 (by simp)
    have hcl : ∀ p, W'.cell? ⟨b, p, none⟩ = W.cell? ⟨b, p, none⟩ := fun p => World.cell?_of_block (w := W) (a := ⟨b, p, none⟩) (h b hb (lt_of_cell c0))
    have e : aggAt W' b o = aggAt W b o := by simp only [aggAt, hcl]
    have e2 : aggAt W b o = .agg #[v0, v1, v2, v3, v4] := by
      have c1 : W.cell? ⟨b, o + 1, none⟩ = some v1 := hc 1 (by simp)
      have c2 : W.cell? ⟨b, o + 2, none⟩ = some v2 := hc 2 (by simp)
      have c3 : W.cell? ⟨b, o + 3, none⟩ = some v3 := hc 3 (by simp)
      have c4 : W.cell? ⟨b, o + 4, none⟩ = some v4 := hc 4 (by simp)
      rw [aggAt, c0, c1, c2, c3, c4]; rfl
    simp only [flatsV]
    rw [e, e2, flatV_same h q _ h1, flatsV_same h qs t b (o + 5) hb (fun i hi => by
      have := hc (i + 5) (by simp; omega)
      rw [show o + 5 + i = o + (i + 5) by omega, this]
      rfl) h2]
end
theorem flatsV_append (W : World) : ∀ (a c : List PartT) (b o : Nat), flatsV W (a ++ c) b o = flatsV W a b o ++ flatsV W c b (o + a.length * 5) := by
  intro a
  induction a with
  | nil => intro c b o; simp [flatsV]
  | cons x a ih =>
    intro c b o
    simp only [List.cons_append, flatsV, ih, List.append_assoc, List.length_cons]
    rw [show o + 5 + a.length * 5 = o + (a.length + 1) * 5 by omega]
theorem countsB_append : ∀ (a c : List PartT), countsB (a ++ c) = countsB a + countsB c := by
  intro a
  induction a with
  | nil => intro c; simp [countsB]
  | cons x a ih => intro c; simp only [List.cons_append, countsB, ih]; omega
theorem flatsV_len (W : World) : ∀ (qs : List PartT) (b o : Nat), (flatsV W qs b o).length = countsB qs := by
  intro qs
  induction qs with
  | nil => intro b o; simp only [flatsV, countsB, List.length_nil]
  | cons x qs ih => intro b o; simp only [flatsV, countsB, List.length_append, ih, flatV_len W _ x _ (Nat.le_refl _)]

set_option maxHeartbeats 4000000 in
set_option maxRecDepth 100000 in
theorem visit_in {Ok : World → Prop} {Good : World → Nat → Prop} {Kp : World → World → Prop} (C : Cares Ok Good Kp) (ll N : Nat) (hN : N ≤ 1000000) (XS : List (PartT × Value)) (J Jx : List {x : PartT × Value // x ∈ XS} → World → Prop)
    (hJE : ∀ pre W W', J pre W → Ext W W' → J pre W')
    (hY : ∀ m pre (x : {x : PartT × Value // x ∈ XS}) W, J pre W → pre.length < N → YieldAt Fence.wide m Tryz.prog ll #[x.1.2] W fun e W' =>
      (e = .returned (.bool true) ∧ J (pre ++ [x]) W' ∧ Kp W W') ∨ (e = .returned (.bool false) ∧ Jx (pre ++ [x]) W')) :
    ∀ (cn : Nat) (n : Nat) (q : PartT) (v : Value) (pre : List {x : PartT × Value // x ∈ XS}) (W : World), countB q ≤ cn → PartAt W (Good W) q v → Ok W → J pre W → (∀ x ∈ flatV W q v, x ∈ XS) → pre.length + countB q ≤ N →
      CallsIn Fence.wide n Tryz.prog 24 #[v, .func (.yield ll) #[] #[]] W fun e W' =>
        (e = .returned (.bool true) ∧ (∃ L : List {x : PartT × Value // x ∈ XS}, L.map (·.1) = flatV W q v ∧ J (pre ++ L) W') ∧ Kp W W') ∨
        (e = .returned (.bool false) ∧ ∃ L : List {x : PartT × Value // x ∈ XS}, L.map (·.1) <+: flatV W q v ∧ Jx (pre ++ L) W') := by
  intro cn
  induction cn with
  | zero => intro n q v pre W h; rw [countB_ps q] at h; omega
  | succ cn ih =>
    intro n q v pre W hcn hq hok hJ hmem hlen
    obtain ⟨af, nf, cf, ap, np, cp, aq, nq, cq, rfl, hf, hp, hps⟩ := hq.open
    obtain ⟨_, _, _, he, hnq, hps⟩ := hps
    cases he
    subst hnq
    refine callsIn_of_wp Tryz.func24 rfl trivial ?_ rfl
    simp only [Tryz.ntmps24, List.size_toArray, List.length_cons, List.length_nil, Nat.reduceAdd, Nat.reduceSub, Array.replicate_succ, Array.replicate_zero, List.push_toArray, List.append_toArray, List.nil_append, List.cons_append]
    have hmem0 : (q, Value.agg #[.slice af nf cf, vstr q.t, .slice ap np cp, vstr q.b, .slice aq q.ps.length cq]) ∈ XS := hmem _ (by rw [flatV_ps]; simp)
    obtain ⟨W1, hW1⟩ : ∃ W1, W1 = W.alloc (.cells #[.slice af nf cf, vstr q.t, .slice ap np cp, vstr q.b, .slice aq q.ps.length cq] 27) := ⟨_, rfl⟩
    have x1 : Ext W W1 := by rw [hW1]; exact (Ext.refl W).alloc _
    have F1 : Five W1 W.heap.size (.slice af nf cf) (vstr q.t) (.slice ap np cp) (vstr q.b) (.slice aq q.ps.length cq) := by rw [hW1]; exact heap_new W _
    have ok1 := C.ok (C.ext x1) hok
    have g1 : Good W1 W.heap.size := C.fresh hok x1 (Nat.le_refl _) F1
    have hqlen : q.ps.length ≤ 1000000 := by have := countsB_len q.ps; rw [countB_ps q] at hlen; omega
    obtain ⟨fn, tmps, assign, body, hy, hR⟩ := hY (n - 1) pre ⟨_, hmem0⟩ W1 (hJE _ _ _ hJ x1) (by rw [countB_ps q] at hlen; omega)
    dsimp only at hy
    rw [hW1] at hy hR
    have HY := Lib.hid hY
    have Hmem := Lib.hid hmem
    have Hps := Lib.hid hps
    have Hq := Lib.hid hq
    have Ih := Lib.hid ih
    clear hY hmem hps hq ih hf hp
    gi_wp2
    rw [← hW1]
    have hW1' := Lib.hid hW1
    rw [← hW1] at hR
    clear hW1
    have dep : Fence.wide.depth.isSome = true → 1 ≤ n := fun h => by cases h
    refine ⟨dep, hR.mono ?_⟩
    rintro e W2 (⟨rfl, hJ2, hk2⟩ | ⟨rfl, hx2⟩)
    · have ok2 := C.ok hk2 ok1
      obtain ⟨g2, s2⟩ := C.good hk2 ok1 g1 F1.lt
      have F2 : Five W2 W.heap.size (.slice af nf cf) (vstr q.t) (.slice ap np cp) (vstr q.b) (.slice aq q.ps.length cq) := s2.trans F1
      have kW2 : Kp W W2 := C.trans (C.ext x1) hk2
      have p2 := F2.cell4
      have HC := Lib.hid C
      clear hR hy F2 s2
      gi_wp2
      obtain ⟨V, hV⟩ : ∃ V, V = Value.agg #[.slice af nf cf, vstr q.t, .slice ap np cp, vstr q.b, .slice aq q.ps.length cq] := ⟨_, rfl⟩
      have HV := Lib.hid hV
      gi_loopw [14] (fun i wr => ∃ (k : Nat) (L : List {x : PartT × Value // x ∈ XS}), k ≤ q.ps.length ∧ i = .int .i64 k ∧ L.map (·.1) = (q, V) :: flatsV W (q.ps.take k) (rowOf V).1 (rowOf V).2 ∧ J (pre ++ L) wr ∧ Kp W wr ∧ Ok wr)
          (fun i _ => q.ps.length - (intOf i).toNat)
      case atStart => exact ⟨0, [⟨_, hmem0⟩], Nat.zero_le _, rfl, by rw [hV]; simp [flatsV], hJ2, kW2, ok2⟩
      case round =>
        obtain ⟨k, L, hk, rfl, hL, hJ, hkp, hokr⟩ := hrel
        by_cases hlt : k < q.ps.length
        · rcases Hps.out with h0 | ⟨b', o, xs, ha, hb, hc, hcells, hat⟩
          · rw [h0] at hlt; simp at hlt
          subst ha
          obtain ⟨v0, v1, v2, v3, v4, hagg, c0, c1, c2, c3, c4, hqk⟩ := CellsAt.agg hat hcells k hlt
          have C := HC.out
          have hsame := fun p => World.cell?_of_block (w := W) (w' := wr) (a := ⟨b', p, none⟩) (C.good hkp hok hb (lt_of_cell c0)).2
          have d0 := (hsame _).trans c0
          have d1 := (hsame _).trans c1
          have d2 := (hsame _).trans c2
          have d3 := (hsame _).trans c3
          have d4 := (hsame _).trans c4
          have hqr := C.part hkp hok hqk
          have hfr : flatV wr q.ps[k] (.agg #[v0, v1, v2, v3, v4]) = flatV W q.ps[k] (.agg #[v0, v1, v2, v3, v4]) := flatV_same (S := Good W) (fun k gk lt => (C.good hkp hok gk lt).2) _ _ hqk
          have xa : Ext wr (wr.alloc (.cells #[v0, v1, v2, v3, v4] 27)) := (Ext.refl wr).alloc _
          have hqa := C.part (C.ext xa) hokr hqr
          have hfa : flatV (wr.alloc (.cells #[v0, v1, v2, v3, v4] 27)) q.ps[k] (.agg #[v0, v1, v2, v3, v4]) = flatV wr q.ps[k] (.agg #[v0, v1, v2, v3, v4]) := flatV_same (S := Good wr) (fun k gk lt => (C.good (C.ext xa) hokr gk lt).2) _ _ hqr
          have hrow : (rowOf V).1 = b' ∧ (rowOf V).2 = o := by rw [HV.out]; exact ⟨rfl, rfl⟩
          have hdec : q.ps = q.ps.take k ++ (q.ps[k] :: q.ps.drop (k + 1)) := by rw [← List.drop_eq_getElem_cons hlt, List.take_append_drop]
          have hfl : flatsV W q.ps b' o = flatsV W (q.ps.take k) b' o ++ (flatV W q.ps[k] (.agg #[v0, v1, v2, v3, v4]) ++ flatsV W (q.ps.drop (k + 1)) b' (o + k * 5 + 5)) := by
            conv => lhs; rw [hdec]
            rw [flatsV_append, flatsV, List.length_take, Nat.min_eq_left (by omega), hagg]
          have hsn : flatsV W (q.ps.take (k + 1)) b' o = flatsV W (q.ps.take k) b' o ++ flatV W q.ps[k] (.agg #[v0, v1, v2, v3, v4]) := by
            rw [List.take_succ_eq_append_getElem hlt, flatsV_snoc, List.length_take, Nat.min_eq_left (by omega), hagg]
          have hcs : countsB q.ps = countsB (q.ps.take k) + (countB q.ps[k] + countsB (q.ps.drop (k + 1))) := by
            conv => lhs; rw [hdec]
            rw [countsB_append, countsB]
          have hLl : L.length = countsB (q.ps.take k) + 1 := by have := congrArg List.length hL; rw [List.length_map, List.length_cons, flatsV_len] at this; exact this
          have hall : flatV W q V = (q, V) :: flatsV W q.ps b' o := by rw [flatV_ps, hrow.1, hrow.2]
          rw [countB_ps q] at hlen hcn
          have hcall := Ih.out (n - 1) q.ps[k] (.agg #[v0, v1, v2, v3, v4]) (pre ++ L) (wr.alloc (.cells #[v0, v1, v2, v3, v4] 27)) (by omega) hqa (C.ok (C.ext xa) hokr) (hJE _ _ _ hJ xa)
            (fun x hx => Hmem.out x (by rw [← HV.out, hall, hfl]; rw [hfa, hfr] at hx; simp [hx])) (by rw [List.length_append]; omega)
          rw [hfa, hfr] at hcall
          obtain ⟨_, _, _, _, _, _, _, _, _, hv, _⟩ := hqk.open
          simp only [Value.agg.injEq, Array.mk.injEq, List.cons.injEq, and_true] at hv
          obtain ⟨rfl, rfl, rfl, rfl, rfl⟩ := hv
          have Hcall := Lib.hid hcall
          have HL := Lib.hid hL
          have Hsn := Lib.hid hsn
          have Hfl := Lib.hid hfl
          have Hall := Lib.hid hall
          have Hkp := Lib.hid (C.trans hkp (C.ext xa))
          have Hoka := Lib.hid (C.ok (C.ext xa) hokr)
          clear hcall hL hsn hfl hall hdec hcs hLl hfa hfr hqa hqr hqk hagg c0 c1 c2 c3 c4 hsame hcells hat C p2 hV
          gi_wp2
          refine ⟨trivial, dep, (Hcall.out).mono ?_⟩
          rintro e w3 (⟨rfl, ⟨L2, hL2, hJ3⟩, hk3⟩ | ⟨rfl, L2, hL2, hx3⟩)
          · gi_wp2
            go_roundw
            case rel => exact ⟨k + 1, L ++ L2, by omega, by go_num, by rw [List.map_append, HL.out, hL2, hrow.1, hrow.2, Hsn.out]; rfl, by rw [← List.append_assoc]; exact hJ3, (HC.out).trans Hkp.out hk3, (HC.out).ok hk3 Hoka.out⟩
            case measure => simp [intOf]; omega
          · gi_wp2
            go_ret
            refine .inr ⟨rfl, L ++ L2, ?_, by rw [← List.append_assoc]; exact hx3⟩
            obtain ⟨rst, hrst⟩ := hL2
            rw [List.map_append, HL.out, hrow.1, hrow.2]
            refine ⟨rst ++ flatsV W (q.ps.drop (k + 1)) b' (o + k * 5 + 5), ?_⟩
            rw [← HV.out, Hall.out, Hfl.out, ← hrst]
            simp
        · obtain rfl : k = q.ps.length := by omega
          have HL := Lib.hid hL
          have HJ := Lib.hid hJ
          clear hL hJ p2
          gi_wp2
          go_ret
          refine .inl ⟨rfl, ⟨L, ?_, HJ.out⟩, hkp⟩
          rw [HL.out, List.take_length, ← HV.out, flatV_ps]
    · gi_wp2
      go_ret
      exact .inr ⟨rfl, [⟨_, hmem0⟩], by rw [flatV_ps]; simp, hx2⟩
end Go.Proofs.YtdjcjkpodggdpaaGreatDoor
