/- A loop over an iterator that keeps a state of its own in cells ('s = s[i:]' in a captured variable): the caller's invariant abides the iterator's own steps. -/
import Derived.Test.YtdjcjkpodggdpaaGreatDoorRange
namespace Go.Proofs.YtdjcjkpodggdpaaGreatDoor
open Go.RowKit

/-- A function value that yields the elements of a list, and takes steps St of its own between two yields. -/
def IterSt {α : Type} (P : Program) (gf : Nat) (lb : Array Value) (encs : α → Array Value) (Kp St : World → World → Prop) (xs : List α) (w0 : World) : Prop :=
  ∀ (n l : Nat) (J Jx : List {x : α // x ∈ xs} → World → Prop) (W : World), 6 ≤ n → Ext w0 W → AbidesFrom W.heap.size J → AbidesFrom W.heap.size Jx → (∀ pre A B, J pre A → St A B → J pre B) →
    (∀ pre (x : {x : α // x ∈ xs}) A, J pre A → pre.length < xs.length → YieldAt Fence.wide (n - 1) P l (encs x.1) A fun e B =>
      (e = .returned (.bool true) ∧ J (pre ++ [x]) B ∧ Kp A B) ∨ (e = .returned (.bool false) ∧ Jx (pre ++ [x]) B)) →
    J [] W →
    CallsIn Fence.wide n P gf (#[.func (.yield l) #[] #[]] ++ lb) W fun e B => (∃ v, e = .returned v) ∧
      ((∃ ys : List {x : α // x ∈ xs}, ys.map (·.1) = xs ∧ J ys B) ∨ (∃ pre : List {x : α // x ∈ xs}, pre.map (·.1) <+: xs ∧ Jx pre B))

/-- What the loop lays for itself: the block of the rounds' deferred calls, and its record. -/
structure Book (c : Nat) (rec : Loop) (W : World) : Prop where
  marks : W.heap[c]? = some (.deferred (some []))
  record : W.heap[c + 1]? = some (.loop rec)
theorem Book.lt {c : Nat} {rec : Loop} {W : World} (h : Book c rec W) : c + 1 < W.heap.size := (Array.getElem?_eq_some_iff.1 h.record).1
theorem Book.keeps {c : Nat} {rec : Loop} {A B : World} (h : Book c rec A) (k : KeepsFrom c A B) : Book c rec B := ⟨k.same _ _ (Nat.le_refl _) h.marks rfl, k.same _ _ (by omega) h.record rfl⟩
theorem Book.turn {c : Nat} {rec : Loop} {A : World} (h : Book c rec A) (rec' : Loop) : Book c rec' (A.putObj (c + 1) (.loop rec')) :=
  ⟨(World.putObj_heap_other (by omega)).trans h.marks, World.putObj_heap_same h.lt⟩
theorem Book.grown {c : Nat} {rec : Loop} {A B : World} {row : Option Nat} (h : Book c rec A) (hg : A.grownBy B row) (hr : ∀ r, row = some r → ∃ o : Obj, A.heap[r]? = some o ∧ o.isWalk = true) : Book c rec B :=
  ⟨(grownBy_keeps hg hr h.marks rfl).trans h.marks, (grownBy_keeps hg hr h.record rfl).trans h.record⟩

set_option maxHeartbeats 1000000 in
/-- The law, at the wide fence. -/
theorem wp_range_steps {P : Program} {n : Nat} {α : Type} {g : Operand} {ps : Array Tmp} {assign body : Code} {Q : Exit → Act → World → Prop} {a : Act} {w : World} (hn : 7 ≤ n)
    {gf : Nat} {lb : Array Value} (hg : a.eval g = .func (.func gf) #[] lb) (eg : ∀ args w, (callFunc gf args).run P w = .ok (.enter gf args) w)
    {encs : α → Array Value} {Kp St : World → World → Prop} {xs : List α} {w0 : World} (hseq : IterSt P gf lb encs Kp St xs w0) (hw : Ext w0 w)
    (hKt : ∀ {A B C : World}, Kp A B → Kp B C → Kp A C) (hKb : ∀ (W : World) (l : Nat) (o o' : Obj), w.heap.size ≤ l → W.heap[l]? = some o → o.isCells = false → o.isWalk = false → Kp W (W.putObj l o')) (hps : ∀ x, (encs x).size = ps.size)
    (hSt : ∀ {A B : World}, St A B → KeepsOthers A B)
    (I : List {x : α // x ∈ xs} → World → Prop) (Ix : Code → List {x : α // x ∈ xs} → World → Prop) (hI : OwnFrom w.heap.size I) (hIx : ∀ c, OwnFrom w.heap.size (Ix c)) (hIS : ∀ pre A B, I pre A → St A B → I pre B) (h0 : I [] w)
    (Ax : {x : α // x ∈ xs} → Act → World → Prop) (hAx : ∀ x a', OwnFrom w.heap.size (fun (_ : Unit) W => Ax x a' W))
    (hassign : ∀ (l : Nat) (pre : List {x : α // x ∈ xs}) (x : {x : α // x ∈ xs}) (W : World) (K : Act → World → Prop), I pre W → (∀ a' W', KeepsFrom w.heap.size W W' → Kp W W' → I pre W' → Ax x a' W' → K a' W') →
      assign.wpIn (Fence.wide.inRound l) (n - 1 - 1) P (Exit.then K (fun _ _ _ => False)) { tmps := (ps.zip (encs x.1)).foldl (fun t (p, v) => t.setIfInBounds p v) a.tmps, defers := [] } W)
    (hbody : ∀ (l : Nat) (pre : List {x : α // x ∈ xs}) (x : {x : α // x ∈ xs}) (a' : Act) (W : World), w.heap.size ≤ l → (∃ r, W.heap[l]? = some (.loop r)) → I pre W → Ax x a' W → pre.length < xs.length →
      body.wpIn (Fence.wide.inRound l) (n - 1 - 1) P (ownPostG w.heap.size Kp I Ix (pre ++ [x]) W) a' W)
    (hdone : ∀ (D : Nat) (ys : List {x : α // x ∈ xs}) (W : World), w.heap.size ≤ D → ys.map (·.1) = xs → I ys W → W.heap[D]? = some (.deferred (some [])) → Q .normal { a with defers := { target := .collected D, args := #[] } :: a.defers } W)
    (hstop : ∀ (D : Nat) (c : Code) (pre : List {x : α // x ∈ xs}) (W : World), w.heap.size ≤ D → pre.map (·.1) <+: xs → Ix c pre W → W.heap[D]? = some (.deferred (some [])) →
      c.wpIn Fence.wide n P Q { a with defers := { target := .collected D, args := #[] } :: a.defers } W) :
    (Code.rangeFunc g ps assign body).wpIn Fence.wide n P Q a w := by
  refine wpIn_rangeFunc fun fn hfn => ?_
  obtain ⟨c, hc⟩ : ∃ c, c = w.heap.size := ⟨_, rfl⟩
  let rec' : LoopState → Option Code → Loop := fun st pe => { state := st, pending := pe, fn, tmps := a.tmps, params := ps, assign, body, defers := c }
  obtain ⟨W1, hW1⟩ : ∃ W1, W1 = (w.alloc (.deferred (some []))).alloc (.loop (rec' .ready none)) := ⟨_, rfl⟩
  have x1 : Ext w W1 := by rw [hW1]; exact ((Ext.refl w).alloc _).alloc _
  have bk1 : Book c (rec' .ready none) W1 := by
    rw [hW1, hc]
    refine ⟨(Below.heap_alloc _ _ _ (by simp)).trans (heap_new w _), ?_⟩
    have := heap_new (w.alloc (.deferred (some []))) (.loop (rec' .ready none))
    rwa [World.size_alloc] at this
  have i1 : I [] W1 := by rw [hW1]; exact hI.alloc _ (hI.alloc _ h0)
  -- an invariant abides a change of the record
  have iput : ∀ {pre : List {x : α // x ∈ xs}} {A : World} {r : Loop} (o : Obj), Book c r A → I pre A → I pre (A.putObj (c + 1) o) := fun o hb hi => hI.putObj o hi (by omega) hb.record rfl
  have xput : ∀ {cd : Code} {pre : List {x : α // x ∈ xs}} {A : World} {r : Loop} (o : Obj), Book c r A → Ix cd pre A → Ix cd pre (A.putObj (c + 1) o) := fun o hb hi => (hIx _).putObj o hi (by omega) hb.record rfl
  have kput : ∀ {A : World} {r : Loop} (o : Obj), Book c r A → Kp A (A.putObj (c + 1) o) := fun o hb => hKb _ _ _ _ (by omega) hb.record rfl rfl
  have low : ∀ {A : World} {row : Option Nat}, (∀ r, row = some r → W1.heap.size ≤ r ∧ ∃ o : Obj, A.heap[r]? = some o ∧ o.isWalk = true) → (∀ r, row = some r → w.heap.size ≤ r ∧ ∃ o : Obj, A.heap[r]? = some o ∧ o.isCells = false) :=
    fun h r e => by
      obtain ⟨h1, o, h2, h3⟩ := h r e
      exact ⟨Nat.le_trans x1.size h1, o, h2, Obj.not_cells_of_walk h3⟩
  refine ⟨c + 1, [{ target := .collected c, args := #[] }], W1, { target := .fn (.func gf) lb, args := #[.func (.yield (c + 1)) #[] #[]] }, W1, gf, #[.func (.yield (c + 1)) #[] #[]] ++ lb, W1, ?_, ?_, ?_, ?_, fun h => (by cases h), ?_⟩
  · subst hc; subst hW1; exact run_enterLoop_outer _ _ _ _ _
  · simp only [resolve, hg]
    simp [go_sem]
  · intro f' _; trivial
  · simp [invoke, go_sem, eg]
  refine (hseq (n - 1) (c + 1) (fun pre A => I pre A ∧ Book c (rec' .ready none) A) (fun pre A => ∃ cd, Ix cd pre A ∧ Book c (rec' .done (some cd)) A) W1 (by omega) (hw.trans x1) ?_ ?_ ?_ ?_ ⟨i1, bk1⟩).mono ?_
  · exact fun s A B row hs hgr hr => ⟨hI s A B row hs.1 hgr (low hr), hs.2.grown hgr (fun r e => (hr r e).2)⟩
  · rintro s A B row ⟨cd, h1, h2⟩ hgr hr
    exact ⟨cd, hIx cd s A B row h1 hgr (low hr), h2.grown hgr (fun r e => (hr r e).2)⟩
  · exact fun pre A B hj hs => ⟨hIS pre A B hj.1 hs, hj.2.keeps ((hSt hs).from _)⟩
  · -- one round
    rintro pre x A ⟨hi, hb⟩ hlen
    refine ⟨fn, _, assign, body, run_yield (P := P) (args := encs x.1) hb.record (hps x.1), roundIn_of_wpIn hfn (hassign _ pre x A _ hi ?_)⟩
    intro a' A2 hk2 hp2 hi2 hx2
    have hb2 := hb.keeps (by rw [hc]; exact hk2)
    obtain ⟨A3, hA3⟩ : ∃ A3, A3 = A2.putObj (c + 1) (.loop (rec' .busy none)) := ⟨_, rfl⟩
    have hb3 : Book c (rec' .busy none) A3 := by rw [hA3]; exact hb2.turn _
    have hp3 : Kp A A3 := by rw [hA3]; exact hKt hp2 (kput _ hb2)
    have hi3 : I pre A3 := by rw [hA3]; exact iput _ hb2 hi2
    have hx3 : Ax x a' A3 := by rw [hA3]; exact (hAx x a').putObj (s := ()) _ hx2 (by omega) hb2.record rfl
    refine ⟨A3, by rw [hA3]; exact run_beginRound hb2.record rfl, wpIn_mono (hbody _ pre x a' A3 (by omega) ⟨_, hb3.record⟩ hi3 hx3 hlen) ?_⟩
    have fin : ∀ (jump : Option Code) (A4 : World), KeepsFrom w.heap.size A3 A4 → Book c (rec' .busy none) A4 ∧ (Instr.endRound (c + 1) jump).run P A4 = .ok (.bool jump.isNone) (A4.putObj (c + 1) (.loop (rec' (if jump.isNone then .ready else .done) jump))) := fun jump A4 hk4 => by
      have hb4 := hb3.keeps (by rw [hc]; exact hk4)
      exact ⟨hb4, run_endRound (P := P) jump hb4.record⟩
    rintro e a3 A4 hp
    cases e with
    | normal =>
      obtain ⟨hk4, hp4, hi4⟩ := hp
      obtain ⟨hb4, hr⟩ := fin none A4 hk4
      exact ⟨_, _, hr, .inl ⟨rfl, ⟨iput _ hb4 hi4, hb4.turn _⟩, hKt hp3 (hKt hp4 (kput _ hb4))⟩⟩
    | ret =>
      obtain ⟨hk4, hi4⟩ := hp
      obtain ⟨hb4, hr⟩ := fin (some .ret) A4 hk4
      exact ⟨_, _, hr, .inr ⟨rfl, .ret, xput _ hb4 hi4, hb4.turn _⟩⟩
    | exit id =>
      obtain ⟨hk4, hi4⟩ := hp
      obtain ⟨hb4, hr⟩ := fin (some (.exit id)) A4 hk4
      exact ⟨_, _, hr, .inr ⟨rfl, .exit id, xput _ hb4 hi4, hb4.turn _⟩⟩
    | goto t =>
      obtain ⟨hk4, hi4⟩ := hp
      obtain ⟨hb4, hr⟩ := fin (some (.goto t)) A4 hk4
      exact ⟨_, _, hr, .inr ⟨rfl, .goto t, xput _ hb4 hi4, hb4.turn _⟩⟩
    | panic ch => exact hp.elim
    | outgrown => exact hp.elim
  · -- behind the iterator
    rintro e B ⟨⟨v, rfl⟩, (⟨ys, hS, hi, hb⟩ | ⟨pre, hS, cd, hi, hb⟩)⟩
    · exact ⟨none, _, run_endLoop (P := P) hb.record (by simp [rec']), hdone c ys _ (by omega) hS (iput _ hb hi) ((World.putObj_heap_other (by omega)).trans hb.marks)⟩
    · exact ⟨some cd, _, run_endLoop (P := P) hb.record (by simp [rec']), hstop c cd pre _ (by omega) hS (xput _ hb hi) ((World.putObj_heap_other (by omega)).trans hb.marks)⟩
end Go.Proofs.YtdjcjkpodggdpaaGreatDoor
