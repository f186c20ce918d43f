/- ViewSafe: the loop's plain facts. -/
import Derived.Test.YtfkjjhfoncckcaaGreatDoorYSafe0
namespace Go.Proofs.YtfkjjhfoncckcaaGreatDoor
open Go.RowKit Go.Sort

/-- The lines, the first j of them changed. -/
def hidJ (s : List UInt8) (l : List ShownT) (j : Nat) : List ShownT := (l.take j).map (hideS s) ++ l.drop j
theorem hidJ_len (s : List UInt8) (l : List ShownT) (j : Nat) : (hidJ s l j).length = l.length := by simp [hidJ]; omega
theorem hidJ_zero (s : List UInt8) (l : List ShownT) : hidJ s l 0 = l := by simp [hidJ]
theorem hidJ_all (s : List UInt8) (l : List ShownT) : hidJ s l l.length = l.map (hideS s) := by simp [hidJ]
theorem hidJ_get (s : List UInt8) (l : List ShownT) (j : Nat) (hj : j < l.length) (h : j < (hidJ s l j).length) : (hidJ s l j)[j] = l[j] := by
  have e : (hidJ s l j)[j]? = some l[j] := by
    unfold hidJ
    rw [List.getElem?_append_right (by simp; omega)]
    simp [Nat.min_eq_left (Nat.le_of_lt hj), hj]
  rw [List.getElem?_eq_getElem h] at e
  exact Option.some.inj e
theorem hidJ_succ (s : List UInt8) (l : List ShownT) (j : Nat) (hj : j < l.length) : hidJ s l (j + 1) = (hidJ s l j).set j (hideS s l[j]) := by
  unfold hidJ
  rw [List.take_succ_eq_append_getElem hj, List.map_append, List.set_append_right _ _ (by simp; omega)]
  have e : j - ((l.take j).map (hideS s)).length = 0 := by simp; omega
  rw [e, List.drop_eq_getElem_cons hj, List.append_assoc]
  rfl
theorem hideS_plain (s : List UInt8) (x : ShownT) (h : x.hid = false) : hideS s x = x := by
  unfold hideS
  rw [h]
  rfl
theorem set_same {α : Type} (l : List α) (j : Nat) (x : α) (h : j < l.length) (e : l[j] = x) : l.set j x = l := by
  subst e
  exact List.set_getElem_self h
/-- A row of one view. -/
theorem view_one {W : World} {q : ViewT} {la ma : Option Addr} {lc mc : Nat} (hS : ShownsAt W q.lines (.slice la q.lines.length lc)) (hI : IntsAt W q.lists (.slice ma q.lists.length mc)) :
    ViewsAt (W.alloc (.cells #[vstr q.id, vstr q.sender, vstr q.subject, .int .i64 q.date, .int .i64 q.state, .slice la q.lines.length lc, vstr q.commit, .slice ma q.lists.length mc] 43)) [q] (.slice (some ⟨W.heap.size, 0, none⟩) 1 1) := by
  refine ⟨_, _, rfl, Nat.le_refl _, .inr ⟨W.heap.size, 0, rfl, fun i hi h => ?_⟩⟩
  have h2 : i < 1 := hi
  obtain rfl : i = 0 := by omega
  exact ⟨la, q.lines.length, lc, ma, q.lists.length, mc, by rw [World.cell?_alloc_mark]; rfl, by rw [World.cell?_alloc_mark]; rfl, by rw [World.cell?_alloc_mark]; rfl, by rw [World.cell?_alloc_mark]; rfl, by rw [World.cell?_alloc_mark]; rfl, by rw [World.cell?_alloc_mark]; rfl, by rw [World.cell?_alloc_mark]; rfl, by rw [World.cell?_alloc_mark]; rfl,
    hS.ext ((Ext.refl W).alloc _), hI.ext ((Ext.refl W).alloc _)⟩
/-- What the copied lines are: none, or a row of their own. -/
def LRow (W : World) (B : Nat) (l : List ShownT) (v : Value) : Prop := (l = [] ∧ ∃ a c, v = .slice a 0 c) ∨ ∃ g cap, v = .slice (some ⟨g, 0, none⟩) l.length cap ∧ SRow W g l ∧ B < g ∧ l.length ≤ cap
theorem LRow.at {W : World} {B : Nat} {l : List ShownT} {v : Value} (h : LRow W B l v) : ShownsAt W l v := by
  rcases h with ⟨rfl, a, c, rfl⟩ | ⟨g, cap, rfl, hr, _, hc⟩
  · exact ⟨a, c, rfl, Nat.zero_le _, .inl rfl⟩
  · exact hr.at hc
theorem LRow.of_own {W : World} {B base : Nat} {l : List ShownT} {v : Value} (h : W.ownsRow base 45 4 v l.length (shownCells l)) (hB : B < base) : LRow W B l v := by
  rcases h.2 with ⟨rfl, h0⟩ | ⟨g, cap, cur, rfl, _⟩
  · exact .inl ⟨List.length_eq_zero_iff.1 h0, none, 0, rfl⟩
  · obtain ⟨h1, h2, h3⟩ := SRow.of_own h rfl
    exact .inr ⟨g, cap, rfl, h1, by omega, h3⟩
theorem own_slice {W : World} {base : Nat} {e : TypeId} {size : Nat} {v : Value} {n : Nat} {xs : List Value} (h : W.ownsRow base e size v n xs) : ∃ a c, v = .slice a n c := by
  rcases h.2 with ⟨rfl, rfl⟩ | ⟨g, cap, cur, rfl, _⟩
  · exact ⟨_, _, rfl⟩
  · exact ⟨_, _, rfl⟩
/-- A view with its lines changed. -/
def hidV (s : List UInt8) (q : ViewT) : ViewT := { q with lines := q.lines.map (hideS s) }
theorem view_hid {W : World} {q : ViewT} {s : List UInt8} {la ma : Option Addr} {lc mc : Nat} (hS : ShownsAt W (q.lines.map (hideS s)) (.slice la q.lines.length lc)) (hI : IntsAt W q.lists (.slice ma q.lists.length mc)) :
    ViewsAt (W.alloc (.cells #[vstr q.id, vstr q.sender, vstr q.subject, .int .i64 q.date, .int .i64 q.state, .slice la q.lines.length lc, vstr q.commit, .slice ma q.lists.length mc] 43)) [hidV s q] (.slice (some ⟨W.heap.size, 0, none⟩) 1 1) := by
  have e : q.lines.length = (hidV s q).lines.length := by simp [hidV]
  rw [e] at hS ⊢
  exact view_one (q := hidV s q) hS hI
theorem LRow.ext {W W' : World} {B : Nat} {l : List ShownT} {v : Value} (h : LRow W B l v) (x : Ext W W') : LRow W' B l v := by
  rcases h with h | ⟨g, cap, h1, h2, h3, h4⟩
  · exact .inl h
  · exact .inr ⟨g, cap, h1, h2.ext x, h3, h4⟩
end Go.Proofs.YtfkjjhfoncckcaaGreatDoor
