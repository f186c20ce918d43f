/- A page: (*page).line, and its text. -/
import Derived.Test.YtfkjjhfoncckcaaGreatDoorVUnhex
import Derived.Lib.JoinLaws
namespace Go.Proofs.YtfkjjhfoncckcaaGreatDoor
open Go.RowKit Go.Sort

theorem lies_page : LiesT 72 := ⟨by kernel_rfl, by decide⟩
theorem join_nil (xs : List (List UInt8)) : Lib.join xs [] = xs.flatten := by
  unfold Lib.join
  induction xs with
  | nil => rfl
  | cons x t ih =>
    cases t with
    | nil => simp [List.intercalate]
    | cons y t => simp [List.intercalate, List.intersperse] at ih ⊢; rw [ih]
/-- The strings of a slice. -/
def PartsOf (w : World) (bk o : Nat) (xs : List (List UInt8)) : Prop := bk < w.heap.size ∧ ∀ (j : Nat) (x : List UInt8), xs[j]? = some x → w.cell? ⟨bk, o + j, none⟩ = some (vstr x)
theorem join_l (bk o c : Nat) (xs : List (List UInt8)) (w : World) (h : PartsOf w bk o xs) (hc : xs.length ≤ c) (hl : xs.flatten.length ≤ 1099511627776) (hn : xs.length ≤ 1099511627776) :
    Calls Tryz.prog 67 #[.slice (some ⟨bk, o, none⟩) xs.length c, .string ⟨#[]⟩] w fun e w' => e = .returned (vstr xs.flatten) ∧ Ext w w' := by
  have e : (xs.map (fun x => (⟨x.toArray⟩ : ByteArray))).map (·.data.toList) = xs := by rw [List.map_map]; simp [Function.comp_def]
  have h2 := Tryz.strings_Join bk o c (xs.map (fun x => (⟨x.toArray⟩ : ByteArray))) ⟨#[]⟩ w (fun j x hx => by
    rw [List.getElem?_map] at hx
    cases hj : xs[j]? with
    | none => rw [hj] at hx; cases hx
    | some y => rw [hj] at hx; cases hx; exact h.2 j y hj) h.1 (by rw [List.length_map]; omega) (by rw [List.length_map]; exact hc) (by rw [e]; show (Lib.join xs []).length ≤ _; rw [join_nil]; omega)
  rw [e, List.length_map] at h2
  refine h2.mono ?_
  rintro r w' ⟨rfl, hb⟩
  refine ⟨?_, hb⟩
  have : Lib.join xs (⟨#[]⟩ : ByteArray).data.toList = xs.flatten := join_nil xs
  rw [this]

set_option maxHeartbeats 1000000 in
set_option maxRecDepth 100000 in
/-- (*page).line. -/
theorem line_any (B p : Nat) (l : List UInt8) (bk o c : Nat) (xs : List (List UInt8)) (w : World) (h : Bld 72 B p l w) (hx : PartsOf w bk o xs) (hc : xs.length ≤ c) (hl : l.length + xs.flatten.length ≤ 1073741824) (hn : xs.length ≤ 1073741824) (hB : B ≤ w.heap.size) :
    Calls Tryz.prog 29 #[.pointer (some ⟨p, 0, none⟩), .slice (some ⟨bk, o, none⟩) xs.length c] w fun e w' => e = .returned (.tuple #[]) ∧ Bld 72 B p (l ++ xs.flatten ++ [10]) w' ∧ Below B w w' ∧ Lib.OthersKept 5 (some p) w w' := by
  obtain ⟨F, hF⟩ : ∃ F, F = xs.flatten := ⟨_, rfl⟩
  have HJ := Lib.hid (fun W (x : Ext w W) => join_l bk o c xs W ⟨Nat.lt_of_lt_of_le hx.1 x.size, fun j y hy => x.holds (hx.2 j y hy)⟩ hc (by omega) (by omega))
  rw [← hF] at HJ hl ⊢
  have hs : F.length + 1 ≤ 9223372036854775807 := by omega
  have KB := Lib.hid h
  have HF := Lib.hid hF
  clear hF h hx
  go_enter Tryz.func29, Tryz.ntmps29
  go_wp2_with fail
  go_region_with (first
    | (go_at_call 67; (with_reducible refine (HJ.out w.drew ((Ext.refl w).drew)).mono ?_); rintro e w2 ⟨rfl, x2⟩)
    | (go_at_call 56; (with_reducible refine (writeString_any lies_page B p l ((⟨F.toArray⟩ : ByteArray) ++ ⟨#[10]⟩) _ (KB.out.ext (((Ext.refl w).drew).trans x2)) (by rw [mk_cat F [10], size_mk]; simp; omega) (by have := x2.size; have h2 : w.drew.heap.size = w.heap.size := rfl; omega)).mono ?_); rintro e w3 ⟨rfl, h3, hb3, ho3⟩))
  all_goals
    have e : ((⟨F.toArray⟩ : ByteArray) ++ ⟨#[10]⟩).data.toList = F ++ [10] := by rw [mk_cat F [10]]
    rw [e, ← List.append_assoc] at h3
    have x02 : Ext w w2 := ((Ext.refl w).drew).trans x2
    have hb : Below B w w3 := (x02.below hB).trans hb3
    have ho : Lib.OthersKept 5 (some p) w w3 := Lib.OthersKept.trans (fun k o hk _ _ => (x02.heap (Array.getElem?_eq_some_iff.1 hk).1).trans hk) ho3
    have H := Lib.hid (And.intro h3 (And.intro hb ho))
    clear h3 hb ho e
    go_wp2
    go_end0
    exact ⟨rfl, H.out⟩
end Go.Proofs.YtfkjjhfoncckcaaGreatDoor
