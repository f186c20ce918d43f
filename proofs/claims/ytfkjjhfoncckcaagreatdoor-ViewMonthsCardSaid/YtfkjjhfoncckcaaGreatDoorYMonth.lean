/- view.Month: a page of so many lines. -/
import Derived.Test.YtfkjjhfoncckcaaGreatDoorYClone
import Derived.Test.YtfkjjhfoncckcaaGreatDoorYList
import Derived.Sort.LotA
namespace Go.Proofs.YtfkjjhfoncckcaaGreatDoor
open Go.RowKit Go.Sort

theorem inner_perm (lt : VC → VC → Bool) (a b i : Nat) (hib : i < b) : ∀ (j : Nat) (d : Array VC), a ≤ j → j ≤ i → b ≤ d.size → PermIn a b d (insInner lt a j d)
  | 0, d, _, _, _ => by
    unfold insInner
    exact permIn_refl d a b
  | j + 1, d, haj, hji, hb => by
    unfold insInner
    split
    · rename_i hc
      simp only [Bool.and_eq_true, decide_eq_true_eq] at hc
      have ih := inner_perm lt a b i hib j (swp d (j + 1) j) (by omega) (by omega) (by rw [swp_size]; exact hb)
      exact permIn_trans _ _ _ a b (swp_permIn d a b (j + 1) j haj (by omega) (by omega) (by omega) hb) ih
    · exact permIn_refl d a b
theorem outer_perm (lt : VC → VC → Bool) (a b : Nat) : ∀ (n i : Nat) (d : Array VC), b - i = n → a < i → i ≤ b → b ≤ d.size → PermIn a b d (insOuter lt a b i d)
  | 0, i, d, hn, _, hib, _ => by
    obtain rfl : i = b := by omega
    rw [insOuter, if_neg (by omega)]
    exact permIn_refl d a i
  | n + 1, i, d, hn, hai, hib, hb => by
    have hlt : i < b := by omega
    rw [insOuter, if_pos hlt]
    have h1 := inner_perm lt a b i hlt i d (by omega) (Nat.le_refl _) hb
    have h2 := outer_perm lt a b n (i + 1) (insInner lt a i d) (by omega) (by omega) (by omega) (by rw [h1.1]; exact hb)
    exact permIn_trans _ _ _ a b h1 h2
theorem sortV_perm (d : Array VC) : PermIn 0 d.size d (sortV d) := by
  unfold sortV insertionSort
  by_cases h : 0 = d.size
  · rw [insOuter, if_neg (by omega)]
    exact permIn_refl d 0 d.size
  · exact outer_perm _ 0 d.size (d.size - (0 + 1)) (0 + 1) d rfl (by omega) (by omega) (Nat.le_refl _)
theorem sortV_size (d : Array VC) : (sortV d).size = d.size := (sortV_perm d).1
theorem sortV_all (d : Array VC) (p : VC → Prop) (h : ∀ i, i < d.size → p d[i]!) : ∀ i, i < d.size → p (sortV d)[i]! :=
  fun i hi => permIn_all d (sortV d) 0 d.size p (Nat.le_refl _) (sortV_perm d) (fun i _ hi => h i hi) i (Nat.zero_le _) hi

structure MonthT where
  list : Int
  month : Int
  count : Int
  root : List UInt8
def monthE1 (nm : List UInt8) (x : ListT) : List UInt8 := putL [] [[109, 111, 110, 116, 104, 32], nm, [32, 111, 102, 32], escapeB x.name]
def monthE2 (nm : List UInt8) (x : ListT) (m : MonthT) : List UInt8 := putL (monthE1 nm x) [[109, 101, 115, 115, 97, 103, 101, 115, 32], Lib.itoa m.count]
def monthE3 (nm : List UInt8) (x : ListT) (m : MonthT) : List UInt8 := putL (monthE2 nm x m) [[114, 111, 111, 116, 32], hexB m.root]
def monthL (q : ViewT) : List (List UInt8) := [hexB q.commit, [32], escapeB q.id]
theorem Lns.month (nm : List UInt8) (hn : Cl nm) (x : ListT) (m : MonthT) (qs : List ViewT) : Lns (linesE monthL (monthE3 nm x m) qs) (3 + qs.length) :=
  Lns.lines _ _ (fun _ => cl3 (Cl.hex _) (Cl.of rfl) (Cl.esc _)) _ _
    (Lns.line (n := 2) (Lns.line (n := 1) (Lns.line (n := 0) .nil (cl4 (Cl.of rfl) hn (Cl.of rfl) (Cl.esc _))) (cl2 (Cl.of rfl) (Cl.itoa _))) (cl2 (Cl.of rfl) (Cl.hex _)))
theorem linesE_le {α : Type} (f : α → List (List UInt8)) (B : Nat) (l : List α) (h : ∀ x ∈ l, (f x).flatten.length ≤ B) : ∀ E : List UInt8, (linesE f E l).length ≤ E.length + l.length * (B + 1) := by
  induction l with
  | nil => intro E; show E.length ≤ _; omega
  | cons x l ih =>
    intro E
    have h1 := ih (fun y hy => h y (List.mem_cons_of_mem _ hy)) (putL E (f x))
    have h2 := h x List.mem_cons_self
    rw [putL_len] at h1
    show (linesE f (putL E (f x)) l).length ≤ _
    rw [List.length_cons, Nat.add_mul]
    omega
end Go.Proofs.YtfkjjhfoncckcaaGreatDoor
