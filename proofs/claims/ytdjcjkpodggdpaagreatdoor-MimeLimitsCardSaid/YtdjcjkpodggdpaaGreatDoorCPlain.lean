/- Plain laws for MimeLimits: what partB gives at nested messages, and at many empty sections. -/
import Derived.Test.YtdjcjkpodggdpaaGreatDoorBPre
namespace Go.Proofs.YtdjcjkpodggdpaaGreatDoor
open Go.RowKit

/-- A part that has no encoding is read as it is. -/
def dec0 (l e : List UInt8) : Option (List UInt8) := if e = [] then some l else none
/-- 'Content-Type: message/rfc822', and an empty line. -/
def lineB : List UInt8 := [67, 111, 110, 116, 101, 110, 116, 45, 84, 121, 112, 101, 58, 32, 109, 101, 115, 115, 97, 103, 101, 47, 114, 102, 99, 56, 50, 50, 10, 10]
def endB : List UInt8 := [101, 110, 100]
/-- 'Content-Type: multipart/mixed; boundary=x', and an empty line. -/
def headB : List UInt8 := [67, 111, 110, 116, 101, 110, 116, 45, 84, 121, 112, 101, 58, 32, 109, 117, 108, 116, 105, 112, 97, 114, 116, 47, 109, 105, 120, 101, 100, 59, 32, 98, 111, 117, 110, 100, 97, 114, 121, 61, 120, 10, 10]
def mixedB : List UInt8 := [109, 117, 108, 116, 105, 112, 97, 114, 116, 47, 109, 105, 120, 101, 100]
def secB : List UInt8 := [45, 45, 120, 10, 10, 10]
theorem parse_rfc (rest : List UInt8) : parseB (lineB ++ rest) = ([(ctB, rfcB)], 30) := by kernel_rfl
theorem parse_head (rest : List UInt8) : parseB (headB ++ rest) = ([(ctB, headB.drop 14 |>.take 27)], 43) := by kernel_rfl
theorem parse_end : parseB endB = ([], 0) := by kernel_rfl
theorem type_rfc : typeB [(ctB, rfcB)] = rfcB := by kernel_rfl
theorem tpar_rfc : tparB [(ctB, rfcB)] = [] := by kernel_rfl
theorem type_head : typeB [(ctB, headB.drop 14 |>.take 27)] = mixedB := by kernel_rfl
theorem tpar_head : tparB [(ctB, headB.drop 14 |>.take 27)] = [(bdB, [120])] := by kernel_rfl
theorem type_none : typeB [] = plainB := by kernel_rfl
theorem kept_ct (v : List UInt8) : keptB [(ctB, v)] = [] := by kernel_rfl
theorem get_ct (v : List UInt8) : getB [(ctB, v)] cteB = ([], false) := by kernel_rfl

theorem dec0_hdec (l e c : List UInt8) (w : World) (_ : l.length ≤ 16777216) (_ : e.length ≤ 16777216) (h : dec0 l e = some c) :
    c.length ≤ l.length ∧ Calls Tryz.prog 20 #[vstr l, vstr e] w fun r w' => r = .returned (vstr c) ∧ Ext w w' := by
  unfold dec0 at h
  split at h
  · rename_i he
    cases h
    subst he
    exact ⟨Nat.le_refl _, decode_none l [] w (by simp) (by decide) (by decide)⟩
  · cases h

/-! ### Nested messages -/
/-- k messages within each other, the last with the text 'end'. -/
def nestS : Nat → List UInt8
  | 0 => endB
  | k + 1 => lineB ++ nestS k
theorem nestS_len : ∀ k, (nestS k).length = 30 * k + 3 := by
  intro k
  induction k with
  | zero => rfl
  | succ k ih => rw [nestS, List.length_append, ih]; show 30 + _ = _; omega
/-- Their tree, where the first lies at a level. -/
def nestP : Nat → Nat → PartT
  | 0, _ => .mk [] plainB [] endB []
  | k + 1, level => if 40 ≤ level then .mk [] octB [] (nestS k) [] else .mk [] rfcB [] [] [nestP k (level + 1)]
theorem partB_rfc (n : Nat) (rest : List UInt8) (level known : Nat) : partB dec0 (n + 1) (lineB ++ rest) level known =
    if 40 ≤ level ∨ 300 < known + 1 then some (.mk [] octB [] rest [], known)
    else match partB dec0 n rest (level + 1) (known + 1) with
      | none => none
      | some (q, k2) => some (.mk [] rfcB [] [] [q], k2) := by
  have hd : (lineB ++ rest).drop 30 = rest := rfl
  have hc : containerB rfcB = true := by decide
  have hv : divideB rfcB [] rest = ([rest], []) := by simp [divideB]
  rw [partB, parse_rfc]
  simp only [get_ct, hd, dec0, if_true, type_rfc, tpar_rfc, kept_ct, hc, hv, List.length_cons, List.length_nil, Nat.zero_add, partsWith, List.cons_ne_nil, false_or]
  split
  · rfl
  · split <;> rename_i h <;> split at h <;> simp_all
theorem partB_end (n level known : Nat) : partB dec0 (n + 1) endB level known = some (.mk [] plainB [] endB [], known) := by
  have hc : containerB plainB = false := by decide
  have hg : getB [] cteB = ([], false) := rfl
  have hk : keptB [] = [] := rfl
  have ht : tparB [] = [] := by kernel_rfl
  rw [partB, parse_end]
  simp only [hg, hk, ht, type_none, dec0, if_true, hc, List.drop_zero, Bool.false_eq_true, if_false]
theorem partB_nest : ∀ (k n level : Nat), k < n → level ≤ 40 → ∃ k2, partB dec0 n (nestS k) level level = some (nestP k level, k2) := by
  intro k
  induction k with
  | zero =>
    intro n level hn hl
    obtain ⟨m, rfl⟩ : ∃ m, n = m + 1 := ⟨n - 1, by omega⟩
    exact ⟨_, partB_end m level level⟩
  | succ k ih =>
    intro n level hn hl
    obtain ⟨m, rfl⟩ : ∃ m, n = m + 1 := ⟨n - 1, by omega⟩
    rw [nestS, partB_rfc, nestP]
    by_cases h : 40 ≤ level
    · exact ⟨level, by rw [if_pos (.inl h), if_pos h]⟩
    · obtain ⟨k2, h2⟩ := ih m (level + 1) (by omega) (by omega)
      refine ⟨k2, ?_⟩
      rw [if_neg (by omega), if_neg h, h2]
theorem nest_depth : ∀ (k level : Nat), 1 ≤ level → level ≤ 40 → depthB (nestP k level) = min (k + 1) (41 - level) ∧ countB (nestP k level) = min (k + 1) (41 - level) := by
  intro k
  induction k with
  | zero => intro level h1 h2; simp only [nestP, depthB, depthsB, countB, countsB]; omega
  | succ k ih =>
    intro level h1 h2
    rw [nestP]
    split
    · simp only [depthB, depthsB, countB, countsB]; omega
    · have := ih (level + 1) (by omega) (by omega)
      simp only [depthB, depthsB, countB, countsB]
      omega

theorem nest_leaves : ∀ (k level : Nat), level ≤ 40 → leavesB (nestP k level) = [if k + level ≤ 40 then .mk [] plainB [] endB [] else .mk [] octB [] (nestS (k - (41 - level))) []] := by
  intro k
  induction k with
  | zero => intro level h; simp [nestP, leavesB, preB, presB, isLeaf, PartT.ps, h]
  | succ k ih =>
    intro level h
    rw [nestP]
    split
    · have e : level = 40 := by omega
      subst e
      simp [leavesB, preB, presB, isLeaf, PartT.ps]
    · have h2 := ih (level + 1) (by omega)
      simp only [leavesB] at h2 ⊢
      simp only [preB, presB, List.append_nil, List.filter_cons, isLeaf, PartT.ps, List.isEmpty_cons, Bool.false_eq_true, if_false]
      rw [h2]
      have e1 : (k + (level + 1) ≤ 40) = (k + 1 + level ≤ 40) := by rw [eq_iff_iff]; omega
      have e2 : k - (41 - (level + 1)) = k + 1 - (41 - level) := by omega
      simp only [e1, e2]

/-! ### Many empty sections -/
def bodyB : Nat → List UInt8
  | 0 => []
  | n + 1 => bodyB n ++ secB
theorem bodyB_len : ∀ n, (bodyB n).length = 6 * n := by
  intro n
  induction n with
  | zero => rfl
  | succ n ih => rw [bodyB, List.length_append, ih]; show _ + 6 = _; omega
theorem bodyB_add : ∀ (m n : Nat), bodyB (n + m) = bodyB n ++ bodyB m := by
  intro m
  induction m with
  | zero => intro n; simp [bodyB]
  | succ m ih => intro n; rw [← Nat.add_assoc, bodyB, ih, bodyB, List.append_assoc]
theorem bodyB_succ (n : Nat) : bodyB (n + 1) = secB ++ bodyB n := by rw [Nat.add_comm, bodyB_add]; rfl
theorem raw_sec (rest : List UInt8) (a : Nat) : rawGo (secB ++ rest) [] a a = ([45, 45, 120], a, a + 4) :: ([], a + 4, a + 5) :: ([], a + 5, a + 6) :: rawGo rest [] (a + 6) (a + 6) := by
  simp [secB, rawGo]
theorem delim_sec : delimB [45, 45, 120] [120] = (true, false) := by decide
theorem delim_nil : delimB [] [120] = (false, false) := by decide
theorem sec_go (N : Nat) : ∀ (m i : Nat), 1 ≤ i → i + m = N → secGo (bodyB N) [120] (rawGo (bodyB m) [] (6 * i) (6 * i)) (some (6 * i - 2)) = List.replicate m [10] ++ [[10, 10]] := by
  intro m
  induction m with
  | zero =>
    intro i hi h
    obtain rfl : i = N := by omega
    obtain ⟨j, rfl⟩ : ∃ j, i = j + 1 := ⟨i - 1, by omega⟩
    have e : 6 * (j + 1) - 2 = (bodyB j).length + 4 := by rw [bodyB_len]; omega
    simp only [bodyB, rawGo, List.isEmpty_nil, if_true, secGo, List.replicate_zero, List.nil_append]
    rw [e, List.drop_append, List.drop_of_length_le (by omega)]
    simp [secB]
  | succ m ih =>
    intro i hi h
    obtain ⟨j, rfl⟩ : ∃ j, i = j + 1 := ⟨i - 1, by omega⟩
    have h2 := ih (j + 1 + 1) (by omega) (by omega)
    have hs : sub (bodyB N) (6 * (j + 1) - 2) (max (6 * (j + 1) - 2) (6 * (j + 1) - 1)) = [10] := by
      have e : bodyB N = bodyB j ++ (secB ++ bodyB (m + 1)) := by rw [← bodyB_succ, ← bodyB_add]; congr 1; omega
      have e2 : 6 * (j + 1) - 2 = (bodyB j).length + 4 := by rw [bodyB_len]; omega
      have e3 : max (6 * (j + 1) - 2) (6 * (j + 1) - 1) - (6 * (j + 1) - 2) = 1 := by omega
      rw [sub, e3, e2, e, List.drop_append, List.drop_of_length_le (by omega)]
      simp [secB]
    rw [bodyB_succ, raw_sec]
    simp only [secGo, delim_sec, delim_nil, if_true, Bool.false_eq_true, if_false, flushB, hs]
    have e4 : 6 * (j + 1) + 6 = 6 * (j + 1 + 1) := by omega
    have e5 : 6 * (j + 1) + 4 = 6 * (j + 1 + 1) - 2 := by omega
    rw [e4, e5, h2, List.replicate_succ]
    rfl
theorem sections_body (n : Nat) : sectionsB (bodyB (n + 1)) [120] = List.replicate n [10] ++ [[10, 10]] := by
  have h := sec_go (n + 1) n 1 (by omega) (by omega)
  have h0 := raw_sec (bodyB n) 0
  rw [← bodyB_succ] at h0
  rw [sectionsB, h0]
  simp only [secGo, delim_sec, delim_nil, if_true, Bool.false_eq_true, if_false, flushB, List.nil_append]
  exact h
theorem partB_nl (n level known : Nat) : partB dec0 (n + 1) [10] level known = some (.mk [] plainB [] [] [], known) := by
  have hc : containerB plainB = false := by decide
  have hp : parseB [10] = ([], 1) := by kernel_rfl
  have hg : getB [] cteB = ([], false) := rfl
  have hk : keptB [] = [] := rfl
  have ht : tparB [] = [] := by kernel_rfl
  rw [partB, hp]
  simp only [hg, hk, ht, type_none, dec0, if_true, hc, Bool.false_eq_true, if_false]
  rfl
theorem partB_nl2 (n level known : Nat) : partB dec0 (n + 1) [10, 10] level known = some (.mk [] plainB [] [10] [], known) := by
  have hc : containerB plainB = false := by decide
  have hp : parseB [10, 10] = ([], 1) := by kernel_rfl
  have hg : getB [] cteB = ([], false) := rfl
  have hk : keptB [] = [] := rfl
  have ht : tparB [] = [] := by kernel_rfl
  rw [partB, hp]
  simp only [hg, hk, ht, type_none, dec0, if_true, hc, Bool.false_eq_true, if_false]
  rfl
theorem parts_secs (g : List UInt8 → Nat → Option (PartT × Nat)) (h1 : ∀ k, g [10] k = some (.mk [] plainB [] [] [], k)) (h2 : ∀ k, g [10, 10] k = some (.mk [] plainB [] [10] [], k)) : ∀ (n k : Nat),
    partsWith g (List.replicate n [10] ++ [[10, 10]]) k = some (List.replicate n (.mk [] plainB [] [] []) ++ [.mk [] plainB [] [10] []], k) := by
  intro n
  induction n with
  | zero => intro k; simp [partsWith, h2]
  | succ n ih => intro k; simp only [List.replicate_succ, List.cons_append, partsWith, h1, ih]
/-- The tree of n + 1 sections. -/
def manyP (n : Nat) : PartT := if 300 < n + 2 then .mk [] octB [] (bodyB (n + 1)) [] else .mk [] mixedB [] [] (List.replicate n (.mk [] plainB [] [] []) ++ [.mk [] plainB [] [10] []])
theorem partB_many (n : Nat) : ∃ k2, partB dec0 2 (headB ++ bodyB (n + 1)) 1 1 = some (manyP n, k2) := by
  have hd : (headB ++ bodyB (n + 1)).drop 43 = bodyB (n + 1) := rfl
  have hc : containerB mixedB = true := by decide
  have hb : bdOf [(bdB, [120])] = [120] := by decide
  have hr : restOf [(bdB, [120])] = [] := by decide
  have hv : divideB mixedB [(bdB, [120])] (bodyB (n + 1)) = (List.replicate n [10] ++ [[10, 10]], []) := by
    rw [divideB, if_neg (by decide), hb, if_neg (by decide), sections_body, hr]
  have hl : (List.replicate n ([10] : List UInt8) ++ [[10, 10]]).length = n + 1 := by simp
  rw [partB, parse_head]
  simp only [get_ct, hd, dec0, if_true, type_head, tpar_head, kept_ct, hc, hv, hl, manyP]
  have e : (300 < 1 + (n + 1)) = (300 < n + 2) := by rw [eq_iff_iff]; omega
  by_cases h : 300 < n + 2
  · exact ⟨1, by rw [if_pos (.inr (.inr (by omega))), if_pos h]⟩
  · refine ⟨1 + (n + 1), ?_⟩
    rw [if_neg (by simp; omega), if_neg h, parts_secs _ (fun k => partB_nl 0 2 k) (fun k => partB_nl2 0 2 k)]
theorem many_counts (n : Nat) (h : ¬ 300 < n + 2) : countB (manyP n) = n + 2 ∧ depthB (manyP n) = 2 := by
  have h1 : ∀ (n : Nat) (qs : List PartT), countsB (List.replicate n (.mk [] plainB [] [] []) ++ qs) = n + countsB qs := by
    intro n
    induction n with
    | zero => intro qs; simp
    | succ n ih => intro qs; simp only [List.replicate_succ, List.cons_append, countsB, ih, countB]; omega
  have h2 : ∀ (n : Nat) (m : Nat), m ≤ 1 → depthsB (List.replicate n (.mk [] plainB [] [] []) ++ [.mk [] plainB [] [10] []]) m = 1 := by
    intro n
    induction n with
    | zero => intro m hm; simp only [List.replicate_zero, List.nil_append, depthsB, depthB]; omega
    | succ n ih => intro m hm; simp only [List.replicate_succ, List.cons_append, depthsB, depthB]; exact ih _ (by omega)
  rw [manyP, if_neg h, countB, depthB, h1, h2 n 0 (by omega)]
  refine ⟨?_, rfl⟩
  have : countsB [.mk [] plainB [] [10] []] = 1 := by simp [countsB, countB]
  omega
end Go.Proofs.YtdjcjkpodggdpaaGreatDoor
