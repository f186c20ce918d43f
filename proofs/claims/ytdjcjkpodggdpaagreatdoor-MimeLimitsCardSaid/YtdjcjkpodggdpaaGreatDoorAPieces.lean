/- The contract of header.pieces: a value is divided at semicolons outside of quotation. -/
import Derived.Test.YtdjcjkpodggdpaaGreatDoorALib
namespace Go.Proofs.YtdjcjkpodggdpaaGreatDoor
open Go.RowKit

/-- The pieces of what is left, cur being what the piece under way holds. -/
def piecesGo : List UInt8 → Bool → List UInt8 → List (List UInt8)
  | [], _, cur => [cur]
  | c :: t, q, cur =>
    if c = 34 then piecesGo t (!q) (cur ++ [c])
    else if c = 92 ∧ q = true then
      match t with
      | [] => [cur ++ [c]]
      | x :: t' => piecesGo t' q (cur ++ [c, x])
    else if c = 59 ∧ q = false then cur :: piecesGo t q []
    else piecesGo t q (cur ++ [c])
def piecesB (l : List UInt8) : List (List UInt8) := piecesGo l false []

theorem extract_range (s : ByteArray) (a b : Nat) (h : a ≤ b) (h' : b ≤ s.size) : s.extract a b = ⟨((s.data.toList.drop a).take (b - a)).toArray⟩ := by rw [Lib.extract_eq]
/-- s[a:b] -/
def sub (l : List UInt8) (a b : Nat) : List UInt8 := (l.drop a).take (b - a)
theorem sub_self (l : List UInt8) (a : Nat) : sub l a a = [] := by simp [sub]
theorem sub_snoc (l : List UInt8) (a b : Nat) (h : a ≤ b) (hb : b < l.length) : sub l a (b + 1) = sub l a b ++ [l[b]] := by
  unfold sub
  rw [show b + 1 - a = (b - a) + 1 from by omega, List.take_succ_eq_append_getElem (by rw [List.length_drop]; omega)]
  simp only [List.getElem_drop]
  congr 3
  omega
theorem sub_end (l : List UInt8) (a b : Nat) (hb : l.length ≤ b) : sub l a b = l.drop a := by
  unfold sub
  rw [List.take_of_length_le]
  rw [List.length_drop]; omega

theorem Tryz.info9 : (Tryz.prog.info? 9).map (fun i => (i.zero, i.size, i.bytes)) = some (some (.string ByteArray.empty), 1, 16) := by kernel_rfl


theorem pg_quote {l : List UInt8} {a k : Nat} {q : Bool} (hk : k < l.length) (hak : a ≤ k) (hc : l[k] = 34) : piecesGo (l.drop k) q (sub l a k) = piecesGo (l.drop (k + 1)) (!q) (sub l a (k + 1)) := by
  rw [List.drop_eq_getElem_cons hk, sub_snoc l a k hak hk, hc, piecesGo.eq_def]
  simp
theorem pg_back {l : List UInt8} {a k : Nat} (hk : k < l.length) (hak : a ≤ k) (hc : l[k] = 92) : piecesGo (l.drop k) true (sub l a k) = piecesGo (l.drop (k + 1 + 1)) true (sub l a (k + 1 + 1)) := by
  rw [List.drop_eq_getElem_cons hk, hc]
  by_cases h1 : k + 1 < l.length
  · rw [List.drop_eq_getElem_cons h1, sub_snoc l a (k + 1) (by omega) h1, sub_snoc l a k hak hk, hc, piecesGo.eq_def]
    simp [sub_self]
  · rw [List.drop_of_length_le (by omega), List.drop_of_length_le (by omega), sub_end l a (k + 1 + 1) (by omega), ← sub_end l a (k + 1) (by omega), sub_snoc l a k hak hk, hc, piecesGo.eq_def]
    simp [piecesGo.eq_def]
theorem pg_semi {l : List UInt8} {a k : Nat} (hk : k < l.length) (hc : l[k] = 59) : piecesGo (l.drop k) false (sub l a k) = sub l a k :: piecesGo (l.drop (k + 1)) false (sub l (k + 1) (k + 1)) := by
  rw [List.drop_eq_getElem_cons hk, hc, sub_self, piecesGo.eq_def]
  simp
theorem pg_else {l : List UInt8} {a k : Nat} {q : Bool} (hk : k < l.length) (hak : a ≤ k) (h1 : l[k] ≠ 34) (h2 : q = true → l[k] ≠ 92) (h3 : q = false → l[k] ≠ 59) :
    piecesGo (l.drop k) q (sub l a k) = piecesGo (l.drop (k + 1)) q (sub l a (k + 1)) := by
  rw [List.drop_eq_getElem_cons hk, sub_snoc l a k hak hk]
  rw [piecesGo.eq_def]
  simp only []
  rw [if_neg h1, if_neg (fun h => h2 h.2 h.1), if_neg (fun h => h3 h.2 h.1)]
theorem byte_eq {c : UInt8} {n : Nat} (h : n < 256) (hc : (c.toNat : Int) = n) : c = UInt8.ofNat n := by
  apply UInt8.toNat.inj
  rw [UInt8.toNat_ofNat']
  omega
theorem byte_ne {c d : UInt8} (hc : ¬ (c.toNat : Int) = d.toNat) : c ≠ d := fun h => hc (by rw [h])

set_option maxRecDepth 100000 in
theorem pieces_any (s : ByteArray) (w : World) (hs : s.size ≤ 1073741824) :
    Calls Tryz.prog 33 #[.string s] w fun e w' => ∃ v, e = .returned v ∧ StrsAt w' v (piecesB s.data.toList) ∧ Ext w w' := by
  obtain ⟨i0, hi, hz0, hz1, hz2⟩ := info_parts Tryz.info9
  go_enter Tryz.func33, Tryz.ntmps33
  go_wp2
  go_loopw [3, 4, 5, 6] (fun v b q i wr => ∃ (k a : Nat) (qq : Bool) (out : List (List UInt8)), a ≤ k ∧ a ≤ s.size ∧ k ≤ s.size + 1 ∧ out.length ≤ a ∧ b = .int .i64 a ∧ q = .bool qq ∧ i = .int .i64 k ∧
      wr.ownsRow w.heap.size 9 1 v out.length (out.map vstr) ∧ Ext w wr ∧ out ++ piecesGo (s.data.toList.drop k) qq (sub s.data.toList a k) = piecesB s.data.toList)
    (fun _ _ _ i _ => s.size + 1 - (intOf i).toNat)
  case atStart => exact ⟨0, 0, false, [], Nat.le_refl _, Nat.zero_le _, Nat.zero_le _, Nat.le_refl _, rfl, rfl, rfl, World.ownsRow_nil _ _ _ _, Ext.refl _, by simp [piecesB, sub]⟩
  case round =>
    obtain ⟨k, a, qq, out, hak, ha, hk, hout, rfl, rfl, rfl, hown, hx, heq⟩ := hrel
    have Heq := Lib.hid heq
    clear heq
    by_cases hlt : k < s.size
    · have hl : k < s.data.toList.length := by rw [len_toList]; exact hlt
      have hg : s.data.toList[k] = s[k] := by rw [Array.getElem_toList]; rfl
      have Hg := Lib.hid hg
      clear hg
      have c1 : (a : Int) ≤ k := by omega
      have c2 : (k : Int) ≤ s.size := by omega
      have e1 := extract_range s a k hak (by omega)
      have E1 := Lib.hid e1
      clear e1
      cases qq
      · go_wp2_with (at_builtin; refine wpList_append1 wr 9 [.string (s.extract a k)] rfl (.tmp 39) (.tmp 44) 54 rfl w.heap.size i0 (.string ByteArray.empty) 1 16 Tryz.underlying54 hi hz0 hz1 hz2 rfl (by decide) _ _ _ rfl hown _ rfl rfl (by simp [Value.oneCell']) (by omega) (by omega) hx.size ?_; intro g cap w1 hown1 hb1 _)
        · have h : ((s[k].toNat : Int) == 34) = true := by assumption
          have hc : s.data.toList[k] = 34 := by rw [Hg.out]; exact byte_eq (n := 34) (by omega) (by simpa using h)
          go_roundw
          case rel => exact ⟨k + 1, a, true, out, by omega, ha, by omega, hout, rfl, rfl, by go_num, hown, hx, by rw [← Heq.out, pg_quote hl hak hc]; rfl⟩
          case measure => simp [intOf]; omega
        · have h1 : ((s[k].toNat : Int) == 34) = false := by assumption
          have h2 : (s[k].toNat : Int) = 92 := by assumption
          have hc : s.data.toList[k] = 92 := by rw [Hg.out]; exact byte_eq (n := 92) (by omega) h2
          go_roundw
          case rel => exact ⟨k + 1, a, false, out, by omega, ha, by omega, hout, rfl, rfl, by go_num, hown, hx, by rw [← Heq.out, pg_else hl hak (by rw [hc]; decide) (by simp) (by rw [hc]; decide)]⟩
          case measure => simp [intOf]; omega
        · have h2 : (s[k].toNat : Int) = 59 := by assumption
          have hc : s.data.toList[k] = 59 := by rw [Hg.out]; exact byte_eq (n := 59) (by omega) h2
          go_roundw
          case rel =>
            refine ⟨k + 1, k + 1, false, out ++ [sub s.data.toList a k], by omega, by omega, by omega, by simp; omega, by go_num, rfl, by go_num, ?_, hx.upon hb1, ?_⟩
            · rw [E1.out] at hown1
              simpa [sub] using hown1
            · rw [← Heq.out, pg_semi hl hc]; simp
          case measure => simp [intOf]; omega
        · have h1 : ((s[k].toNat : Int) == 34) = false := by assumption
          have h2 : ¬ (s[k].toNat : Int) = 92 := by assumption
          have h3 : ¬ (s[k].toNat : Int) = 59 := by assumption
          go_roundw
          case rel => exact ⟨k + 1, a, false, out, by omega, ha, by omega, hout, rfl, rfl, by go_num, hown, hx, by
            rw [← Heq.out, pg_else hl hak (by rw [Hg.out]; exact byte_ne (by simpa using h1)) (by simp) (by rw [Hg.out]; intro _; exact byte_ne (by simpa using h3))]⟩
          case measure => simp [intOf]; omega
      · go_wp2
        · have h : ((s[k].toNat : Int) == 34) = true := by assumption
          have hc : s.data.toList[k] = 34 := by rw [Hg.out]; exact byte_eq (n := 34) (by omega) (by simpa using h)
          go_roundw
          case rel => exact ⟨k + 1, a, false, out, by omega, ha, by omega, hout, rfl, rfl, by go_num, hown, hx, by rw [← Heq.out, pg_quote hl hak hc]; rfl⟩
          case measure => simp [intOf]; omega
        · have h2 : (s[k].toNat : Int) = 92 := by assumption
          have hc : s.data.toList[k] = 92 := by rw [Hg.out]; exact byte_eq (n := 92) (by omega) h2
          go_roundw
          case rel => exact ⟨k + 1 + 1, a, true, out, by omega, ha, by omega, hout, rfl, rfl, by go_num, hown, hx, by rw [← Heq.out, pg_back hl hak hc]⟩
          case measure => simp [intOf]; omega
        · have h1 : ((s[k].toNat : Int) == 34) = false := by assumption
          have h3 : (s[k].toNat : Int) = 59 := by assumption
          have hc : s.data.toList[k] = 59 := by rw [Hg.out]; exact byte_eq (n := 59) (by omega) h3
          go_roundw
          case rel => exact ⟨k + 1, a, true, out, by omega, ha, by omega, hout, rfl, rfl, by go_num, hown, hx, by rw [← Heq.out, pg_else hl hak (by rw [hc]; decide) (by rw [hc]; decide) (by simp)]⟩
          case measure => simp [intOf]; omega
        · have h1 : ((s[k].toNat : Int) == 34) = false := by assumption
          have h2 : ¬ (s[k].toNat : Int) = 92 := by assumption
          go_roundw
          case rel => exact ⟨k + 1, a, true, out, by omega, ha, by omega, hout, rfl, rfl, by go_num, hown, hx, by
            rw [← Heq.out, pg_else hl hak (by rw [Hg.out]; exact byte_ne (by simpa using h1)) (by rw [Hg.out]; intro _; exact byte_ne (by simpa using h2)) (by simp)]⟩
          case measure => simp [intOf]; omega
    · go_wp2_with (at_builtin; (refine wpList_append1 wr 9 [.string (s.extract a s.size)] rfl (.tmp 48) (.tmp 52) 54 rfl w.heap.size i0 (.string ByteArray.empty) 1 16 Tryz.underlying54 hi hz0 hz1 hz2 rfl (by decide) _ _ _ rfl hown _ rfl rfl (by simp [Value.oneCell']) (by omega) (by omega) hx.size ?_); intro g cap w1 hown1 hb1 _)
      go_ret
      refine ⟨_, rfl, ?_, hx.upon hb1⟩
      have e : piecesB s.data.toList = out ++ [s.data.toList.drop a] := by
        rw [← Heq.out, List.drop_of_length_le (by rw [len_toList]; omega), sub_end _ _ _ (by rw [len_toList]; omega)]
        rfl
      rw [e]
      rw [extract_drop] at hown1
      exact StrsAt.of_owns (by simpa using hown1)
end Go.Proofs.YtdjcjkpodggdpaaGreatDoor
