/- A row of bytes of the call's own, with whatever mark a conversion leaves behind its cells; append onto it. digest.Sum. merkle: Leaf, Join, split, Root. strings.Clone, wire.Text, text.Lines. -/
import Derived.Test.YtfkjjhfoncckcaaGreatDoorZSha
import Derived.ArgAppend
import Derived.Lib.ConvBytes
import Derived.Laws.IdiomStrings
import Derived.Test.YtfkjjhfoncckcaaGreatDoorYCheck
import Derived.Test.YtfkjjhfoncckcaaGreatDoorVLine
import Derived.Test.YtfkjjhfoncckcaaGreatDoorVCut
namespace Go.Proofs.YtfkjjhfoncckcaaGreatDoor
open Go.RowKit Go.Sort

def BRow (W : World) (N b n c : Nat) (l : List UInt8) : Prop :=
  N ≤ b ∧ l.length = n ∧ n ≤ c ∧ ∃ (cur : Array Value) (fz : Nat × Nat), W.heap[b]? = some (.cells cur 5 fz) ∧ cur.size = c ∧ (fz = (0, 0) ∨ c ≤ fz.1) ∧ cur.toList.take n = Lib.byteCells l
theorem setCell_any (W : World) (B o : Nat) (v : Value) {cs : Array Value} {t : TypeId} {fz : Nat × Nat} (h : W.heap[B]? = some (.cells cs t fz)) : (W.setCell ⟨B, o, none⟩ v).heap[B]? = some (.cells (cs.setIfInBounds o v) t fz) := by
  obtain ⟨hlt, hk⟩ := Array.getElem?_eq_some_iff.1 h
  show (W.heap.modify B _)[B]? = _
  rw [Array.getElem?_eq_getElem (by rw [Array.size_modify]; exact hlt), Array.getElem_modify_self, hk]
  rfl
theorem setCells_any {g : Nat} {t : TypeId} {fz : Nat × Nat} (tail : List Value) : ∀ (vs pre suf : List Value) (V : World), V.heap[g]? = some (.cells (pre ++ (suf ++ tail)).toArray t fz) → vs.length = suf.length →
    (V.setCells g pre.length vs).heap[g]? = some (.cells (pre ++ (vs ++ tail)).toArray t fz) := by
  intro vs
  induction vs with
  | nil =>
    intro pre suf V hV hl
    obtain rfl : suf = [] := List.length_eq_zero_iff.1 hl.symm
    exact hV
  | cons v vs ih =>
    intro pre suf V hV hl
    cases suf with
    | nil => simp at hl
    | cons u suf =>
      rw [World.setCells]
      have h2 := setCell_any V g pre.length v hV
      have h3 := ih (pre ++ [v]) suf (V.setCell ⟨g, pre.length, none⟩ v) (by
        rw [h2]
        congr 2
        rw [List.setIfInBounds_toArray]
        simp) (by simpa using hl)
      rw [List.length_append, List.length_singleton] at h3
      rw [h3, List.append_assoc]
      rfl
theorem But.setCells {p : Nat} {a : World} : ∀ (vs : List Value) (o : Nat) {b : World}, But p a b → But p a (b.setCells p o vs)
  | [], _, _, h => h
  | v :: r, o, b, h => by
    rw [World.setCells]
    exact But.setCells r (o + 1) (h.trans (But.setCell p o b v))
section
variable {W W' : World} {N b n c : Nat} {l : List UInt8}
theorem BRow.lt (h : BRow W N b n c l) : b < W.heap.size := by
  obtain ⟨_, _, _, cur, fz, hc, _⟩ := h
  exact (Array.getElem?_eq_some_iff.1 hc).1
theorem BRow.of_block (h : BRow W N b n c l) (e : W'.heap[b]? = W.heap[b]?) : BRow W' N b n c l := by
  obtain ⟨h1, h2, h3, cur, fz, hc, h4⟩ := h
  exact ⟨h1, h2, h3, cur, fz, e.trans hc, h4⟩
theorem BRow.but {p : Nat} (h : BRow W N b n c l) (x : But p W W') (hp : b ≠ p) : BRow W' N b n c l := h.of_block (x.block _ h.lt hp)
theorem BRow.ext (h : BRow W N b n c l) (x : Ext W W') : BRow W' N b n c l := h.of_block (x.heap h.lt)
theorem BRow.cell (h : BRow W N b n c l) (j : Nat) (u : Value) (hu : (Lib.byteCells l)[j]? = some u) : W.cell? ⟨b, j, none⟩ = some u := by
  obtain ⟨_, h2, h3, cur, fz, hc, h4, _, h6⟩ := h
  have hj : j < n := by
    have := (List.getElem?_eq_some_iff.1 hu).1
    rwa [Lib.byteCells_length, h2] at this
  rw [← h6, List.getElem?_take_of_lt hj, Array.getElem?_toList] at hu
  unfold World.cell?
  rw [hc]
  simpa using hu
theorem BRow.spare (h : BRow W N b n c l) (j : Nat) (hj : j < c) : (W.cell? ⟨b, j, none⟩).isSome = true ∧ W.frozen? ⟨b, j, none⟩ = false := by
  obtain ⟨_, h2, h3, cur, fz, hc, h4, h5, h6⟩ := h
  constructor
  · unfold World.cell?
    rw [hc]
    simp [h4, hj]
  · obtain ⟨lo, hi⟩ := fz
    unfold World.frozen?
    rw [hc]
    rcases h5 with h5 | h5
    · cases h5
      simp
    · have h5' : c ≤ lo := h5
      simp
      omega
theorem BRow.of_owns {v : Value} (hn : 0 < n) (h : W.ownsRow N 5 1 v n (Lib.byteCells l)) : ∃ b c, v = .slice (some ⟨b, 0, none⟩) n c ∧ BRow W N b n c l := by
  have hl : l.length = n := by
    have := h.1
    rw [Lib.byteCells_length] at this
    omega
  rcases h.2 with ⟨_, h0⟩ | ⟨g, cap, cur, rfl, hb, hc, hnc, hm, hs, ht⟩
  · omega
  · exact ⟨g, cap, rfl, hb, hl, hnc, cur, (0, 0), hc, by omega, .inl rfl, by rw [Nat.mul_one] at ht; exact ht⟩
end
/-- '[]byte(s)': a new row. -/
theorem bytes_row (w : World) (s : List UInt8) (hs : s.length ≤ 140737488355328) :
    ∃ c w', (convert 9 68 (vstr s)).run Tryz.prog w = .ok (.slice (some ⟨w.heap.size, 0, none⟩) s.length c) w' ∧ Ext w w' ∧ BRow w' w.heap.size w.heap.size s.length c s := by
  refine ⟨_, _, Lib.run_convert_string_bytes w 9 68 5 ⟨s.toArray⟩ Tryz.underlying9 Tryz.underlying68 Tryz.underlying5, ?_, ?_⟩
  · exact ⟨rfl, rfl, rfl, by rw [Lib.bytesWorld_size]; omega, fun k hk => Lib.bytesWorld_at_old w _ _ k hk⟩
  · have hcs : (Lib.bytesCells w 5 ⟨s.toArray⟩).toList = Lib.byteCells s ++ List.replicate (grownCap w s.length 0 5 - s.length) (.int .u8 0) := by
      simp [Lib.bytesCells, Lib.byteCells, size_mk]
    have hge := grownCap_ge w s.length 0 5
    have hsz : (Lib.bytesCells w 5 ⟨s.toArray⟩).size = grownCap w s.length 0 5 := by
      rw [← Array.length_toList, hcs, List.length_append, Lib.byteCells_length, List.length_replicate]
      omega
    refine ⟨Nat.le_refl _, rfl, hge, _, _, Lib.bytesWorld_at_new w _ _, hsz, .inr (Nat.le_of_eq hsz.symm), ?_⟩
    · rw [hcs, List.take_left' (Lib.byteCells_length s)]
theorem wpList_append_brow {ops : Array Oper} {rest : List Oper} {o : Oper} {a : Act} {Q : Exit → Act → World → Prop} (W : World) (hg : o.guard = none) (s x : Operand)
    (hop : o.op = Op.call { callee := Callee.builtin Builtin.append, args := #[s, x], argTypes := #[68, 68] }) (N b n c : Nat) (l : List UInt8) (hb : BRow W N b n c l) (hs : a.eval s = .slice (some ⟨b, 0, none⟩) n c)
    (ad : Addr) (m cx : Nat) (p : List UInt8) (hx : a.eval x = .slice (some ad) m cx) (hp : p.length = m) (hc : ∀ j u, (Lib.byteCells p)[j]? = some u → W.cell? (ad.add j) = some u) (hlen : n + m ≤ 140737488355328) (hN : N ≤ W.heap.size) (hm : 0 < m)
    (h : ∀ b' c' w', BRow w' N b' (n + m) c' (l ++ p) → But b W w' → (b' = b ∨ W.heap.size ≤ b') → wpList Tryz.prog ops Q rest (a.put o.dst (.slice (some ⟨b', 0, none⟩) (n + m) c')) w') : wpList Tryz.prog ops Q (o :: rest) a W := by
  obtain ⟨i0, hi, hz0, hz1, hz2⟩ := info_parts infoByte
  have hb0 := hb
  obtain ⟨h1, h2, h3, cur, fz, hcur, h4, h5, h6⟩ := hb
  refine wpList_append_arg W hg s x _ hop 5 i0 (.int .u8 0) 1 1 Tryz.underlying68 hi hz0 hz1 hz2 rfl (by decide) b 0 n c (Lib.byteCells l) hs (by rw [Lib.byteCells_length, Nat.mul_one]; exact h2) (fun j u hj => by rw [Nat.zero_add]; exact hb0.cell j u hj)
    ad m cx (Lib.byteCells p) hx (by rw [Lib.byteCells_length, Nat.mul_one]; exact hp) hc (Lib.byteCells_one p) (fun hr j hj => ?_) (by unfold maxLen; omega) (by omega) (fun hr => ?_) (fun hr v' w' ho hgr => ?_)
  · rw [Lib.byteCells_length] at hj
    rw [Nat.zero_add, Nat.mul_one]
    exact hb0.spare (n + j) (by omega)
  · refine h b c _ ⟨h1, by rw [List.length_append, h2, hp], hr, ?_⟩ (But.setCells _ _ (But.of_ext (Ext.refl W))) (.inl rfl)
    rw [Nat.zero_add, Nat.mul_one]
    have hsplit : cur = (Lib.byteCells l ++ ((cur.toList.drop n).take m ++ (cur.toList.drop n).drop m)).toArray := by
      rw [List.take_append_drop, ← h6, List.take_append_drop]
    have hll : (Lib.byteCells l).length = n := by rw [Lib.byteCells_length, h2]
    have hml : ((cur.toList.drop n).take m).length = m := by
      rw [List.length_take, List.length_drop, Array.length_toList, h4]
      omega
    have hcur2 := hcur
    rw [hsplit] at hcur2
    have key := setCells_any (fz := fz) ((cur.toList.drop n).drop m) (Lib.byteCells p) (Lib.byteCells l) ((cur.toList.drop n).take m) W hcur2 (by rw [Lib.byteCells_length, hml, hp])
    rw [hll] at key
    refine ⟨_, fz, key, ?_, h5, ?_⟩
    · have hz : cur.size = c := h4
      rw [List.size_toArray, List.length_append, List.length_append, hll, Lib.byteCells_length, hp, List.length_drop, List.length_drop, Array.length_toList, hz]
      omega
    · rw [← List.append_assoc, ← Lib.byteCells_append, List.take_left' (by rw [Lib.byteCells_length, List.length_append, h2, hp])]
  · rw [← Lib.byteCells_append] at ho
    have hx2 : Ext W w' := (Below.refl W.heap.size W).grown hgr (Nat.le_refl _) (fun k hk => by cases hk)
    obtain ⟨b', c', rfl, hr2⟩ := BRow.of_owns (by omega) ho
    have hb1 := hr2.1
    exact h b' c' w' ⟨Nat.le_trans hN hr2.1, hr2.2⟩ (But.of_ext hx2) (.inr hb1)
end Go.Proofs.YtfkjjhfoncckcaaGreatDoor
namespace Go.Proofs.YtfkjjhfoncckcaaGreatDoor
open Go.RowKit Go.Sort

theorem index_words (ws : List Int) (j : Nat) (h8 : ws.length = 8) (hj : j < 8) (w : World) :
    (Instr.index 124 (.agg (wcells ws).toArray) (.int .i64 j)).run Tryz.prog w = .ok (.int .u32 (wd ws j)) w := by
  have u := Tryz.underlying124
  have u2 := Tryz.underlying122
  have a2 := Tryz.isAgg122
  have z2 := Tryz.sizeOf122
  have hg : (wcells ws)[j]? = some (.int .u32 (wd ws j)) := by
    rw [wcells, List.getElem?_map, List.getElem?_eq_getElem (by omega)]
    simp [wd, List.getD_eq_getElem?_getD, List.getElem?_eq_getElem (show j < ws.length by omega)]
  have hjj : (0 : Int) ≤ (j : Int) ∧ (j : Int) < 8 := by omega
  simp [Instr.index, run_underlying u, asIntOf, go_sem, hj, part, a2, z2, hg]
def blocksB (h : List Int) (l : List UInt8) : Nat → List Int
  | 0 => h
  | k + 1 => procB (blocksB h l k) ((l.drop (64 * k)).take 64)
theorem blocksB_len (h : List Int) (l : List UInt8) (hh : h.length = 8) : ∀ k, (blocksB h l k).length = 8
  | 0 => hh
  | k + 1 => by rw [blocksB, procB_len _ _ (blocksB_len h l hh k)]
/-- The number of bits of a string of n bytes, as Sum reckons it. -/
def bitsN (n : Nat) : Int := IntKind.u64.wrap (IntKind.u64.wrap (n : Int) * 8)
/-- The zeros that pad n bytes. -/
def padZ (n : Nat) : Nat := (120 - n) % 64
/-- The first j bytes of the length in bits. -/
def lenB (n j : Nat) : List UInt8 := (List.range j).map fun i => UInt8.ofNat (n * 8 / 2 ^ (8 * (7 - i)) % 256)
/-- The four bytes of a word; the bytes of a row of words. -/
def wbytes (x : Int) : List UInt8 := [UInt8.ofNat (x / 16777216 % 256).toNat, UInt8.ofNat (x / 65536 % 256).toNat, UInt8.ofNat (x / 256 % 256).toNat, UInt8.ofNat (x % 256).toNat]
def outB (hs : List Int) : List UInt8 := (hs.map wbytes).flatten
/-- What follows the whole blocks of a string of n bytes, of which r are left. -/
def tailB (r : List UInt8) (n : Nat) : List UInt8 := r ++ [128] ++ List.replicate (padZ (r.length + 1)) 0 ++ lenB n 8
/-- The digest of a string. -/
def sumB (s : List UInt8) : List UInt8 :=
  outB (blocksB (blocksB beginB s (s.length / 64)) (tailB (s.drop (64 * (s.length / 64))) s.length) ((tailB (s.drop (64 * (s.length / 64))) s.length).length / 64))
theorem Words.but {W W' : World} {g p : Nat} {t : TypeId} {ws : List Int} (h : Words W g t ws) (x : But p W W') (hp : g ≠ p) : Words W' g t ws := (x.block _ h.lt hp).trans h
def lenV : Value → Nat
  | .string b => b.size
  | .slice _ n _ => n
  | _ => 0

set_option maxHeartbeats 4000000 in
set_option maxRecDepth 100000 in
theorem sum_any (s : List UInt8) (w : World) (hs : s.length ≤ 1099511627776) (hC : Cons w) :
    Calls Tryz.prog 43 #[vstr s] w fun e w' => e = .returned (vstr (sumB s)) ∧ Ext w w' := by
  have HC := Lib.hid hC
  clear hC
  have hi8 : (Tryz.prog.info? 124).map (·.size) = some (wcells beginB).toArray.size := by kernel_rfl
  go_enter Tryz.func43, Tryz.ntmps43
  go_upto_region 1 with fail
  go_cut [3] (fun t wx => ∃ g, t = .pointer (some ⟨g, 0, none⟩) ∧ w.heap.size ≤ g ∧ Words wx g 124 beginB ∧ Ext w wx)
  case first =>
    go_wp2_with fail
    refine (begin_any _).mono ?_
    rintro e w1 ⟨rfl, x1⟩
    have X1 := Lib.hid x1
    obtain ⟨g4, hg4⟩ : ∃ g4, g4 = w1.heap.size := ⟨_, rfl⟩
    have hgl : w.heap.size ≤ g4 := by rw [hg4]; exact x1.size
    have hZ : Words (w1.alloc (.cells (wcells (List.replicate 8 0)).toArray 124)) g4 124 (List.replicate 8 0) := by rw [hg4]; exact heap_new w1 _
    have HZ := Lib.hid hZ
    clear x1 hZ
    go_wp2_with (refine wpList_store_mid (by rfl) 124 (.tmp 3) (.tmp 10) (by rfl) g4 0 (wcells beginB).toArray (by rw [hg4]; rfl) (by rfl) (by exact HZ.out.there) hi8 (all_oneCell_toArray (wcells_one _)) ?_)
    go_meet
    subst hg4
    exact ⟨_, rfl, hgl, HZ.out.putAll beginB rfl, (X1.out.alloc _).setCells hgl _ _ _⟩
  case rest =>
  obtain ⟨g, rfl, hg, hw0, hx⟩ := hcut
  have W0 := Lib.hid hw0
  have X0 := Lib.hid hx
  clear hw0 hx
  go_wp2_with fail
  go_loopw [0] (fun sv wq => ∃ k : Nat, 64 * k ≤ s.length ∧ sv = vstr (s.drop (64 * k)) ∧ Words wq g 124 (blocksB beginB s k) ∧ Ext w wq) (fun sv _ => lenV sv)
  case atStart => exact ⟨0, Nat.zero_le _, rfl, W0.out, X0.out⟩
  case round =>
    obtain ⟨k, hk, rfl, hw0, hx⟩ := hrel
    clear W0 X0
    have W0 := Lib.hid hw0
    have X0 := Lib.hid hx
    have hl8 := blocksB_len beginB s rfl k
    clear hw0 hx
    obtain ⟨r, hr⟩ : ∃ r, r = s.drop (64 * k) := ⟨_, rfl⟩
    have hrl : r.length = s.length - 64 * k := by rw [hr, List.length_drop]
    have Hrl := Lib.hid hrl
    clear hrl
    rw [← hr]
    by_cases h64 : 64 ≤ r.length
    · have e1 : (⟨r.toArray⟩ : ByteArray).extract 0 64 = ⟨(r.take 64).toArray⟩ := extract_take ⟨r.toArray⟩ 64
      have e2 : (⟨r.toArray⟩ : ByteArray).extract 64 r.length = ⟨(r.drop 64).toArray⟩ := by
        have := Lib.extract_eq (⟨r.toArray⟩ : ByteArray) 64 r.length
        rw [this, List.take_of_length_le (by rw [List.length_drop]; exact Nat.le_refl _)]
      have e3 : r.drop 64 = s.drop (64 * (k + 1)) := by rw [hr, List.drop_drop]; congr 1
      have e4 : procB (blocksB beginB s k) (r.take 64) = blocksB beginB s (k + 1) := by rw [hr]; rfl
      have E3 := Lib.hid e3
      have E4 := Lib.hid e4
      have Hr := Lib.hid hr
      clear e3 e4 hr
      go_wp2_with fail
      refine (process_any g _ (r.take 64) _ W0.out hl8 (by rw [List.length_take]; omega) (HC.out.ext X0.out)).mono ?_
      rintro e w1 ⟨rfl, hw1, hb1⟩
      rw [E4.out] at hw1
      have W1 := Lib.hid hw1
      have X1 := Lib.hid (hb1.ext X0.out hg)
      clear hw1 hb1
      go_wp2_with fail
      go_roundw
      case rel => exact ⟨k + 1, by have := Hrl.out; omega, by rw [← E3.out], W1.out, X1.out⟩
      case measure =>
        show (r.drop 64).length < r.length
        rw [List.length_drop]
        omega
    · obtain ⟨st, hst⟩ : ∃ st, st = blocksB beginB s k := ⟨_, rfl⟩
      rw [← hst] at W0 hl8
      obtain ⟨N, hN⟩ : ∃ N, N = wr.heap.size := ⟨_, rfl⟩
      have hgN : g < N := by rw [hN]; exact W0.out.lt
      have hwN : w.heap.size ≤ N := by rw [hN]; exact X0.out.size
      obtain ⟨c0, V1, hconv, hxV, hrow⟩ := bytes_row wr r (by omega)
      rw [← hN] at hrow
      have hV1 : N ≤ V1.heap.size := by rw [hN]; exact hxV.size
      have hrow2 := hrow.ext ((Ext.refl V1).alloc (.cells #[.int .u8 128] 5))
      have w2 := W0.out.ext (hxV.trans ((Ext.refl V1).alloc (.cells #[.int .u8 128] 5)))
      have HR := Lib.hid (And.intro hrow2 (And.intro w2 (X0.out.trans (hxV.trans ((Ext.refl V1).alloc (.cells #[.int .u8 128] 5))))))
      have Hst := Lib.hid hst
      have Hr := Lib.hid hr
      have HN := Lib.hid hN
      clear hst hr hrow hrow2 w2 hxV hN
      go_upto_region 6 with fail
      go_cut [5] (fun v wx => ∃ b c, v = .slice (some ⟨b, 0, none⟩) (r.length + 1) c ∧ BRow wx N b (r.length + 1) c (r ++ [128]) ∧ Words wx g 124 st ∧ Ext w wx ∧ N ≤ wx.heap.size)
      case first =>
        go_wp2_with (at_builtin; refine wpList_append_brow _ rfl (.tmp 24) (.tmp 25) rfl N wr.heap.size r.length c0 r (by rw [← HN.out]; exact HR.out.1) rfl ⟨V1.heap.size, 0, none⟩ 1 1 [128] rfl rfl ?_ (by omega) (by simp; omega) (by decide) ?_)
        · intro j u hj
          rw [addr_add0, World.cell?_alloc_mark]
          simpa [Lib.byteCells] using hj
        · intro b' c' w' hb hbut _
          have wz := HR.out.2.1.but hbut (by rw [← HN.out]; omega)
          have xz := hbut.ext HR.out.2.2 (by rw [← HN.out]; exact hwN)
          have sz := hbut.size
          have HZ := Lib.hid (And.intro hb (And.intro wz xz))
          clear hb hbut wz xz
          go_wp2_with fail
          go_meet
          refine ⟨b', c', rfl, HZ.out.1, HZ.out.2.1, HZ.out.2.2, ?_⟩
          have : (V1.alloc (.cells #[.int .u8 128] 5)).heap.size = V1.heap.size + 1 := by simp
          omega
      case rest =>
      obtain ⟨b, c, rfl, hb, hw, hx, hNw⟩ := hcut
      clear HR W0 X0 hconv hV1
      have B0 := Lib.hid hb
      have W0 := Lib.hid hw
      have X0 := Lib.hid hx
      clear hb hw hx
      obtain ⟨n1, hn1⟩ : ∃ n1, n1 = r.length + 1 := ⟨_, rfl⟩
      rw [← hn1] at B0
      rw [← hn1]
      have HN1 := Lib.hid hn1
      have hn64 : n1 ≤ 64 := by omega
      clear hn1
      go_wp2_with fail
      go_loopw [5] (fun v wq => ∃ z b c, z ≤ padZ n1 ∧ v = .slice (some ⟨b, 0, none⟩) (n1 + z) c ∧ BRow wq N b (n1 + z) c (r ++ [128] ++ List.replicate z 0) ∧ Words wq g 124 st ∧ Ext w wq ∧ N ≤ wq.heap.size) (fun v _ => 300 - lenV v)
      case atStart => exact ⟨0, b, c, Nat.zero_le _, rfl, by rw [List.replicate_zero, List.append_nil]; exact B0.out, W0.out, X0.out, hNw⟩
      case round =>
        clear B0 W0 X0 hNw
        obtain ⟨z, b, c, hz, rfl, hb, hw, hx, hNw⟩ := hrel
        have B0 := Lib.hid hb
        have W0 := Lib.hid hw
        have X0 := Lib.hid hx
        clear hb hw hx
        by_cases hlt : z < padZ n1
        · have hr1 : ¬ ((n1 + z : Nat) : Int) % 64 = 56 := by unfold padZ at hlt; omega
          have hpz : padZ n1 ≤ 63 := by unfold padZ; omega
          obtain ⟨m, hm⟩ : ∃ m, m = n1 + z := ⟨_, rfl⟩
          rw [← hm] at hr1 B0
          rw [← hm]
          have HM := Lib.hid hm
          have hml : m ≤ 200 := by omega
          clear hm
          go_wp2_with (at_builtin; refine wpList_append_brow _ rfl (.tmp 31) (.tmp 32) rfl N b m c _ (B0.out.ext ((Ext.refl wr).alloc _)) rfl ⟨wr.heap.size, 0, none⟩ 1 1 [0] rfl rfl ?_ (by omega) (by simp; omega) (by decide) ?_)
          · intro j u hj
            rw [addr_add0, World.cell?_alloc_mark]
            simpa [Lib.byteCells] using hj
          · intro b' c' w' hb hbut hbo
            have hbb := hbut
            have wz := (W0.out.ext ((Ext.refl wr).alloc (.cells #[.int .u8 0] 5))).but hbut (by have := B0.out.1; omega)
            have xz := hbut.ext (X0.out.alloc (.cells #[.int .u8 0] 5)) (by have := B0.out.1; omega)
            have sz := hbut.size
            have e1 : (wr.alloc (.cells #[.int .u8 0] 5)).heap.size = wr.heap.size + 1 := by simp
            rw [e1] at sz
            have hb : BRow w' N b' (m + 1) c' (r ++ [128] ++ List.replicate (z + 1) 0) := by rw [List.replicate_succ']; simpa using hb
            have HZ := Lib.hid (And.intro hb (And.intro wz xz))
            clear hb hbut hbb wz xz hbo e1
            go_wp2_with fail
            go_roundw
            case rel => exact ⟨z + 1, b', c', by omega, by have := HM.out; rw [show n1 + (z + 1) = m + 1 by omega], by have := HM.out; rw [show n1 + (z + 1) = m + 1 by omega]; exact HZ.out.1, HZ.out.2.1, HZ.out.2.2, by omega⟩
            case measure => show 300 - (m + 1) < 300 - m; omega
        · obtain rfl : z = padZ n1 := by omega
          have hr1 : ((n1 + padZ n1 : Nat) : Int) % 64 = 56 := by unfold padZ; omega
          have hpz : padZ n1 ≤ 63 := by unfold padZ; omega
          obtain ⟨L2, hL2⟩ : ∃ L2, L2 = r ++ [128] ++ List.replicate (padZ n1) 0 := ⟨_, rfl⟩
          rw [← hL2] at B0
          have hl2 : L2.length = n1 + padZ n1 := B0.out.2.1
          obtain ⟨m, hm⟩ : ∃ m, m = n1 + padZ n1 := ⟨_, rfl⟩
          rw [← hm] at hr1 B0 hl2
          rw [← hm]
          have HL2 := Lib.hid hL2
          have HM := Lib.hid hm
          have hml : m ≤ 128 := by omega
          clear hm hL2
          have HR1 := Lib.hid hr1
          go_wp2_with fail
          clear hr1
          go_loopw [5, 34] (fun v t wq => ∃ j b c : Nat, j ≤ 8 ∧ t = .int .i64 j ∧ v = .slice (some ⟨b, 0, none⟩) (m + j) c ∧ BRow wq N b (m + j) c (L2 ++ lenB s.length j) ∧ Words wq g 124 st ∧ Ext w wq ∧ N ≤ wq.heap.size) (fun _ t _ => 8 - (intOf t).toNat)
          case atStart => exact ⟨0, b, c, Nat.zero_le _, rfl, rfl, by rw [lenB, List.range_zero, List.map_nil, List.append_nil]; exact B0.out, W0.out, X0.out, hNw⟩
          case round =>
            clear B0 W0 X0 hNw
            obtain ⟨j, b, c, hj, rfl, rfl, hb, hw, hx, hNw⟩ := hrel
            have B0 := Lib.hid hb
            have W0 := Lib.hid hw
            have X0 := Lib.hid hx
            clear hb hw hx
            by_cases hlt : j < 8
            · obtain ⟨sh, hsh⟩ : ∃ sh, sh = 8 * (7 - j) := ⟨_, rfl⟩
              have esh : 8 * (7 - (j : Int)) = (sh : Int) := by omega
              have hsl : sh ≤ 56 := by omega
              obtain ⟨x, hx⟩ : ∃ x : UInt8, x = UInt8.ofNat (s.length * 8 / 2 ^ sh % 256) := ⟨_, rfl⟩
              have ex : (s.length : Int) * 8 / 2 ^ sh % 256 = (x.toNat : Int) := by
                rw [hx, UInt8.toNat_ofNat', Nat.mod_eq_of_lt (Nat.mod_lt _ (by decide))]
                simp
              have hnx : lenB s.length (j + 1) = lenB s.length j ++ [x] := by
                rw [lenB, List.range_succ, List.map_append, hx, hsh]
                rfl
              have HNX := Lib.hid hnx
              obtain ⟨q, hq⟩ : ∃ q, q = m + j := ⟨_, rfl⟩
              rw [← hq] at B0
              rw [← hq]
              have HQ := Lib.hid hq
              have hql : q ≤ 200 := by omega
              clear hsh hx hnx hq
              go_wp2_with (at_builtin; refine wpList_append_brow _ rfl (.tmp 37) (.tmp 44) rfl N b q c _ (B0.out.ext ((Ext.refl wr).alloc _)) rfl ⟨wr.heap.size, 0, none⟩ 1 1 [x] rfl rfl ?_ (by omega) (by simp; omega) (by decide) ?_)
              · intro j u hj
                rw [addr_add0, World.cell?_alloc_mark]
                simpa [Lib.byteCells] using hj
              · intro b' c' w' hb hbut hbo
                have wz := (W0.out.ext ((Ext.refl wr).alloc (.cells #[.int .u8 x.toNat] 5))).but hbut (by have := B0.out.1; omega)
                have xz := hbut.ext (X0.out.alloc (.cells #[.int .u8 x.toNat] 5)) (by have := B0.out.1; omega)
                have sz := hbut.size
                have e1 : (wr.alloc (.cells #[.int .u8 x.toNat] 5)).heap.size = wr.heap.size + 1 := by simp
                rw [e1] at sz
                have hb : BRow w' N b' (q + 1) c' (L2 ++ lenB s.length (j + 1)) := by rw [HNX.out]; simpa using hb
                have HZ := Lib.hid (And.intro hb (And.intro wz xz))
                clear hb hbut wz xz hbo e1
                go_wp2_with fail
                go_roundw
                case rel => exact ⟨j + 1, b', c', by omega, by go_num, by have := HQ.out; rw [show m + (j + 1) = q + 1 by omega], by have := HQ.out; rw [show m + (j + 1) = q + 1 by omega]; exact HZ.out.1, HZ.out.2.1, HZ.out.2.2, by omega⟩
                case measure => simp [intOf]; omega
            · obtain rfl : j = 8 := by omega
              obtain ⟨L, hL⟩ : ∃ L, L = L2 ++ lenB s.length 8 := ⟨_, rfl⟩
              rw [← hL] at B0
              have hl64 : (m + 8) % 64 = 0 := by have := HR1.out; omega
              obtain ⟨n, hn⟩ : ∃ n, n = m + 8 := ⟨_, rfl⟩
              rw [← hn] at hl64 B0
              rw [← hn]
              have hLl : L.length = n := B0.out.2.1
              have hnl : n ≤ 136 := by omega
              have HL := Lib.hid hL
              have HLl := Lib.hid hLl
              clear hn hL hl2 hLl
              go_wp2_with fail
              go_loopw [5] (fun v wq => ∃ (i : Nat) (a : Addr) (ca : Nat), 64 * i ≤ n ∧ v = .slice (some a) (n - 64 * i) ca ∧ (n - 64 * i = 0 ∨ a = ⟨b, 64 * i, none⟩ ∧ ca = c - 64 * i) ∧ BRow wq N b n c L ∧ Words wq g 124 (blocksB st L i) ∧ Ext w wq) (fun v _ => lenV v)
              case atStart => exact ⟨0, ⟨b, 0, none⟩, c, Nat.zero_le _, rfl, .inr ⟨rfl, rfl⟩, B0.out, W0.out, X0.out⟩
              case round =>
                clear B0 W0 X0 hNw
                obtain ⟨i, a, ca, hi, rfl, ha, hb, hw, hx⟩ := hrel
                have B0 := Lib.hid hb
                have W0 := Lib.hid hw
                have X0 := Lib.hid hx
                clear hb hw hx
                obtain ⟨q, hq⟩ : ∃ q, q = n - 64 * i := ⟨_, rfl⟩
                obtain ⟨o, ho⟩ : ∃ o, o = 64 * i := ⟨_, rfl⟩
                rw [← hq, ← ho] at ha
                rw [← hq]
                by_cases hlt : 0 < q
                · obtain ⟨rfl, hcq⟩ : a = ⟨b, o, none⟩ ∧ ca = c - o := by
                    rcases ha with h | h
                    · omega
                    · exact h
                  have hqc : q ≤ ca := by have := B0.out.2.2.1; omega
                  have hq64 : 64 ≤ q := by omega
                  have hq0 : ((0 : Int) < (q : Int)) := by omega
                  have HO := Lib.hid (And.intro hq (And.intro hcq ho))
                  obtain ⟨p, hp⟩ : ∃ p, p = (L.drop (64 * i)).take 64 := ⟨_, rfl⟩
                  have hpl : p.length = 64 := by rw [hp, List.length_take, List.length_drop, HLl.out]; omega
                  have hconv : (convert 68 9 (.slice (some ⟨b, o, none⟩) 64 ca)).run Tryz.prog wr = .ok (vstr p) wr := by
                    have h := run_convert_bytes_back (P := Tryz.prog) wr 68 9 5 ⟨b, o, none⟩ ca p Tryz.underlying68 Tryz.underlying5 Tryz.underlying9 (fun j hj => by
                      rw [show (⟨b, o, none⟩ : Addr).add j = ⟨b, o + j, none⟩ from Addr.add_mid b o j]
                      refine B0.out.cell (o + j) _ ?_
                      have hj2 : j < 64 := by omega
                      have hoj : o + j < L.length := by rw [HLl.out]; omega
                      rw [Lib.byteCells, List.getElem?_map, List.getElem?_eq_getElem hoj]
                      simp [hp, ho])
                    rwa [hpl] at h
                  have HP := Lib.hid hp
                  have hnx : procB (blocksB st L i) p = blocksB st L (i + 1) := by rw [hp]; rfl
                  have HNX := Lib.hid hnx
                  clear hp hq hcq ho hnx
                  go_wp2_with fail
                  refine (process_any g _ p _ W0.out (blocksB_len st L hl8 i) hpl (HC.out.ext X0.out)).mono ?_
                  rintro e w1 ⟨rfl, hw1, hb1⟩
                  rw [HNX.out] at hw1
                  have W1 := Lib.hid hw1
                  have X1 := Lib.hid (hb1.ext X0.out hg)
                  have B1 := Lib.hid (B0.out.but hb1 (by have := B0.out.1; omega))
                  clear hw1 hb1 hconv
                  go_wp2_with fail
                  · obtain ⟨e1, e2, e3⟩ := HO.out
                    exact ⟨⟨i + 1, by omega, _, _, ⟨rfl, by omega, rfl⟩, .inl (by omega), B1.out, W1.out, X1.out⟩, by show q - 64 < q; omega⟩
                  · obtain ⟨e1, e2, e3⟩ := HO.out
                    exact ⟨⟨i + 1, by omega, _, _, ⟨rfl, by omega, rfl⟩, .inr ⟨by rw [show 64 * (i + 1) = o + 64 by omega], by omega⟩, B1.out, W1.out, X1.out⟩, by show q - 64 < q; omega⟩
                · obtain rfl : q = 0 := by omega
                  have hi2 : i = n / 64 := by omega
                  have hk2 : k = s.length / 64 := by have := Hrl.out; omega
                  obtain ⟨hf, hhf⟩ : ∃ hf, hf = blocksB st L i := ⟨_, rfl⟩
                  have hfl : hf.length = 8 := by rw [hhf]; exact blocksB_len st L hl8 i
                  have hsum : sumB s = outB hf := by
                    rw [sumB, hhf, hi2, ← HLl.out, HL.out, HL2.out, HN1.out, Hst.out, Hr.out, hk2]
                    rfl
                  rw [← hhf] at W0
                  have HS := Lib.hid hsum
                  have hi8f : (Tryz.prog.info? 124).map (·.size) = some (wcells hf).length := by
                    rw [wcells_len, hfl]
                    kernel_rfl
                  have HI := Lib.hid hi8f
                  clear hi2 hk2 hhf hsum ho hq hi8f ha B0
                  obtain ⟨B, hB⟩ : ∃ B, B = wr.heap.size := ⟨_, rfl⟩
                  have hbn : Bld 70 B B [] (wr.alloc (.cells #[.pointer none, .slice none 0 0] 70)) := bld_new (Nat.le_refl _) (by rw [hB]; exact heap_new wr _)
                  have W1 := Lib.hid (W0.out.ext ((Ext.refl wr).alloc (.cells #[.pointer none, .slice none 0 0] 70)))
                  have X1 := Lib.hid (X0.out.alloc (.cells #[.pointer none, .slice none 0 0] 70))
                  have HB := Lib.hid hbn
                  have hwB : w.heap.size ≤ B := by rw [hB]; exact X0.out.size
                  clear hbn W0 X0
                  go_wp2_with (refine wpList_load_mid (by rfl) 124 (.tmp 3) (by rfl) g 0 (by rfl) (wcells hf) _ W1.out.range Tryz.underlying124 rfl HI.out ?_)
                  go_loopw [57] (fun t wq => ∃ j : Nat, j ≤ 8 ∧ t = .int .i64 j ∧ Bld 70 B B (outB (hf.take j)) wq ∧ Ext w wq ∧ B ≤ wq.heap.size) (fun t _ => 8 - (intOf t).toNat)
                  case atStart => exact ⟨0, Nat.zero_le _, rfl, HB.out, X1.out, by rw [hB]; simp⟩
                  case round =>
                    obtain ⟨j, hj, rfl, hbd, hx, hBw⟩ := hrel
                    clear HB X1 W1
                    by_cases hlt : j < 8
                    · have hjl : j < hf.length := by omega
                      have hidx := fun W => index_words hf j hfl hlt W
                      obtain ⟨x, hx57⟩ : ∃ x, x = wd hf j := ⟨_, rfl⟩
                      rw [← hx57] at hidx
                      have hnx : outB (hf.take (j + 1)) = outB (hf.take j) ++ wbytes x := by
                        rw [hx57, List.take_succ_eq_append_getElem hjl, outB, List.map_append, List.flatten_append]
                        simp [outB, wd, hjl]
                      have hol : (outB (hf.take j)).length ≤ 1000 := by
                        have : ∀ l : List Int, (outB l).length = 4 * l.length := by
                          intro l
                          induction l with
                          | nil => rfl
                          | cons y l ih => simp only [outB, List.map_cons, List.flatten_cons, List.length_append, List.length_cons] at ih ⊢; rw [ih]; simp only [wbytes, List.length_cons, List.length_nil]; omega
                        rw [this, List.length_take]
                        omega
                      have ub : ∀ z : Int, (z % 256 : Int) = ((UInt8.ofNat (z % 256).toNat).toNat : Int) := fun z => by
                        rw [UInt8.toNat_ofNat']
                        omega
                      have cells := fun (j2 : Nat) (u : Value) (hj2 : (Lib.byteCells (wbytes x))[j2]? = some u) => (show (wr.alloc (.cells #[.int .u8 (x / 16777216 % 256), .int .u8 (x / 65536 % 256), .int .u8 (x / 256 % 256), .int .u8 (x % 256)] 5)).cell? ⟨wr.heap.size, j2, none⟩ = some u by
                        rw [World.cell?_alloc_mark]
                        have e : (#[Value.int .u8 (x / 16777216 % 256), .int .u8 (x / 65536 % 256), .int .u8 (x / 256 % 256), .int .u8 (x % 256)] : Array Value) = (Lib.byteCells (wbytes x)).toArray := by
                          rw [ub (x / 16777216), ub (x / 65536), ub (x / 256), ub x]
                          rfl
                        rw [e]
                        simpa using hj2)
                      have BD := Lib.hid hbd
                      have XX := Lib.hid hx
                      have CC := Lib.hid cells
                      have HNX := Lib.hid hnx
                      have hsz : (wr.alloc (.cells #[.int .u8 (x / 16777216 % 256), .int .u8 (x / 65536 % 256), .int .u8 (x / 256 % 256), .int .u8 (x % 256)] 5)).heap.size = wr.heap.size + 1 := by simp
                      have hcb : wr.heap.size ≠ B := by
                        have h1 : B < wr.heap.size := by rcases hbd with h | h <;> exact h.lt
                        omega
                      clear hbd hx cells hnx ub hx57
                      go_wp2_with fail
                      rw [← hB]
                      refine (write_any lies_builder B B (outB (hf.take j)) wr.heap.size 4 4 (wbytes x) _ (BD.out.imp (fun h => h.alloc _) (fun h => h.alloc _)) rfl CC.out hcb (by decide) (by omega) (by decide) (by omega)).mono ?_
                      rintro e w1 ⟨rfl, hb1, hbl⟩
                      rw [← HNX.out] at hb1
                      have B1 := Lib.hid hb1
                      have X1 := Lib.hid ((XX.out.alloc (.cells #[.int .u8 (x / 16777216 % 256), .int .u8 (x / 65536 % 256), .int .u8 (x / 256 % 256), .int .u8 (x % 256)] 5)).upon (hbl.mono hwB))
                      have hs1 := hbl.size
                      rw [hsz] at hs1
                      clear hb1 hbl hidx
                      go_wp2_with fail
                      go_roundw
                      case rel => exact ⟨j + 1, by omega, by go_num, B1.out, X1.out, by omega⟩
                      case measure => simp [intOf]; omega
                    · obtain rfl : j = 8 := by omega
                      rw [List.take_of_length_le (by omega), ← HS.out] at hbd
                      have BD := Lib.hid hbd
                      have XX := Lib.hid hx
                      clear hbd hx
                      go_wp2_with fail
                      rw [← hB]
                      refine (builder_string B B (sumB s) _ BD.out hBw).mono ?_
                      rintro e w1 ⟨rfl, -, hbl, -⟩
                      have X1 := Lib.hid (XX.out.upon (hbl.mono hwB))
                      clear hbl
                      go_wp2_with fail
                      go_ret
                      exact ⟨rfl, X1.out⟩
end Go.Proofs.YtfkjjhfoncckcaaGreatDoor
namespace Go.Proofs.YtfkjjhfoncckcaaGreatDoor
open Go.RowKit Go.Sort

theorem outB_len (l : List Int) : (outB l).length = 4 * l.length := by
  induction l with
  | nil => rfl
  | cons y l ih =>
    simp only [outB, List.map_cons, List.flatten_cons, List.length_append, List.length_cons] at ih ⊢
    rw [ih]
    simp only [wbytes, List.length_cons, List.length_nil]
    omega
theorem sumB_len (s : List UInt8) : (sumB s).length = 32 := by
  rw [sumB, outB_len, blocksB_len]
  exact blocksB_len _ _ rfl _
def leafB (s : List UInt8) : List UInt8 := sumB ([0] ++ s)
def joinB (a b : List UInt8) : List UInt8 := sumB ([1] ++ a ++ b)
def splitB (n : Nat) : Nat := 2 ^ (Lib.bitLen (n - 1) - 1)
theorem splitB_ok : ∀ n, n < 17 → 2 ≤ n → 1 ≤ splitB n ∧ splitB n < n ∧ 1 ≤ Lib.bitLen (n - 1) := by decide
def rootF : Nat → List (List UInt8) → List UInt8
  | 0, _ => sumB []
  | f + 1, l => if l.length = 0 then sumB [] else if l.length = 1 then l.headD [] else joinB (rootF f (l.take (splitB l.length))) (rootF f (l.drop (splitB l.length)))
def rootB (l : List (List UInt8)) : List UInt8 := rootF l.length l

set_option maxHeartbeats 1000000 in
set_option maxRecDepth 100000 in
theorem leaf_any (s : List UInt8) (w : World) (hs : s.length ≤ 1073741824) (hC : Cons w) :
    Calls Tryz.prog 18 #[vstr s] w fun e w' => e = .returned (vstr (leafB s)) ∧ Ext w w' := by
  have z1 : ¬ 9223372036854775807 < 1 + s.length := by omega
  go_enter Tryz.func18, Tryz.ntmps18
  go_wp2_with fail
  rw [show (⟨#[0]⟩ : ByteArray) ++ ⟨s.toArray⟩ = ⟨([0] ++ s).toArray⟩ from mk_cat [0] s]
  refine (sum_any ([0] ++ s) w (by rw [List.length_append, List.length_singleton]; omega) hC).mono ?_
  rintro e w1 ⟨rfl, x1⟩
  go_wp2
  go_ret
  exact ⟨rfl, x1⟩
set_option maxHeartbeats 1000000 in
set_option maxRecDepth 100000 in
theorem join_any (a b : List UInt8) (w : World) (ha : a.length ≤ 1073741824) (hb : b.length ≤ 1073741824) (hC : Cons w) :
    Calls Tryz.prog 46 #[vstr a, vstr b] w fun e w' => e = .returned (vstr (joinB a b)) ∧ Ext w w' := by
  have z1 : ¬ 9223372036854775807 < 1 + a.length := by omega
  have z2 : ¬ 9223372036854775807 < 1 + a.length + b.length := by omega
  go_enter Tryz.func46, Tryz.ntmps46
  go_wp2_with fail
  rw [show (⟨#[1]⟩ : ByteArray) ++ ⟨a.toArray⟩ = ⟨([1] ++ a).toArray⟩ from mk_cat [1] a, show (⟨((([1] : List UInt8)) ++ a).toArray⟩ : ByteArray) ++ ⟨b.toArray⟩ = ⟨((([1] : List UInt8)) ++ a ++ b).toArray⟩ from mk_cat ([1] ++ a) b]
  refine (sum_any ([1] ++ a ++ b) w (by rw [List.length_append, List.length_append, List.length_singleton]; omega) hC).mono ?_
  rintro e w1 ⟨rfl, x1⟩
  go_wp2
  go_ret
  exact ⟨rfl, x1⟩
set_option maxHeartbeats 1000000 in
set_option maxRecDepth 100000 in
theorem split_any (n : Nat) (w : World) (h2 : 2 ≤ n) (h : n < 17) :
    Calls Tryz.prog 45 #[.int .i64 n] w fun e w' => e = .returned (.int .i64 (splitB n : Nat)) ∧ w' = w := by
  obtain ⟨k1, k2, k3⟩ := splitB_ok n h h2
  obtain ⟨b, hb⟩ : ∃ b, b = Lib.bitLen (n - 1) := ⟨_, rfl⟩
  have hbl : b ≤ 5 := by
    have : ∀ m, m < 17 → Lib.bitLen m ≤ 5 := by decide
    rw [hb]
    exact this (n - 1) (by omega)
  have hs : splitB n = 2 ^ (b - 1) := by rw [hb]; rfl
  rw [← hb] at k3
  have hcall : Calls Tryz.prog 79 #[.int .u64 ((n : Int) - 1)] w fun e w' => e = .returned (.int .i64 (b : Int)) ∧ w' = w := by
    have := Tryz.bits_Len ((n : Int) - 1) w (by omega) (by omega)
    rw [show ((n : Int) - 1).toNat = n - 1 by omega, ← hb] at this
    exact this
  have HC := Lib.hid hcall
  have HS := Lib.hid hs
  clear hb hcall hs k1 k2
  go_enter Tryz.func45, Tryz.ntmps45
  go_wp2_with fail
  refine HC.out.mono ?_
  rintro e w1 ⟨rfl, rfl⟩
  have hb5 : b = 1 ∨ b = 2 ∨ b = 3 ∨ b = 4 ∨ b = 5 := by omega
  rcases hb5 with rfl | rfl | rfl | rfl | rfl
  all_goals
    go_wp2
    go_ret
    exact ⟨by rw [HS.out]; rfl, rfl⟩
theorem IdsAt.take {W : World} {l : List (List UInt8)} {a : Option Addr} {n c : Nat} (h : IdsAt W l (.slice a n c)) (k : Nat) (hk : k ≤ l.length) : IdsAt W (l.take k) (.slice a k c) := by
  obtain ⟨a2, c2, he, hc, hr⟩ := h
  cases he
  refine ⟨a, c, by rw [List.length_take, Nat.min_eq_left hk], by rw [List.length_take]; omega, ?_⟩
  rcases hr with h0 | ⟨b, o, ha, hr⟩
  · left
    rw [List.length_take]
    omega
  · refine .inr ⟨b, o, ha, fun i hi h2 => ?_⟩
    rw [List.length_take] at hi
    have := hr i (by omega) (by omega)
    rw [this]
    simp
theorem IdsAt.drop {W : World} {l : List (List UInt8)} {b o n c : Nat} (h : IdsAt W l (.slice (some ⟨b, o, none⟩) n c)) (k : Nat) (hk : k ≤ l.length) : IdsAt W (l.drop k) (.slice (some ⟨b, o + k, none⟩) (n - k) (c - k)) := by
  obtain ⟨a2, c2, he, hc, hr⟩ := h
  cases he
  refine ⟨_, _, by rw [List.length_drop], by rw [List.length_drop]; omega, ?_⟩
  rcases hr with h0 | ⟨b2, o2, ha, hr⟩
  · left
    rw [List.length_drop]
    omega
  · cases ha
    refine .inr ⟨b, o + k, rfl, fun i hi h2 => ?_⟩
    rw [List.length_drop] at hi
    have := hr (k + i) (by omega) (by omega)
    rw [Nat.mul_one] at this ⊢
    rw [show o + k + i = o + (k + i) by omega, this]
    simp
theorem rootF_len (f : Nat) (l : List (List UInt8)) (hl : ∀ x ∈ l, x.length ≤ 1048576) : (rootF f l).length ≤ 1048576 := by
  cases f with
  | zero => rw [rootF, sumB_len]; decide
  | succ f =>
    rw [rootF]
    split
    · rw [sumB_len]; decide
    · split
      · cases l with
        | nil => decide
        | cons x l => exact hl x List.mem_cons_self
      · rw [joinB, sumB_len]; decide
set_option maxHeartbeats 2000000 in
set_option maxRecDepth 100000 in
theorem root_any : ∀ (f : Nat) (l : List (List UInt8)) (v : Value) (w : World), l.length ≤ f → l.length < 17 → IdsAt w l v → (∀ x ∈ l, x.length ≤ 1048576) → Cons w →
    Calls Tryz.prog 20 #[v] w fun e w' => e = .returned (vstr (rootF f l)) ∧ Ext w w'
  | f, l, v, w, hf, h17, hv, hl, hC => by
    obtain ⟨a, c, rfl, hc, hr⟩ := hv
    have HV : Hid (IdsAt w l (.slice a l.length c)) := Lib.hid ⟨a, c, rfl, hc, hr⟩
    have HC := Lib.hid hC
    have HL := Lib.hid hl
    by_cases h0 : l.length = 0
    · have hz : rootF f l = sumB [] := by
        cases f with
        | zero => rfl
        | succ f => rw [rootF, if_pos h0]
      have HZ := Lib.hid hz
      clear hr hz hl hC hf
      go_enter Tryz.func20, Tryz.ntmps20
      go_wp2_with fail
      refine (sum_any [] w (by decide) HC.out).mono ?_
      rintro e w1 ⟨rfl, x1⟩
      go_wp2
      go_ret
      exact ⟨by rw [HZ.out]; rfl, x1⟩
    · obtain ⟨f, rfl⟩ : ∃ g, f = g + 1 := ⟨f - 1, by omega⟩
      obtain ⟨b, o, rfl, hrow⟩ : ∃ b o, a = some ⟨b, o, none⟩ ∧ ∀ i, i < l.length → ∀ h : i < l.length, w.cell? ⟨b, o + i * 1, none⟩ = some (vstr l[i]) := by
        rcases hr with h | ⟨b, o, ha, hr⟩
        · exact absurd h h0
        · exact ⟨b, o, ha, hr⟩
      by_cases h1 : l.length = 1
      · have c0 := hrow 0 (by omega) (by omega)
        have hz : rootF (f + 1) l = l[0] := by
          rw [rootF, if_neg h0, if_pos h1]
          cases l with
          | nil => exact absurd rfl h0
          | cons x l => rfl
        rw [Nat.zero_mul, Nat.add_zero] at c0
        have HZ := Lib.hid hz
        clear hr hz hl hC hf hrow
        go_enter Tryz.func20, Tryz.ntmps20
        go_wp2_with fail
        go_ret
        exact ⟨by rw [HZ.out]; rfl, Ext.refl _⟩
      · obtain ⟨k1, k2, k3⟩ := splitB_ok l.length h17 (by omega)
        obtain ⟨k, hk⟩ : ∃ k, k = splitB l.length := ⟨_, rfl⟩
        rw [← hk] at k1 k2
        have hz : rootF (f + 1) l = joinB (rootF f (l.take k)) (rootF f (l.drop k)) := by
          rw [rootF, if_neg h0, if_neg h1, ← hk]
        have hsp := fun W => split_any l.length W (by omega) h17
        rw [← hk] at hsp
        have HSP := Lib.hid hsp
        have ht : l.take k ≠ [] ∧ (l.take k).length = k := ⟨fun h => by have := congrArg List.length h; rw [List.length_take, List.length_nil] at this; omega, by rw [List.length_take]; omega⟩
        have hA := fun (W : World) (x : Ext w W) => root_any f (l.take k) _ W (by rw [List.length_take]; omega) (by rw [List.length_take]; omega) ((HV.out.take k (by omega)).ext x) (fun y hy => hl y (List.mem_of_mem_take hy)) (hC.ext x)
        have hB := fun (W : World) (x : Ext w W) => root_any f (l.drop k) _ W (by rw [List.length_drop]; omega) (by rw [List.length_drop]; omega) ((HV.out.drop k (by omega)).ext x) (fun y hy => hl y (List.mem_of_mem_drop hy)) (hC.ext x)
        have lA := rootF_len f (l.take k) (fun y hy => hl y (List.mem_of_mem_take hy))
        have lB := rootF_len f (l.drop k) (fun y hy => hl y (List.mem_of_mem_drop hy))
        have HZ := Lib.hid hz
        have HA := Lib.hid hA
        have HB := Lib.hid hB
        have n0 : ((l.length : Int) == 0) = false := by rw [beq_eq_false_iff_ne]; omega
        have n1 : ((l.length : Int) == 1) = false := by rw [beq_eq_false_iff_ne]; omega
        have hck : 0 < c - k := by omega
        clear hr hz hl hC hf hrow hA hB hk hsp ht
        go_enter Tryz.func20, Tryz.ntmps20
        go_wp2_with fail
        refine (HSP.out _).mono ?_
        rintro e w1 ⟨rfl, rfl⟩
        go_upto_region 7 with fail
        go_region_with (first
          | (go_at_call 20; (with_reducible refine (HA.out _ (Ext.refl _).drew).mono ?_); rintro e wa ⟨rfl, ya⟩; have ya' := ((Ext.refl _).drew).trans ya)
          | (go_at_call 20; (with_reducible refine (HB.out _ ya').mono ?_); rintro e wb ⟨rfl, yb⟩; have yb' := ya'.trans yb)
          | (go_at_call 46; (with_reducible refine (join_any _ _ _ (Nat.le_trans lA (by decide)) (Nat.le_trans lB (by decide)) (HC.out.ext yb')).mono ?_); rintro e wz ⟨rfl, yz⟩))
        all_goals
          go_wp2
          go_ret
          exact ⟨by rw [HZ.out]; rfl, yb'.trans yz⟩
end Go.Proofs.YtfkjjhfoncckcaaGreatDoor
namespace Go.Proofs.YtfkjjhfoncckcaaGreatDoor
open Go.RowKit Go.Sort

set_option maxHeartbeats 1000000 in
set_option maxRecDepth 100000 in
theorem clone_s (s : List UInt8) (w : World) (hs : s.length ≤ 1073741824) : Calls Tryz.prog 49 #[vstr s] w fun e w' => e = .returned (vstr s) ∧ Ext w w' := by
  go_enter Tryz.func49, Tryz.ntmps49
  go_wp2_with fail
  refine (Tryz.stringslite_Clone ⟨s.toArray⟩ w (by rw [size_mk]; omega)).mono ?_
  rintro e w1 ⟨rfl, x1⟩
  go_wp2
  go_ret
  exact ⟨rfl, x1⟩
/-- The encoding of a string. -/
def wtextB (s : List UInt8) : List UInt8 := Lib.itoa s.length ++ [58] ++ s ++ [44]
set_option maxHeartbeats 1000000 in
set_option maxRecDepth 100000 in
theorem wtext_any (s : List UInt8) (w : World) (hs : s.length ≤ 1073741824) (hT : Tab w) : Calls Tryz.prog 19 #[vstr s] w fun e w' => e = .returned (vstr (wtextB s)) ∧ Ext w w' := by
  have hl := Lib.itoa_length_le s.length (by omega) (by omega)
  obtain ⟨t, ht⟩ : ∃ t, t = Lib.itoa s.length := ⟨_, rfl⟩
  rw [← ht] at hl
  have hcall := Tryz.strconv_Itoa s.length (by omega) (by omega) w hT
  rw [← ht] at hcall
  have HC := Lib.hid hcall
  have HT := Lib.hid ht
  have z1 : ¬ 9223372036854775807 < t.length + 1 := by omega
  have z2 : ¬ 9223372036854775807 < t.length + 1 + s.length := by omega
  have z3 : ¬ 9223372036854775807 < t.length + 1 + s.length + 1 := by omega
  clear hcall ht hT
  go_enter Tryz.func19, Tryz.ntmps19
  go_wp2_with fail
  refine HC.out.mono ?_
  rintro e w1 ⟨rfl, k, os, rfl⟩
  go_wp2
  go_ret
  refine ⟨congrArg (fun z => Ending.returned (Value.string z)) ?_, ext_grow _ _ _⟩
  have e1 : (⟨t.toArray⟩ : ByteArray) ++ ⟨#[58]⟩ = ⟨(t ++ [58]).toArray⟩ := mk_cat t [58]
  have e2 : (⟨(t ++ [58]).toArray⟩ : ByteArray) ++ ⟨s.toArray⟩ = ⟨(t ++ [58] ++ s).toArray⟩ := mk_cat (t ++ [58]) s
  have e3 : (⟨(t ++ [58] ++ s).toArray⟩ : ByteArray) ++ ⟨#[44]⟩ = ⟨(t ++ [58] ++ s ++ [44]).toArray⟩ := mk_cat (t ++ [58] ++ s) [44]
  show (⟨t.toArray⟩ : ByteArray) ++ ⟨#[58]⟩ ++ ⟨s.toArray⟩ ++ ⟨#[44]⟩ = _
  rw [e1, e2, e3, HT.out]
  rfl
def trimCR (l : List UInt8) : List UInt8 := Lib.trimSuffix l [13]
def linesF : Nat → List UInt8 → List (List UInt8)
  | 0, _ => []
  | f + 1, s => if s = [] then [] else (if (cut1 10 s).2.2 then trimCR (cut1 10 s).1 else (cut1 10 s).1) :: linesF f (cut1 10 s).2.1
def linesB (s : List UInt8) : List (List UInt8) := linesF s.length s
theorem cut1_lt (s : List UInt8) (h : s ≠ []) : (cut1 10 s).2.1.length < s.length := by
  show ((s.dropWhile _).drop 1).length < _
  have h1 := (List.dropWhile_sublist (l := s) (· != (10 : UInt8))).length_le
  have h2 : 0 < s.length := List.length_pos_iff.2 h
  rw [List.length_drop]
  omega
theorem linesF_more : ∀ (f g : Nat) (s : List UInt8), s.length ≤ f → s.length ≤ g → linesF f s = linesF g s
  | 0, g, s, hf, _ => by
    have : s = [] := List.length_eq_zero_iff.1 (by omega)
    subst this
    cases g <;> rfl
  | f + 1, 0, s, _, hg => by
    have : s = [] := List.length_eq_zero_iff.1 (by omega)
    subst this
    rfl
  | f + 1, g + 1, s, hf, hg => by
    rw [linesF, linesF]
    split
    · rfl
    · rename_i h
      have := cut1_lt s h
      rw [linesF_more f g _ (by omega) (by omega)]
theorem linesB_step (s : List UInt8) (h : s ≠ []) : linesB s = (if (cut1 10 s).2.2 then trimCR (cut1 10 s).1 else (cut1 10 s).1) :: linesB (cut1 10 s).2.1 := by
  obtain ⟨n, hn⟩ : ∃ n, s.length = n + 1 := ⟨s.length - 1, by have := List.length_pos_iff.2 h; omega⟩
  have := cut1_lt s h
  rw [linesB, hn, linesF, if_neg h, linesB, linesF_more n _ _ (by omega) (Nat.le_refl _)]
/-- A line ahead of a rest. -/
theorem linesB_line (l r : List UInt8) (h10 : ∀ c ∈ l, c ≠ 10) (h13 : ∀ c ∈ l, c ≠ 13) : linesB (l ++ [10] ++ r) = l :: linesB r := by
  have hc : cut1 10 (l ++ [10] ++ r) = (l, r, true) := by
    induction l with
    | nil => rw [List.nil_append, List.singleton_append, cut1_hit]
    | cons x l ih =>
      have ih := ih (fun c hc => h10 c (List.mem_cons_of_mem _ hc)) (fun c hc => h13 c (List.mem_cons_of_mem _ hc))
      rw [List.cons_append, List.cons_append, cut1_miss _ (h10 x List.mem_cons_self), ih]
  rw [linesB_step _ (by simp), hc]
  show (if true = true then trimCR l else l) :: linesB r = _
  rw [if_pos rfl]
  congr 1
  unfold trimCR Lib.trimSuffix
  rw [if_neg]
  intro hs
  unfold Lib.hasSuffix at hs
  exact h13 13 ((List.isSuffixOf_iff_suffix.1 hs).subset (List.mem_singleton_self 13)) rfl
theorem World.ownsRow.kept_ext {w w0 w' : World} {e : TypeId} {size : Nat} {v : Value} {n : Nat} {xs : List Value} {base : Nat} (h : w.ownsRow base e size v n xs) (_ : Ext w0 w) (x : Ext w w') : w'.ownsRow base e size v n xs := by
  rcases h with ⟨h1, h2⟩
  refine ⟨h1, ?_⟩
  rcases h2 with h | ⟨g, cap, cur, hv, hb, hg, hr⟩
  · exact .inl h
  · exact .inr ⟨g, cap, cur, hv, hb, (x.heap (Array.getElem?_eq_some_iff.1 hg).1).trans hg, hr⟩
theorem infoStr : (Tryz.prog.info? 9).map (fun i => (i.zero, i.size, i.bytes)) = some (some (.string ByteArray.empty), 1, 16) := by kernel_rfl
theorem IdsAt.of_owns {W : World} {base : Nat} {v : Value} {l : List (List UInt8)} (h : W.ownsRow base 9 1 v l.length (l.map vstr)) : IdsAt W l v := by
  rcases h.2 with ⟨rfl, h0⟩ | ⟨g, cap, cur, rfl, _, hg, hn, _⟩
  · exact ⟨none, 0, by rw [h0], by omega, .inl h0⟩
  · refine ⟨_, cap, rfl, hn, .inr ⟨g, 0, rfl, fun i hi h2 => ?_⟩⟩
    rw [Nat.zero_add, Nat.mul_one, World.ownsRow.cellAt h i (by omega)]
    simp
set_option maxHeartbeats 2000000 in
set_option maxRecDepth 100000 in
theorem lines_any (s : List UInt8) (w : World) (hs : s.length ≤ 1073741824) : Calls Tryz.prog 21 #[vstr s] w fun e w' => ∃ v, e = .returned v ∧ IdsAt w' (linesB s) v ∧ Ext w w' := by
  obtain ⟨i0, hi, hz0, hz1, hz2⟩ := info_parts infoStr
  go_enter Tryz.func21, Tryz.ntmps21
  go_wp2_with fail
  go_loopw [0, 3] (fun sv v wq => ∃ (r : List UInt8) (out : List (List UInt8)), r.length + out.length ≤ s.length ∧ sv = vstr r ∧ linesB s = out ++ linesB r ∧ wq.ownsRow w.heap.size 9 1 v out.length (out.map vstr) ∧ Ext w wq) (fun sv _ _ => lenV sv)
  case atStart => exact ⟨s, [], Nat.le_refl _, rfl, rfl, ⟨rfl, .inl ⟨rfl, rfl⟩⟩, Ext.refl w⟩
  case round =>
    obtain ⟨r, out, hro, rfl, heq, hown, hx⟩ := hrel
    by_cases hr : r = []
    · subst hr
      rw [show linesB [] = [] from rfl, List.append_nil] at heq
      go_wp2_with fail
      go_ret
      refine ⟨_, rfl, ?_, hx⟩
      rw [heq]
      exact IdsAt.of_owns hown
    · have hstep := linesB_step r hr
      have hlt := cut1_lt r hr
      obtain ⟨hc1, hc2⟩ := cut1_len 10 r
      obtain ⟨a, ha⟩ : ∃ a, a = (cut1 10 r).1 := ⟨_, rfl⟩
      obtain ⟨b, hb⟩ : ∃ b, b = (cut1 10 r).2.1 := ⟨_, rfl⟩
      obtain ⟨q, hq⟩ : ∃ q, q = (cut1 10 r).2.2 := ⟨_, rfl⟩
      have hcut := fun W => cut_l r 10 W (by omega)
      rw [← ha, ← hb, ← hq] at hcut hstep
      rw [← ha] at hc1
      rw [← hb] at hc2 hlt
      have HCut := Lib.hid hcut
      have HS := Lib.hid hstep
      have HE := Lib.hid heq
      have HO := Lib.hid hown
      have HX := Lib.hid hx
      clear hcut hstep heq hown hx ha hb hq
      go_wp2_with fail
      · refine (HCut.out _).mono ?_
        rintro e w1 ⟨rfl, x1⟩
        have HO1 := Lib.hid (World.ownsRow.kept_ext HO.out HX.out x1)
        have HX1 := Lib.hid (HX.out.trans x1)
        clear x1
        obtain ⟨a', ha'⟩ : ∃ a', a' = if q = true then trimCR a else a := ⟨_, rfl⟩
        have hal : a'.length ≤ 1073741824 := by
          rw [ha']
          split
          · have : (trimCR a).length ≤ a.length := by
              unfold trimCR Lib.trimSuffix
              split
              · rw [List.length_take]; omega
              · exact Nat.le_refl _
            omega
          · omega
        have hcl := fun W => clone_s a' W hal
        rw [← ha'] at HS
        have HCl := Lib.hid hcl
        clear hcl
        cases q with
        | true =>
          rw [if_pos rfl] at ha'
          have HA := Lib.hid ha'
          clear ha'
          go_wp2_with fail
          refine (Tryz.strings_TrimSuffix ⟨a.toArray⟩ ⟨#[13]⟩ _ (by rw [size_mk]; omega)).mono ?_
          rintro e w2 ⟨rfl, rfl⟩
          rw [show (⟨(Lib.trimSuffix (⟨a.toArray⟩ : ByteArray).data.toList (⟨#[13]⟩ : ByteArray).data.toList).toArray⟩ : ByteArray) = ⟨a'.toArray⟩ from by rw [HA.out]; rfl]
          go_wp2_with fail
          refine (HCl.out _).mono ?_
          rintro e w3 ⟨rfl, x3⟩
          have HO3 := Lib.hid (World.ownsRow.kept_ext HO1.out HX1.out x3)
          have HX3 := Lib.hid (HX1.out.trans x3)
          clear x3
          go_wp2_with (at_builtin; refine wpList_append1 w3 9 [vstr a'] rfl (.tmp 18) (.tmp 21) 29 rfl w.heap.size i0 (.string ByteArray.empty) 1 16 Tryz.underlying29 hi hz0 hz1 hz2 rfl (by decide) _ _ _ rfl HO3.out _ rfl rfl (by simp [Value.oneCell']) (by omega) (by omega) HX3.out.size ?_; intro g cap w4 hown1 hb1 _)
          exact ⟨⟨b, out ++ [a'], by rw [List.length_append, List.length_singleton]; omega, rfl, by rw [HE.out, HS.out, List.append_assoc]; rfl, by simpa using hown1, HX3.out.upon hb1⟩, hlt⟩
        | false =>
          rw [if_neg (by decide)] at ha'
          subst ha'
          go_wp2_with fail
          refine (HCl.out _).mono ?_
          rintro e w3 ⟨rfl, x3⟩
          have HO3 := Lib.hid (World.ownsRow.kept_ext HO1.out HX1.out x3)
          have HX3 := Lib.hid (HX1.out.trans x3)
          clear x3
          go_wp2_with (at_builtin; refine wpList_append1 w3 9 [vstr a'] rfl (.tmp 18) (.tmp 21) 29 rfl w.heap.size i0 (.string ByteArray.empty) 1 16 Tryz.underlying29 hi hz0 hz1 hz2 rfl (by decide) _ _ _ rfl HO3.out _ rfl rfl (by simp [Value.oneCell']) (by omega) (by omega) HX3.out.size ?_; intro g cap w4 hown1 hb1 _)
          exact ⟨⟨b, out ++ [a'], by rw [List.length_append, List.length_singleton]; omega, rfl, by rw [HE.out, HS.out, List.append_assoc]; rfl, by simpa using hown1, HX3.out.upon hb1⟩, hlt⟩
      · exfalso
        have hc := ‹(!r.isEmpty) = false›
        rw [Bool.not_eq_false'] at hc
        exact hr (List.isEmpty_iff.1 hc)
end Go.Proofs.YtfkjjhfoncckcaaGreatDoor
