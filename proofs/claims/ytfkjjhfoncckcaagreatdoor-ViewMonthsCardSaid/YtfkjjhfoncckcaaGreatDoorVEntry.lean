/- view.entry. -/
import Derived.Test.YtfkjjhfoncckcaaGreatDoorVData
import Derived.Deep.RegionHeld3
import Derived.Deep.DeepCutAuto
namespace Go.Proofs.YtfkjjhfoncckcaaGreatDoor
open Go.RowKit Go.Sort

def emptyV : ViewT := ⟨[], [], [], 0, 0, [], [], []⟩
/-- The first view with an id. -/
def findV (id : List UInt8) (vs : List ViewT) : ViewT := (vs.find? (fun q => q.id == id)).getD emptyV
def entryB (id : List UInt8) (vs : List ViewT) : List UInt8 := [42, 32] ++ escapeB id ++ [32] ++ escapeB (findV id vs).sender ++ [32] ++ escapeB (findV id vs).subject
/-- Views with strings of no great length. -/
def ShortV (n : Nat) (q : ViewT) : Prop := q.id.length ≤ n ∧ q.sender.length ≤ n ∧ q.subject.length ≤ n
theorem cat6 (A B C : List UInt8) : (((((⟨#[42, 32]⟩ : ByteArray) ++ ⟨A.toArray⟩) ++ ⟨#[32]⟩) ++ ⟨B.toArray⟩) ++ ⟨#[32]⟩) ++ ⟨C.toArray⟩ = ⟨([42, 32] ++ A ++ [32] ++ B ++ [32] ++ C).toArray⟩ := by
  have e1 : (⟨#[42, 32]⟩ : ByteArray) ++ ⟨A.toArray⟩ = ⟨([42, 32] ++ A).toArray⟩ := mk_cat [42, 32] A
  have e2 : (⟨([42, 32] ++ A).toArray⟩ : ByteArray) ++ ⟨#[32]⟩ = ⟨([42, 32] ++ A ++ [32]).toArray⟩ := mk_cat ([42, 32] ++ A) [32]
  have e4 : (⟨([42, 32] ++ A ++ [32] ++ B).toArray⟩ : ByteArray) ++ ⟨#[32]⟩ = ⟨([42, 32] ++ A ++ [32] ++ B ++ [32]).toArray⟩ := mk_cat ([42, 32] ++ A ++ [32] ++ B) [32]
  rw [e1, e2, mk_cat ([42, 32] ++ A ++ [32]) B, e4, mk_cat ([42, 32] ++ A ++ [32] ++ B ++ [32]) C]
theorem findV_idx (id : List UInt8) (vs : List ViewT) : (idxV (fun q => q.id == id) vs = -1 ∧ findV id vs = emptyV) ∨ ∃ (i : Nat) (h : i < vs.length), idxV (fun q => q.id == id) vs = i ∧ findV id vs = vs[i] := by
  cases hf : vs.findIdx? (fun q => q.id == id) with
  | none =>
    refine .inl ⟨by rw [idxV, hf], ?_⟩
    rw [findV, List.find?_eq_none.2 (fun q hq => by simpa using List.findIdx?_eq_none_iff.1 hf q hq)]
    rfl
  | some i =>
    obtain ⟨hlt, h1, h2⟩ := List.findIdx?_eq_some_iff_getElem.1 hf
    refine .inr ⟨i, hlt, by rw [idxV, hf], ?_⟩
    have hfd : vs.find? (fun q => q.id == id) = some vs[i] := List.find?_eq_some_iff_getElem.2 ⟨h1, i, hlt, rfl, fun j hj => by
      have h3 := h2 j hj
      simpa using h3⟩
    rw [findV, hfd]
    rfl
theorem boxed_ext {W W' : World} (h : Ext W W') {k : Nat} {t : TypeId} {v : Value} (hc : Boxed W k t v) : Boxed W' k t v := (h.heap hc.lt).trans hc
def Eight (W : World) (B : Nat) (v0 v1 v2 v3 v4 v5 v6 v7 : Value) : Prop := W.heap[B]? = some (.cells #[v0, v1, v2, v3, v4, v5, v6, v7] 43 (0, 0))
theorem Eight.cell0 {W : World} {B : Nat} {v0 v1 v2 v3 v4 v5 v6 v7 : Value} (h : Eight W B v0 v1 v2 v3 v4 v5 v6 v7) : W.cell? ⟨B, 0, none⟩ = some v0 := by rw [Lib.cell_of_heap h]; rfl
theorem Eight.cell1 {W : World} {B : Nat} {v0 v1 v2 v3 v4 v5 v6 v7 : Value} (h : Eight W B v0 v1 v2 v3 v4 v5 v6 v7) : W.cell? ⟨B, 1, none⟩ = some v1 := by rw [Lib.cell_of_heap h]; rfl
theorem Eight.cell2 {W : World} {B : Nat} {v0 v1 v2 v3 v4 v5 v6 v7 : Value} (h : Eight W B v0 v1 v2 v3 v4 v5 v6 v7) : W.cell? ⟨B, 2, none⟩ = some v2 := by rw [Lib.cell_of_heap h]; rfl
/-- Eight cells are stored. -/
def put8 (W : World) (B : Nat) (u0 u1 u2 u3 u4 u5 u6 u7 : Value) : World := (((((((W.setCell ⟨B, 0, none⟩ u0).setCell ⟨B, 1, none⟩ u1).setCell ⟨B, 2, none⟩ u2).setCell ⟨B, 3, none⟩ u3).setCell ⟨B, 4, none⟩ u4).setCell ⟨B, 5, none⟩ u5).setCell ⟨B, 6, none⟩ u6).setCell ⟨B, 7, none⟩ u7
theorem setCell_cs (W : World) (B o : Nat) (v : Value) {cs : Array Value} {t : TypeId} (h : W.heap[B]? = some (.cells cs t (0, 0))) : (W.setCell ⟨B, o, none⟩ v).heap[B]? = some (.cells (cs.setIfInBounds o v) t (0, 0)) := by
  obtain ⟨hlt, hk⟩ := Array.getElem?_eq_some_iff.1 h
  show (W.heap.modify B _)[B]? = _
  rw [Array.getElem?_eq_getElem (by rw [Array.size_modify]; exact hlt), Array.getElem_modify_self, hk]
  rfl
theorem Eight.set0 {W : World} {B : Nat} {v0 v1 v2 v3 v4 v5 v6 v7 : Value} (h : Eight W B v0 v1 v2 v3 v4 v5 v6 v7) (u : Value) : Eight (W.setCell ⟨B, 0, none⟩ u) B u v1 v2 v3 v4 v5 v6 v7 := setCell_cs W B 0 u h
theorem Eight.set1 {W : World} {B : Nat} {v0 v1 v2 v3 v4 v5 v6 v7 : Value} (h : Eight W B v0 v1 v2 v3 v4 v5 v6 v7) (u : Value) : Eight (W.setCell ⟨B, 1, none⟩ u) B v0 u v2 v3 v4 v5 v6 v7 := setCell_cs W B 1 u h
theorem Eight.set2 {W : World} {B : Nat} {v0 v1 v2 v3 v4 v5 v6 v7 : Value} (h : Eight W B v0 v1 v2 v3 v4 v5 v6 v7) (u : Value) : Eight (W.setCell ⟨B, 2, none⟩ u) B v0 v1 u v3 v4 v5 v6 v7 := setCell_cs W B 2 u h
theorem Eight.set3 {W : World} {B : Nat} {v0 v1 v2 v3 v4 v5 v6 v7 : Value} (h : Eight W B v0 v1 v2 v3 v4 v5 v6 v7) (u : Value) : Eight (W.setCell ⟨B, 3, none⟩ u) B v0 v1 v2 u v4 v5 v6 v7 := setCell_cs W B 3 u h
theorem Eight.set4 {W : World} {B : Nat} {v0 v1 v2 v3 v4 v5 v6 v7 : Value} (h : Eight W B v0 v1 v2 v3 v4 v5 v6 v7) (u : Value) : Eight (W.setCell ⟨B, 4, none⟩ u) B v0 v1 v2 v3 u v5 v6 v7 := setCell_cs W B 4 u h
theorem Eight.set5 {W : World} {B : Nat} {v0 v1 v2 v3 v4 v5 v6 v7 : Value} (h : Eight W B v0 v1 v2 v3 v4 v5 v6 v7) (u : Value) : Eight (W.setCell ⟨B, 5, none⟩ u) B v0 v1 v2 v3 v4 u v6 v7 := setCell_cs W B 5 u h
theorem Eight.set6 {W : World} {B : Nat} {v0 v1 v2 v3 v4 v5 v6 v7 : Value} (h : Eight W B v0 v1 v2 v3 v4 v5 v6 v7) (u : Value) : Eight (W.setCell ⟨B, 6, none⟩ u) B v0 v1 v2 v3 v4 v5 u v7 := setCell_cs W B 6 u h
theorem Eight.set7 {W : World} {B : Nat} {v0 v1 v2 v3 v4 v5 v6 v7 : Value} (h : Eight W B v0 v1 v2 v3 v4 v5 v6 v7) (u : Value) : Eight (W.setCell ⟨B, 7, none⟩ u) B v0 v1 v2 v3 v4 v5 v6 u := setCell_cs W B 7 u h
theorem put8_eight {W : World} {B : Nat} {v0 v1 v2 v3 v4 v5 v6 v7 : Value} (h : Eight W B v0 v1 v2 v3 v4 v5 v6 v7) (u0 u1 u2 u3 u4 u5 u6 u7 : Value) : Eight (put8 W B u0 u1 u2 u3 u4 u5 u6 u7) B u0 u1 u2 u3 u4 u5 u6 u7 :=
  (((((((h.set0 u0).set1 u1).set2 u2).set3 u3).set4 u4).set5 u5).set6 u6).set7 u7
theorem put8_ext {w W : World} (x : Ext w W) {B : Nat} (hB : w.heap.size ≤ B) (u0 u1 u2 u3 u4 u5 u6 u7 : Value) : Ext w (put8 W B u0 u1 u2 u3 u4 u5 u6 u7) :=
  (((((((x.setCell (p := ⟨B, 0, none⟩) hB u0).setCell (p := ⟨B, 1, none⟩) hB u1).setCell (p := ⟨B, 2, none⟩) hB u2).setCell (p := ⟨B, 3, none⟩) hB u3).setCell (p := ⟨B, 4, none⟩) hB u4).setCell (p := ⟨B, 5, none⟩) hB u5).setCell (p := ⟨B, 6, none⟩) hB u6).setCell (p := ⟨B, 7, none⟩) hB u7
theorem put8_other (W : World) (B : Nat) (u0 u1 u2 u3 u4 u5 u6 u7 : Value) (k : Nat) (hk : k ≠ B) : (put8 W B u0 u1 u2 u3 u4 u5 u6 u7).heap[k]? = W.heap[k]? := by
  rw [put8, Below.heap_setCell _ ⟨B, 7, none⟩ u7 k hk, Below.heap_setCell _ ⟨B, 6, none⟩ u6 k hk, Below.heap_setCell _ ⟨B, 5, none⟩ u5 k hk, Below.heap_setCell _ ⟨B, 4, none⟩ u4 k hk, Below.heap_setCell _ ⟨B, 3, none⟩ u3 k hk, Below.heap_setCell _ ⟨B, 2, none⟩ u2 k hk, Below.heap_setCell _ ⟨B, 1, none⟩ u1 k hk, Below.heap_setCell _ ⟨B, 0, none⟩ u0 k hk]

set_option maxHeartbeats 1000000 in
set_option maxRecDepth 100000 in
theorem entry_any (id : List UInt8) (vs : List ViewT) (v : Value) (w : World) (hv : ViewsAt w vs v) (hl : vs.length ≤ 1073741824) (hid : id.length ≤ 100000000) (hq : ∀ q ∈ vs, ShortV 100000000 q) (hT : Tab w) :
    Calls Tryz.prog 30 #[vstr id, v] w fun e w' => e = .returned (vstr (entryB id vs)) ∧ Ext w w' := by
  obtain ⟨A, hA⟩ : ∃ A, A = escapeB id := ⟨_, rfl⟩
  have hAl : A.length ≤ 600000000 := by rw [hA]; have := escapeB_le id; omega
  have hf : (findV id vs).sender.length ≤ 100000000 ∧ (findV id vs).subject.length ≤ 100000000 := by
    unfold findV
    cases h : vs.find? (fun q => q.id == id) with
    | none => exact ⟨Nat.zero_le _, Nat.zero_le _⟩
    | some q => exact (hq q (List.mem_of_find?_eq_some h)).2
  obtain ⟨sn, hsn⟩ : ∃ sn, sn = (findV id vs).sender := ⟨_, rfl⟩
  obtain ⟨sj, hsj⟩ : ∃ sj, sj = (findV id vs).subject := ⟨_, rfl⟩
  rw [← hsn, ← hsj] at hf
  obtain ⟨B, hB⟩ : ∃ B, B = escapeB sn := ⟨_, rfl⟩
  obtain ⟨C, hC⟩ : ∃ C, C = escapeB sj := ⟨_, rfl⟩
  have hBl : B.length ≤ 600000000 := by rw [hB]; have := escapeB_le sn; omega
  have hCl : C.length ≤ 600000000 := by rw [hC]; have := escapeB_le sj; omega
  have hE : entryB id vs = [42, 32] ++ A ++ [32] ++ B ++ [32] ++ C := by rw [entryB, ← hsn, ← hsj, ← hA, ← hB, ← hC]
  have HE := Lib.hid hE
  have Hsn := Lib.hid hsn
  have Hsj := Lib.hid hsj
  have HA := Lib.hid hA
  have HB := Lib.hid hB
  have HC := Lib.hid hC
  have hs1 : ¬ 9223372036854775807 < 2 + A.length := by omega
  have hs2 : ¬ 9223372036854775807 < 2 + A.length + 1 := by omega
  have hs3 : ¬ 9223372036854775807 < 2 + A.length + 1 + B.length := by omega
  have hs4 : ¬ 9223372036854775807 < 2 + A.length + 1 + B.length + 1 := by omega
  have hs5 : ¬ 9223372036854775807 < 2 + A.length + 1 + B.length + 1 + C.length := by omega
  obtain ⟨hf1, hf2⟩ := hf
  obtain ⟨W1, hW1⟩ : ∃ W1, W1 = (w.alloc (.cells #[vstr id] 9)).alloc (.cells #[vstr [], vstr [], vstr [], .int .i64 0, .int .i64 0, .slice none 0 0, vstr [], .slice none 0 0] 43) := ⟨_, rfl⟩
  have x1 : Ext w W1 := by rw [hW1]; exact ((Ext.refl w).alloc _).alloc _
  obtain ⟨b, hb⟩ : ∃ b, b = w.heap.size := ⟨_, rfl⟩
  have hbw : w.heap.size ≤ b := Nat.le_of_eq hb.symm
  have e1 : Eight W1 (b + 1) (vstr []) (vstr []) (vstr []) (.int .i64 0) (.int .i64 0) (.slice none 0 0) (vstr []) (.slice none 0 0) := by
    rw [hW1, hb]
    have := heap_new (w.alloc (.cells #[vstr id] 9)) (.cells #[vstr [], vstr [], vstr [], .int .i64 0, .int .i64 0, .slice none 0 0, vstr [], .slice none 0 0] 43)
    rwa [World.size_alloc] at this
  have i1 : Boxed W1 b 9 (vstr id) := by rw [hW1, hb]; exact (Boxed.new w _ _).alloc _
  have hi := indexFunc_views 69 #[.pointer (some ⟨b, 0, none⟩)] (enters_of Tryz.func69 (by kernel_rfl) rfl) (fun q => q.id == id) vs v W1 (hv.ext x1) hl
    (fun W q u hu x => entry1_any id b q u W hu (x.holds i1.cell))
  have HI := Lib.hid hi
  have HW := Lib.hid hW1
  have Hb := Lib.hid hb
  have HV := Lib.hid hv
  have HT := Lib.hid hT
  clear hi hW1 hb hv hT hA hB hC hE hq hsn hsj
  go_enter Tryz.func30, Tryz.ntmps30
  go_wp2_with fail
  rw [show (w.alloc (.cells #[vstr id] 9)).alloc (.cells #[.string ⟨#[]⟩, .string ⟨#[]⟩, .string ⟨#[]⟩, .int .i64 0, .int .i64 0, .slice none 0 0, .string ⟨#[]⟩, .slice none 0 0] 43) = W1 from HW.out.symm, ← Hb.out]
  refine HI.out.mono ?_
  rintro e w2 ⟨rfl, x2⟩
  have E2 : Eight w2 (b + 1) (vstr []) (vstr []) (vstr []) (.int .i64 0) (.int .i64 0) (.slice none 0 0) (vstr []) (.slice none 0 0) := (x2.heap (Array.getElem?_eq_some_iff.1 e1).1).trans e1
  have i2 := boxed_ext x2 i1
  have x12 := x1.trans x2
  have t2 := HT.out.ext x12
  clear e1 i1 x1 x2 HI HW
  go_upto_if 11 with fail
  go_cut [6] (fun _ wx => Boxed wx b 9 (vstr id) ∧ wx.cell? ⟨b + 1, 1, none⟩ = some (vstr sn) ∧ wx.cell? ⟨b + 1, 2, none⟩ = some (vstr sj) ∧ Tab wx ∧ Ext w wx)
  case first =>
    have z0 : (0 : Nat) < 1 := Nat.one_pos
    rcases findV_idx id vs with ⟨hix, hfv⟩ | ⟨i, hlt, hix, hfv⟩
    · have s1 : sn = [] := by rw [Hsn.out, hfv]; rfl
      have s2 : sj = [] := by rw [Hsj.out, hfv]; rfl
      subst s1 s2
      have C1 := E2.cell1
      have C2 := E2.cell2
      have H := Lib.hid (And.intro i2 (And.intro C1 (And.intro C2 (And.intro t2 x12))))
      clear hfv i2 C1 C2 t2 x12 E2
      go_wp2_with fail
      go_meet
      exact H.out
    · have s1 : sn = vs[i].sender := by rw [Hsn.out, hfv]
      have s2 : sj = vs[i].subject := by rw [Hsj.out, hfv]
      obtain ⟨va, vc, rfl, hvc, hvr⟩ := HV.out
      rcases hvr with h0 | ⟨vb, vo, rfl, hrow⟩
      · omega
      obtain ⟨la, ln, lc, ma, mn, mc, h0, h1, h2, h3, h4, h5, h6, h7, _, _⟩ := (hrow i hlt hlt).ext x12
      rw [← s1] at h1
      rw [← s2] at h2
      have c0 : (0 : Int) ≤ i := by omega
      have c1 : (i : Int) < vs.length := by omega
      have E0 := E2.cell0
      have E1 := E2.cell1
      have E2' := E2.cell2
      have E3 : w2.cell? ⟨b + 1, 3, none⟩ = some (.int .i64 0) := by rw [Lib.cell_of_heap E2]; rfl
      have E4 : w2.cell? ⟨b + 1, 4, none⟩ = some (.int .i64 0) := by rw [Lib.cell_of_heap E2]; rfl
      have E5 : w2.cell? ⟨b + 1, 5, none⟩ = some (.slice none 0 0) := by rw [Lib.cell_of_heap E2]; rfl
      have E6 : w2.cell? ⟨b + 1, 6, none⟩ = some (vstr []) := by rw [Lib.cell_of_heap E2]; rfl
      have E7 : w2.cell? ⟨b + 1, 7, none⟩ = some (.slice none 0 0) := by rw [Lib.cell_of_heap E2]; rfl
      have F : ∀ o, w2.frozen? ⟨b + 1, o, none⟩ = false := fun o => by
        have h' : w2.heap[b + 1]? = _ := E2
        simp [World.frozen?, h']
      have F0 := F 0
      have F1 := F 1
      have F2 := F 2
      have F3 := F 3
      have F4 := F 4
      have F5 := F 5
      have F6 := F 6
      have F7 := F 7
      have bx : Boxed (put8 w2 (b + 1) (vstr vs[i].id) (vstr sn) (vstr sj) (.int .i64 vs[i].date) (.int .i64 vs[i].state) (.slice la ln lc) (vstr vs[i].commit) (.slice ma mn mc)) b 9 (vstr id) := (put8_other w2 (b + 1) _ _ _ _ _ _ _ _ b (by omega)).trans i2
      have e8 := put8_eight E2 (vstr vs[i].id) (vstr sn) (vstr sj) (.int .i64 vs[i].date) (.int .i64 vs[i].state) (.slice la ln lc) (vstr vs[i].commit) (.slice ma mn mc)
      have x8 := put8_ext x12 (B := b + 1) (by omega) (vstr vs[i].id) (vstr sn) (vstr sj) (.int .i64 vs[i].date) (.int .i64 vs[i].state) (.slice la ln lc) (vstr vs[i].commit) (.slice ma mn mc)
      have h8 := (And.intro bx (And.intro e8.cell1 (And.intro e8.cell2 (And.intro (HT.out.ext x8) x8))))
      unfold put8 at h8
      have H := Lib.hid h8
      clear F hrow hfv bx e8 x8 h8 s1 s2
      go_wp2_with fail
      go_meet
      exact H.out
  case rest =>
    obtain ⟨i3, c1, c2, t3, x3⟩ := hcut
    have ci := i3.cell
    clear i2 E2 t2 x12
    go_upto_region 5 with fail
    go_region_held3 (fun w' => w'.cell? ⟨b, 0, none⟩ = some (vstr id) ∧ w'.cell? ⟨b + 1, 1, none⟩ = some (vstr sn) ∧ w'.cell? ⟨b + 1, 2, none⟩ = some (vstr sj) ∧ Tab w' ∧ Ext w w')
      (first
        | exact ⟨ci, c1, c2, t3.ext (Ext.drew (Ext.refl _)), x3.trans (Ext.drew (Ext.refl _))⟩
        | (go_split_ands
           exact ⟨xx.holds (by assumption), xx.holds (by assumption), xx.holds (by assumption), Tab.ext (by assumption) xx, Ext.trans (by assumption) xx⟩))
      (first
        | (go_at_call 26; go_split_ands; ((with_reducible refine (escape_any id _ (by omega) (by assumption)).mono ?_); rintro e w' ⟨rfl, xx⟩; rw [← HA.out]))
        | (go_at_call 26; go_split_ands; ((with_reducible refine (escape_any sn _ (by omega) (by assumption)).mono ?_); rintro e w' ⟨rfl, xx⟩; rw [← HB.out]))
        | (go_at_call 26; go_split_ands; ((with_reducible refine (escape_any sj _ (by omega) (by assumption)).mono ?_); rintro e w' ⟨rfl, xx⟩; rw [← HC.out])))
    all_goals
      go_split_ands
      go_wp2
      go_ret
      exact ⟨(congrArg (fun s => Ending.returned (Value.string s)) (cat6 A B C)).trans (by rw [HE.out]), by assumption⟩
end Go.Proofs.YtfkjjhfoncckcaaGreatDoor
