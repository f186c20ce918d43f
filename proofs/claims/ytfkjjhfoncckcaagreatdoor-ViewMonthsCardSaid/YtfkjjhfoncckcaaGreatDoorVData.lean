/- Views, nodes and lines in the heap. -/
import Derived.Test.YtfkjjhfoncckcaaGreatDoorVLine
namespace Go.Proofs.YtfkjjhfoncckcaaGreatDoor
open Go.RowKit Go.Sort

/-- A shown line. -/
structure ShownT where
  hid : Bool
  salt : List UInt8
  text : List UInt8
  hash : List UInt8
/-- A view. -/
structure ViewT where
  id : List UInt8
  sender : List UInt8
  subject : List UInt8
  date : Int
  state : Int
  lines : List ShownT
  commit : List UInt8
  lists : List Int
/-- A node. -/
structure NodeT where
  id : List UInt8
  ghost : Bool
  parent : Int
  depth : Int
/-- A slice of n elements of k cells each; f says what lies at the i-th. -/
def RowAt (k n : Nat) (f : Nat → Nat → Nat → Prop) (v : Value) : Prop :=
  ∃ a c, v = .slice a n c ∧ n ≤ c ∧ (n = 0 ∨ ∃ b o, a = some ⟨b, o, none⟩ ∧ ∀ i, i < n → f i b (o + i * k))
theorem RowAt.mono {k n : Nat} {f g : Nat → Nat → Nat → Prop} {v : Value} (h : RowAt k n f v) (hm : ∀ i b o, i < n → f i b o → g i b o) : RowAt k n g v := by
  obtain ⟨a, c, hv, hc, h⟩ := h
  refine ⟨a, c, hv, hc, ?_⟩
  rcases h with h | ⟨b, o, ha, h⟩
  · exact .inl h
  · exact .inr ⟨b, o, ha, fun i hi => hm _ _ _ hi (h i hi)⟩
def ShownAt (W : World) (q : ShownT) (b o : Nat) : Prop :=
  W.cell? ⟨b, o, none⟩ = some (.bool q.hid) ∧ W.cell? ⟨b, o + 1, none⟩ = some (vstr q.salt) ∧ W.cell? ⟨b, o + 2, none⟩ = some (vstr q.text) ∧ W.cell? ⟨b, o + 3, none⟩ = some (vstr q.hash)
theorem ShownAt.ext {W W' : World} (x : Ext W W') {q : ShownT} {b o : Nat} (h : ShownAt W q b o) : ShownAt W' q b o := ⟨x.holds h.1, x.holds h.2.1, x.holds h.2.2.1, x.holds h.2.2.2⟩
def ShownsAt (W : World) (ls : List ShownT) (v : Value) : Prop := RowAt 4 ls.length (fun i b o => ∀ h : i < ls.length, ShownAt W ls[i] b o) v
theorem ShownsAt.ext {W W' : World} (x : Ext W W') {ls : List ShownT} {v : Value} (h : ShownsAt W ls v) : ShownsAt W' ls v := RowAt.mono h fun _ _ _ _ k hi => (k hi).ext x
def IntsAt (W : World) (ls : List Int) (v : Value) : Prop := RowAt 1 ls.length (fun i b o => ∀ h : i < ls.length, W.cell? ⟨b, o, none⟩ = some (.int .i64 ls[i])) v
theorem IntsAt.ext {W W' : World} (x : Ext W W') {ls : List Int} {v : Value} (h : IntsAt W ls v) : IntsAt W' ls v := RowAt.mono h fun _ _ _ _ k hi => x.holds (k hi)
/-- A view's eight values. -/
def ViewVal (W : World) (q : ViewT) (v : Value) : Prop :=
  ∃ la ln lc ma mn mc, v = .agg #[vstr q.id, vstr q.sender, vstr q.subject, .int .i64 q.date, .int .i64 q.state, .slice la ln lc, vstr q.commit, .slice ma mn mc] ∧ ShownsAt W q.lines (.slice la ln lc) ∧ IntsAt W q.lists (.slice ma mn mc)
theorem ViewVal.ext {W W' : World} (x : Ext W W') {q : ViewT} {v : Value} (h : ViewVal W q v) : ViewVal W' q v := by
  obtain ⟨la, ln, lc, ma, mn, mc, hv, h1, h2⟩ := h
  exact ⟨la, ln, lc, ma, mn, mc, hv, h1.ext x, h2.ext x⟩
def ViewAt (W : World) (q : ViewT) (b o : Nat) : Prop :=
  ∃ la ln lc ma mn mc, W.cell? ⟨b, o, none⟩ = some (vstr q.id) ∧ W.cell? ⟨b, o + 1, none⟩ = some (vstr q.sender) ∧ W.cell? ⟨b, o + 2, none⟩ = some (vstr q.subject) ∧ W.cell? ⟨b, o + 3, none⟩ = some (.int .i64 q.date) ∧ W.cell? ⟨b, o + 4, none⟩ = some (.int .i64 q.state) ∧
    W.cell? ⟨b, o + 5, none⟩ = some (.slice la ln lc) ∧ W.cell? ⟨b, o + 6, none⟩ = some (vstr q.commit) ∧ W.cell? ⟨b, o + 7, none⟩ = some (.slice ma mn mc) ∧ ShownsAt W q.lines (.slice la ln lc) ∧ IntsAt W q.lists (.slice ma mn mc)
theorem ViewAt.ext {W W' : World} (x : Ext W W') {q : ViewT} {b o : Nat} (h : ViewAt W q b o) : ViewAt W' q b o := by
  obtain ⟨la, ln, lc, ma, mn, mc, h0, h1, h2, h3, h4, h5, h6, h7, h8, h9⟩ := h
  exact ⟨la, ln, lc, ma, mn, mc, x.holds h0, x.holds h1, x.holds h2, x.holds h3, x.holds h4, x.holds h5, x.holds h6, x.holds h7, h8.ext x, h9.ext x⟩
def ViewsAt (W : World) (qs : List ViewT) (v : Value) : Prop := RowAt 8 qs.length (fun i b o => ∀ h : i < qs.length, ViewAt W qs[i] b o) v
theorem ViewsAt.ext {W W' : World} (x : Ext W W') {qs : List ViewT} {v : Value} (h : ViewsAt W qs v) : ViewsAt W' qs v := RowAt.mono h fun _ _ _ _ k hi => (k hi).ext x
def NodeAt (W : World) (q : NodeT) (b o : Nat) : Prop :=
  W.cell? ⟨b, o, none⟩ = some (vstr q.id) ∧ W.cell? ⟨b, o + 1, none⟩ = some (.bool q.ghost) ∧ W.cell? ⟨b, o + 2, none⟩ = some (.int .i64 q.parent) ∧ W.cell? ⟨b, o + 3, none⟩ = some (.int .i64 q.depth)
theorem NodeAt.ext {W W' : World} (x : Ext W W') {q : NodeT} {b o : Nat} (h : NodeAt W q b o) : NodeAt W' q b o := ⟨x.holds h.1, x.holds h.2.1, x.holds h.2.2.1, x.holds h.2.2.2⟩
def NodesAt (W : World) (qs : List NodeT) (v : Value) : Prop := RowAt 4 qs.length (fun i b o => ∀ h : i < qs.length, NodeAt W qs[i] b o) v
theorem NodesAt.ext {W W' : World} (x : Ext W W') {qs : List NodeT} {v : Value} (h : NodesAt W qs v) : NodesAt W' qs v := RowAt.mono h fun _ _ _ _ k hi => (k hi).ext x

/-! ### The index of a view -/
def idxV (p : ViewT → Bool) (l : List ViewT) : Int := match l.findIdx? p with | some i => i | none => -1
set_option maxHeartbeats 1000000 in
set_option maxRecDepth 100000 in
theorem indexFunc_views (g : Nat) (lb : Array Value) (eg : ∀ args w, (callFunc g args).run Tryz.prog w = .ok (.enter g args) w) (p : ViewT → Bool)
    (qs : List ViewT) (v : Value) (w : World) (hv : ViewsAt w qs v) (hl : qs.length ≤ 1073741824)
    (hf : ∀ (W : World) (q : ViewT) (u : Value), ViewVal W q u → Ext w W → Calls Tryz.prog g (#[u] ++ lb) W fun e w' => e = .returned (.bool (p q)) ∧ Ext W w') :
    Calls Tryz.prog 68 #[v, .func (.func g) #[] lb] w fun e w' => e = .returned (.int .i64 (idxV p qs)) ∧ Ext w w' := by
  obtain ⟨a, c, rfl, hc, hr⟩ := hv
  have Hr := Lib.hid hr
  have Hf := Lib.hid hf
  clear hr hf
  go_enter Tryz.func68, Tryz.ntmps68
  go_wp2
  go_loopw [5, 8] (fun _ i wr => ∃ k : Nat, k ≤ qs.length ∧ i = .int .i64 k ∧ (∀ j (hj : j < qs.length), j < k → p qs[j] = false) ∧ Ext w wr) (fun _ i _ => qs.length - (intOf i).toNat)
  case atStart => exact ⟨0, Nat.zero_le _, rfl, fun j _ hj => absurd hj (Nat.not_lt_zero _), Ext.refl w⟩
  case round =>
    obtain ⟨k, hk, rfl, hp, hx⟩ := hrel
    have Hp := Lib.hid hp
    clear hp
    by_cases hlt : k < qs.length
    · rcases Hr.out with h0 | ⟨b, o, ha, hrow⟩
      · omega
      · subst ha
        obtain ⟨la, ln, lc, ma, mn, mc, h0, h1, h2, h3, h4, h5, h6, h7, h8, h9⟩ := (hrow k hlt hlt).ext hx
        have HV := Lib.hid (show ViewVal wr qs[k] (.agg #[vstr qs[k].id, vstr qs[k].sender, vstr qs[k].subject, .int .i64 qs[k].date, .int .i64 qs[k].state, .slice la ln lc, vstr qs[k].commit, .slice ma mn mc]) from ⟨la, ln, lc, ma, mn, mc, rfl, h8, h9⟩)
        have Hrow := Lib.hid hrow
        clear hrow h8 h9
        go_wp2_with fail
        have hcall := Hf.out wr qs[k] _ HV.out hx
        by_cases hpk : p qs[k] = true
        · refine hcall.mono ?_
          rintro e w1 ⟨rfl, x1⟩
          rw [hpk]
          clear hcall
          go_wp2
          go_ret
          refine ⟨ret_int ?_, hx.trans x1⟩
          rw [idxV, List.findIdx?_eq_some_iff_getElem.2 ⟨hlt, hpk, fun j hj => by simpa using Hp.out j (by omega) hj⟩]
        · have hpk' : p qs[k] = false := by simpa using hpk
          refine hcall.mono ?_
          rintro e w1 ⟨rfl, x1⟩
          rw [hpk']
          clear hcall
          go_wp2
          go_roundw
          case rel => exact ⟨k + 1, by omega, by go_num, fun j hj hjk => by
            by_cases e : j = k
            · subst e; exact hpk'
            · exact Hp.out j hj (by omega), hx.trans x1⟩
          case measure => simp [intOf]; omega
    · obtain rfl : k = qs.length := by omega
      clear Hr
      go_wp2
      go_ret
      refine ⟨ret_int ?_, hx⟩
      rw [idxV, List.findIdx?_eq_none_iff.2 fun x hx => by
        obtain ⟨j, hj, rfl⟩ := List.getElem_of_mem hx
        exact Hp.out j hj hj]
theorem entry1_any (id : List UInt8) (b : Nat) (q : ViewT) (u : Value) (W : World) (hq : ViewVal W q u) (hb : W.cell? ⟨b, 0, none⟩ = some (vstr id)) :
    Calls Tryz.prog 69 #[u, .pointer (some ⟨b, 0, none⟩)] W fun e w' => e = .returned (.bool (q.id == id)) ∧ Ext W w' := by
  obtain ⟨la, ln, lc, ma, mn, mc, rfl, h1, h2⟩ := hq
  clear h1 h2
  have hb2 := ((Ext.refl W).alloc (.cells #[vstr q.id, vstr q.sender, vstr q.subject, .int .i64 q.date, .int .i64 q.state, .slice la ln lc, vstr q.commit, .slice ma mn mc] 43)).holds hb
  go_enter Tryz.func69, Tryz.ntmps69
  go_wp2
  go_ret
  refine ⟨ret_bool ?_, (Ext.refl _).alloc _⟩
  simp
end Go.Proofs.YtfkjjhfoncckcaaGreatDoor
