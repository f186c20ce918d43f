/- view.Read at the page of small. -/
import Derived.Test.YtfkjjhfoncckcaaGreatDoorVReadA
namespace Go.Proofs.YtfkjjhfoncckcaaGreatDoor
open Go.RowKit Go.Sort

/-- next at a rest of the page. -/
theorem nx {word rest s r : List UInt8} (h : nextS word rest = s ∧ nextR rest = r ∧ nextOk word rest = true) (p : Nat) (w : World) (hd : Rd w p rest false) (hl : rest.length ≤ 100) :
    Calls Tryz.prog 58 #[.pointer (some ⟨p, 0, none⟩), vstr word] w fun e w' => e = .returned (vstr s) ∧ Rd w' p r false ∧ But p w w' := by
  have := r_next p rest false word w hd (by omega)
  rw [h.1, h.2.1, h.2.2] at this
  exact this
theorem es {s u : List UInt8} (h : unescB s = some u) (hl : s.length ≤ 100) (p : Nat) (r : List UInt8) (w : World) (hd : Rd w p r false) (hT : Tab w) :
    Calls Tryz.prog 57 #[.pointer (some ⟨p, 0, none⟩), vstr s] w fun e w' => e = .returned (vstr u) ∧ Rd w' p r false ∧ But p w w' := by
  have := r_escaped p r false s w hd (by omega) hT
  rw [h] at this
  exact this
theorem hx {s u : List UInt8} (h : unhexB s = some u) (hl : s.length ≤ 100) (p : Nat) (r : List UInt8) (w : World) (hd : Rd w p r false) :
    Calls Tryz.prog 61 #[.pointer (some ⟨p, 0, none⟩), vstr s] w fun e w' => e = .returned (vstr u) ∧ Rd w' p r false ∧ But p w w' := by
  have := r_hex p r false s w hd (by omega)
  rw [h] at this
  exact this

/-- Where Read stands before its view lies. -/
structure RS0 (w : World) (rest : List UInt8) (W : World) : Prop where
  rv : Eight W w.heap.size (vstr []) (vstr []) (vstr []) (.int .i64 0) (.int .i64 0) (.slice none 0 0) (vstr []) (.slice none 0 0)
  rd : Rd W (w.heap.size + 1) rest false
  ext : Ext w W
  t : Tab w
theorem RS0.tab {w W : World} {rest : List UInt8} (h : RS0 w rest W) : Tab W := h.t.ext h.ext
theorem RS0.called {w W W' : World} {rest rest' : List UInt8} (h : RS0 w rest W) (r : Rd W' (w.heap.size + 1) rest' false) (b : But (w.heap.size + 1) W W') : RS0 w rest' W' :=
  ⟨(b.block _ h.rv.lt (by omega)).trans h.rv, r, b.ext h.ext (by omega), h.t⟩
theorem RS0.new {w : World} (hT : Tab w) (pg : List UInt8) : RS0 w pg ((w.alloc (.cells #[vstr [], vstr [], vstr [], .int .i64 0, .int .i64 0, .slice none 0 0, vstr [], .slice none 0 0] 43)).alloc (.cells #[vstr pg, .bool false] 107)) := by
  refine ⟨?_, ?_, ((Ext.refl w).alloc _).alloc _, hT⟩
  · exact Eight.ext ((Ext.refl _).alloc _) (heap_new w _)
  · have := heap_new (w.alloc (.cells #[vstr [], vstr [], vstr [], .int .i64 0, .int .i64 0, .slice none 0 0, vstr [], .slice none 0 0] 43)) (.cells #[vstr pg, .bool false] 107)
    rwa [World.size_alloc] at this
theorem RS0.view {w W : World} {rest : List UInt8} (h : RS0 w rest W) : RSt w W.heap.size none 0 0 [] none 0 0 [] rest (W.alloc (.cells #[vstr [105], vstr [], vstr [], .int .i64 0, .int .i64 0, .slice none 0 0, vstr [], .slice none 0 0] 43)) :=
  ⟨h.rv.ext ((Ext.refl _).alloc _), h.rd.ext ((Ext.refl _).alloc _), heap_new W _, (Array.getElem?_eq_some_iff.1 h.rd).1, World.ownsRow_nil _ _ _ _, World.ownsRow_nil _ _ _ _, h.ext.alloc _, h.t⟩

theorem has_sp (S : List UInt8) : Lib.hasPrefix (32 :: S) [32] = true := by simp [Lib.hasPrefix]
theorem trim_sp (S : List UInt8) : Lib.trimPrefix (32 :: S) [32] = S := by rw [Lib.trimPrefix, has_sp]; rfl
def lr : Nat → List UInt8
  | 0 => [32, 49, 32, 50]
  | 1 => [32, 50]
  | _ => []
def ls : Nat → List UInt8
  | 0 => [49, 32, 50]
  | _ => [50]
def lnum : Nat → List UInt8
  | 0 => [49]
  | _ => [50]
theorem lr_round (k : Nat) (hk : k < 2) : lr k = 32 :: ls k ∧ Lib.indexByte (ls k ++ [32]) 32 = 1 ∧ (ls k).take 1 = lnum k ∧ (ls k).drop 1 = lr (k + 1) ∧ IsNum (lnum k) (k + 1) ∧ 1 ≤ (ls k).length ∧ (ls k).length ≤ 3 := by
  obtain rfl | rfl : k = 0 ∨ k = 1 := by omega
  · exact ⟨rfl, by decide +kernel, rfl, rfl, sm_num1, by decide, by decide⟩
  · exact ⟨rfl, by decide +kernel, rfl, rfl, sm_num2, by decide, by decide⟩

def lp : Nat → List UInt8
  | 0 => sp7
  | 1 => sp8
  | _ => sp9
theorem lp_len (j : Nat) : (lp j).length ≤ 100 := by
  obtain ⟨_, _, _, _, _, _, _, l7, l8, l9⟩ := sp_len
  match j with
  | 0 => exact l7
  | 1 => exact l8
  | _ + 2 => exact l9
theorem lp_step (j : Nat) (hj : j < 2) : lp j ≠ sp9 ∧ (lp (j + 1)).length < (lp j).length := by
  rcases (show j = 0 ∨ j = 1 by omega) with rfl | rfl <;> decide +kernel
theorem shown_sm (p j : Nat) (hj : j < 2) (htp : 2 ≠ p) :
    ∃ x : ShownT, ∀ w, Rd w p (lp j) false → Tab w → Calls Tryz.prog 62 #[.pointer (some ⟨p, 0, none⟩)] w fun e w' => e = .returned (shownV x) ∧ Rd w' p (lp (j + 1)) false ∧ But p w w' := by
  have hl := lp_len j
  obtain rfl | rfl : j = 0 ∨ j = 1 := by omega
  · refine ⟨plainX sp7, fun w h hT => ?_⟩
    have := shown_plain p sp7 false w h (by exact Nat.le_trans hl (by decide)) sx7.1 hT htp
    rw [sx7.2, sn7.2.1] at this
    exact this
  · refine ⟨hidX sp8, fun w h hT => ?_⟩
    have := shown_hid p sp8 false w h (by exact Nat.le_trans hl (by decide)) sx8.1
    rw [sx8.2.1, sx8.2.2] at this
    exact this
theorem Tryz.info3 : (Tryz.prog.info? 3).map (fun i => (i.zero, i.size, i.bytes)) = some (some (.int .i64 0), 1, 8) := by kernel_rfl
theorem Tryz.info45 : (Tryz.prog.info? 45).map (fun i => (i.zero, i.size, i.bytes)) = some (some (.agg #[.bool false, .string ByteArray.empty, .string ByteArray.empty, .string ByteArray.empty]), 4, 56) := by kernel_rfl

def viewR (la na : Option Addr) (lc nc : Nat) : Value := .agg #[vstr [105], vstr [], vstr [], .int .i64 0, .int .i64 0, .slice na 2 nc, vstr [], .slice la 2 lc]
set_option maxHeartbeats 1000000 in
set_option maxRecDepth 100000 in
theorem read_small (w : World) (hT : Tab w) :
    Calls Tryz.prog 27 #[vstr sp0] w fun e w' => (∃ la lc na nc, e = .returned (.tuple #[viewR la na lc nc, .bool true])) ∧ Ext w w' := by
  obtain ⟨l0, l1, l2, l3, l4, l5, l6, l7, l8, l9⟩ := sp_len
  obtain ⟨W1, hW1⟩ : ∃ W1, W1 = (w.alloc (.cells #[vstr [], vstr [], vstr [], .int .i64 0, .int .i64 0, .slice none 0 0, vstr [], .slice none 0 0] 43)).alloc (.cells #[vstr sp0, .bool false] 107) := ⟨_, rfl⟩
  have R1 := RS0.new hT sp0
  rw [← hW1] at R1
  have H1 := Lib.hid R1
  have HW1 := Lib.hid hW1
  clear R1 hW1 hT
  obtain ⟨pg, hpg⟩ : ∃ pg, pg = sp0 := ⟨_, rfl⟩
  rw [← hpg] at HW1 ⊢
  have HPG := Lib.hid hpg
  clear hpg
  have M := Lib.hid (And.intro l0 (And.intro l1 (And.intro l2 (And.intro l3 (And.intro l4 (And.intro l5 (And.intro l6 (And.intro l7 l8))))))))
  clear l0 l1 l2 l3 l4 l5 l6 l7 l8 l9
  go_enter Tryz.func27, Tryz.ntmps27
  go_wp2_with fail
  rw [show (w.alloc (.cells #[.string ⟨#[]⟩, .string ⟨#[]⟩, .string ⟨#[]⟩, .int .i64 0, .int .i64 0, .slice none 0 0, .string ⟨#[]⟩, .slice none 0 0] 43)).alloc (.cells #[.string ⟨pg.toArray⟩, .bool false] 107) = W1 from HW1.out.symm]
  refine (nx sn0 _ W1 H1.out.rd M.out.1).mono ?_
  rintro e w2 ⟨rfl, r, b⟩
  have H2 := Lib.hid (H1.out.called r b)
  clear r b
  go_wp2_with fail
  refine (es su0.1 (by decide) _ sp1 w2 H2.out.rd H2.out.tab).mono ?_
  rintro e w3 ⟨rfl, r, b⟩
  have H3 := Lib.hid (H2.out.called r b)
  clear r b
  go_wp2_with fail
  refine (nx sn1 _ w3 H3.out.rd M.out.2.1).mono ?_
  rintro e w4 ⟨rfl, r, b⟩
  have H4 := Lib.hid (H3.out.called r b)
  clear r b
  go_wp2_with fail
  refine (es su0.2.1 (by decide) _ sp2 w4 H4.out.rd H4.out.tab).mono ?_
  rintro e w5 ⟨rfl, r, b⟩
  have H5 := Lib.hid (H4.out.called r b)
  clear r b
  go_wp2_with fail
  refine (nx sn2 _ w5 H5.out.rd M.out.2.2.1).mono ?_
  rintro e w6 ⟨rfl, r, b⟩
  have H6 := Lib.hid (H5.out.called r b)
  clear r b
  go_wp2_with fail
  refine (es su0.2.1 (by decide) _ sp3 w6 H6.out.rd H6.out.tab).mono ?_
  rintro e w7 ⟨rfl, r, b⟩
  have H7 := Lib.hid (H6.out.called r b)
  clear r b
  go_wp2_with fail
  refine (nx sn3 _ w7 H7.out.rd M.out.2.2.2.1).mono ?_
  rintro e w8 ⟨rfl, r, b⟩
  have H8 := Lib.hid (H7.out.called r b)
  clear r b
  go_wp2_with fail
  refine (r_number _ sp4 false [48] 0 w8 H8.out.rd sm_num0 H8.out.tab).mono ?_
  rintro e w9 ⟨rfl, r, b⟩
  have H9 := Lib.hid (H8.out.called r b)
  clear r b
  go_wp2_with fail
  refine (nx sn4 _ w9 H9.out.rd M.out.2.2.2.2.1).mono ?_
  rintro e w10 ⟨rfl, r, b⟩
  have H10 := Lib.hid (H9.out.called r b)
  clear r b
  go_wp2_with fail
  refine (r_number _ sp5 false [48] 0 w10 H10.out.rd sm_num0 H10.out.tab).mono ?_
  rintro e w11 ⟨rfl, r, b⟩
  have H11 := Lib.hid (H10.out.called r b)
  clear r b
  go_wp2_with fail
  obtain ⟨W2, hW2⟩ : ∃ W2, W2 = w11.alloc (.cells #[vstr [105], vstr [], vstr [], .int .i64 0, .int .i64 0, .slice none 0 0, vstr [], .slice none 0 0] 43) := ⟨_, rfl⟩
  have r := H11.out.view
  rw [← hW2] at r
  rw [show w11.alloc (.cells #[.string ⟨#[105]⟩, .string ⟨#[]⟩, .string ⟨#[]⟩, .int .i64 0, .int .i64 0, .slice none 0 0, .string ⟨#[]⟩, .slice none 0 0] 43) = W2 from hW2.symm]
  obtain ⟨V, hV⟩ : ∃ V, V = w11.heap.size := ⟨_, rfl⟩
  rw [← hV] at r ⊢
  have S2 := Lib.hid r
  clear r hV hW2
  refine (nx sn5 _ W2 S2.out.rd M.out.2.2.2.2.2.1).mono ?_
  rintro e w12 ⟨rfl, r, b⟩
  have S3 := Lib.hid (S2.out.called b r)
  clear r b
  go_wp2_with fail
  go_loopw [6] (fun s wr => ∃ k : Nat, k ≤ 2 ∧ s = vstr (lr k) ∧ ∃ la lc xs, RSt w V la k lc xs none 0 0 [] sp6 wr) (fun s _ => strLen s)
  case atStart => exact ⟨0, by omega, rfl, _, _, _, S3.out⟩
  case round =>
    obtain ⟨k, hk, rfl, la, lc, xs, hR⟩ := hrel
    clear HW1 H1 H2 H3 H4 H5 H6 H7 H8 H9 H10 H11 S2 S3
    by_cases hlt : k < 2
    · obtain ⟨g0, g1, g2, g3, g4, g5, g6⟩ := lr_round k hlt
      obtain ⟨S, hS⟩ : ∃ S, S = ls k := ⟨_, rfl⟩
      obtain ⟨N, hN⟩ : ∃ N, N = lnum k := ⟨_, rfl⟩
      obtain ⟨L', hL'⟩ : ∃ L', L' = lr (k + 1) := ⟨_, rfl⟩
      rw [← hS] at g0 g1 g2 g3 g5 g6
      rw [← hN] at g2 g4
      rw [← hL'] at g3
      rw [g0]
      have c1 := hR.rd.cell1
      have f1 := hR.rd.frozen 1
      have G1 := Lib.hid g1
      have G2 := Lib.hid g2
      have G3 := Lib.hid g3
      have G4 := Lib.hid g4
      have HL := Lib.hid hL'
      have HR := Lib.hid hR
      clear g0 g1 g2 g3 g4 hL' hS hN hR
      go_wp2_with fail
      refine (Tryz.strings_CutPrefix ⟨(32 :: S).toArray⟩ ⟨#[32]⟩ wr).mono ?_
      rintro e w2 ⟨rfl, rfl⟩
      rw [show Lib.trimPrefix (⟨(32 :: S).toArray⟩ : ByteArray).data.toList (⟨#[32]⟩ : ByteArray).data.toList = S from trim_sp S, show Lib.hasPrefix (⟨(32 :: S).toArray⟩ : ByteArray).data.toList (⟨#[32]⟩ : ByteArray).data.toList = true from has_sp S]
      have z1 : ¬ 9223372036854775807 < S.length + 1 := by omega
      go_wp2_with fail
      rw [show (⟨S.toArray⟩ : ByteArray) ++ ⟨#[32]⟩ = ⟨(S ++ [32]).toArray⟩ from mk_cat S [32]]
      refine (idx_l (S ++ [32]) 32 _).mono ?_
      rintro e w2 ⟨rfl, rfl⟩
      rw [G1.out]
      go_upto_region 8 with fail
      obtain ⟨W3, hW3⟩ : ∃ W3, W3 = w2.setCell ⟨w.heap.size + 1, 1, none⟩ (.bool false) := ⟨_, rfl⟩
      rw [← hW3]
      have R3 := HR.out.bad
      rw [← hW3] at R3
      have c7 := R3.v.cells.2.2.2.2
      have R3d := Lib.hid (R3.upon ((Ext.refl W3).drew))
      have z2 : (1 : Int) ≤ S.length := by omega
      have z3 : 1 ≤ S.length := g5
      have HC : Hid (∀ W, RSt w V la k lc xs none 0 0 [] sp6 W → Calls Tryz.prog 59 #[.pointer (some ⟨w.heap.size + 1, 0, none⟩), .string ((⟨S.toArray⟩ : ByteArray).extract 0 1)] W fun e w' => e = .returned (.int .i64 ((k : Int) + 1)) ∧ RSt w V la k lc xs none 0 0 [] sp6 w') := Lib.hid fun W hR => by
        rw [mk_extract_take, G2.out]
        exact (r_number _ sp6 false N _ W hR.rd G4.out hR.tab).mono fun e w' ⟨he, r, b⟩ => ⟨he, hR.called b r⟩
      clear hW3 HR c1 f1 R3
      obtain ⟨i1, hi, hz0, hz1, hz2⟩ := info_parts Tryz.info3
      have mixed : Tryz.prog.follows .mixedOrders = true := by kernel_rfl
      go_region_law (first
        | (refine step_append_lies _ rfl (.tmp 65) (.tmp 71) 41 rfl (V + 1) 3 i1 (.int .i64 0) 1 8 Tryz.underlying41 hi hz0 hz1 hz2 rfl (by decide) _ _ _ rfl (R4.upon ((Ext.refl w4).alloc _)).o1 ⟨w4.heap.size, 0, none⟩ 1 1 [.int .i64 ((k : Int) + 1)] rfl rfl (by intro j u hj; rw [addr_add0, World.cell?_alloc_mark]; simpa using hj) (by simp [Value.oneCell']) (by decide) (by unfold maxLen; omega) (by omega) (by have := R4.v.lt; simp; omega) (w4.heap.size + 1) (by simp) ?_; intro g' cap' w5 hown5 hgrow hat hlt5; obtain ⟨v5, RN⟩ := R4.app1 _ hown5 hgrow; have d7 := v5.cells.2.2.2.2; have f7 := v5.frozen 7)
        | (go_simp; go_at_call 59; refine (HC.out _ R3d.out).mono ?_; rintro e w4 ⟨rfl, R4⟩; have c47 := R4.v.cells.2.2.2.2; have c47a := (Ext.alloc (Ext.refl w4) (.cells #[.int .i64 ((k : Int) + 1)] 3)).holds c47))
      all_goals
        have RNh := Lib.hid RN
        clear RN v5 R4 hown5 hgrow hat hlt5 c47a c47 d7 f7 c7
        go_wp2
        go_roundw
        case rel => exact ⟨k + 1, by omega, by rw [mk_extract_drop, G3.out, HL.out], _, _, _, RNh.out⟩
        case measure => rw [mk_extract_drop]; show (S.drop 1).length < (32 :: S).length; simp; omega
    · obtain rfl : k = 2 := by omega
      rw [show lr 2 = [] from rfl]
      have HR := Lib.hid hR
      clear hR hk hlt
      go_wp2_with fail
      refine (nx sn6 _ wr HR.out.rd M.out.2.2.2.2.2.2.1).mono ?_
      rintro e w2 ⟨rfl, r, b⟩
      have S4 := Lib.hid (HR.out.called b r)
      clear r b HR
      go_wp2_with fail
      refine (hx su0.2.2 (by decide) _ sp7 w2 S4.out.rd).mono ?_
      rintro e w3 ⟨rfl, r, b⟩
      have S5 := S4.out.called b r
      have c6 := S5.v.cells.2.2.2.1
      have f6 := S5.v.frozen 6
      have S6 := Lib.hid S5.put6
      clear r b S4 S5
      go_wp2_with fail
      go_loopw [] (fun wr => ∃ (j : Nat) (na : Option Addr) (nc : Nat) (ys : List Value), j ≤ 2 ∧ RSt w V la 2 lc xs na j nc ys (lp j) wr) (fun wr => match wr.cell? ⟨w.heap.size + 1, 0, none⟩ with | some (.string s) => s.size | _ => 0)
      case atStart => exact ⟨0, _, _, _, by omega, S6.out⟩
      case round =>
        obtain ⟨j, na, nc, ys, hj, hR⟩ := hrel
        clear S6 c6 f6
        have c0 := hR.rd.cell0
        have c1 := hR.rd.cell1
        have HR := Lib.hid hR
        clear hR
        by_cases hlt : j < 2
        · obtain ⟨q0, q1⟩ := lp_step j hlt
          obtain ⟨L, hL⟩ : ∃ L, L = lp j := ⟨_, rfl⟩
          rw [← hL] at q0 q1 c0
          have q2 : (L == [101, 110, 100, 10]) = false := beq_eq_false_iff_ne.2 q0
          have HL := Lib.hid hL
          have Q1 := Lib.hid q1
          clear q0 q1 hL
          go_upto_region 12 with fail
          have c5 := HR.out.v.cells.2.2.1
          have R3d := Lib.hid (HR.out.upon ((Ext.refl wr).drew))
          have htp : 2 ≠ w.heap.size + 1 := by have := HR.out.t.lt; omega
          have HC : Hid (∃ x : ShownT, ∀ W, RSt w V la 2 lc xs na j nc ys (lp j) W → Calls Tryz.prog 62 #[.pointer (some ⟨w.heap.size + 1, 0, none⟩)] W fun e w' => e = .returned (.agg #[.bool x.hid, vstr x.salt, vstr x.text, vstr x.hash]) ∧ RSt w V la 2 lc xs na j nc ys (lp (j + 1)) w') := Lib.hid (by
            obtain ⟨x, hx⟩ := shown_sm (w.heap.size + 1) j hlt htp
            exact ⟨x, fun W hR => (hx W hR.rd hR.tab).mono fun e w' ⟨he, r, b⟩ => ⟨he, hR.called b r⟩⟩)
          obtain ⟨x, hx⟩ := HC.out
          have HCx := Lib.hid hx
          have C0 := Lib.hid c0
          clear hx HC htp HR c0 c1 q2
          obtain ⟨i1, hi, hz0, hz1, hz2⟩ := info_parts Tryz.info45
          have mixed : Tryz.prog.follows .mixedOrders = true := by kernel_rfl
          go_region_law (first
            | (refine step_append_lies _ rfl (.tmp 95) (.tmp 98) 40 rfl (V + 1) 45 i1 (.agg #[.bool false, .string ByteArray.empty, .string ByteArray.empty, .string ByteArray.empty]) 4 56 Tryz.underlying40 hi hz0 hz1 hz2 rfl (by decide) _ _ _ rfl (R4.upon ((Ext.refl w4).alloc _)).o2 ⟨w4.heap.size, 0, none⟩ 1 1 [.bool x.hid, vstr x.salt, vstr x.text, vstr x.hash] rfl rfl (by intro j u hj; rw [addr_add0, World.cell?_alloc_mark]; simpa using hj) (by simp [Value.oneCell']) (by decide) (by unfold maxLen; omega) (by omega) (by have := R4.v.lt; simp; omega) (w4.heap.size + 1) (by simp) ?_; intro g' cap' w5 hown5 hgrow hat hlt5; obtain ⟨v5, RN⟩ := R4.app2 _ hown5 hgrow; have d5 := v5.cells.2.2.1; have f5 := v5.frozen 5)
            | (go_simp; go_at_call 62; refine (HCx.out _ R3d.out).mono ?_; rintro e w4 ⟨rfl, R4⟩; have c45 := R4.v.cells.2.2.1; have c45a := (Ext.alloc (Ext.refl w4) (.cells #[.bool x.hid, vstr x.salt, vstr x.text, vstr x.hash] 45)).holds c45))
          all_goals
            have RNh := Lib.hid RN
            clear RN v5 R4 hown5 hgrow hat hlt5 c45a c45 d5 f5 c5
            go_wp2
            go_roundw
            case rel => exact ⟨j + 1, _, _, _, by omega, RNh.out⟩
            case measure => (have e1 := RNh.out.rd.cell0); (have e2 := C0.out); simp only [e1, e2]; exact Q1.out
        · obtain rfl : j = 2 := by omega
          rw [show lp 2 = [101, 110, 100, 10] from rfl] at c0
          have k4 := HR.out.rv
          have v0 := HR.out.v.cell0
          have v1 := HR.out.v.cell1
          have v2 := HR.out.v.cell2
          obtain ⟨v3, v4, v5, v6, v7⟩ := HR.out.v.cells
          have g0 := k4.cell0
          have g1 := k4.cell1
          have g2 := k4.cell2
          obtain ⟨g3, g4, g5, g6, g7⟩ := k4.cells
          have z0 := k4.frozen 0
          have z1 := k4.frozen 1
          have z2 := k4.frozen 2
          have z3 := k4.frozen 3
          have z4 := k4.frozen 4
          have z5 := k4.frozen 5
          have z6 := k4.frozen 6
          have z7 := k4.frozen 7
          have k5 := put8_eight k4 (vstr [105]) (vstr []) (vstr []) (.int .i64 0) (.int .i64 0) (.slice na 2 nc) (vstr []) (.slice la 2 lc)
          have x5 := put8_ext HR.out.ext (Nat.le_refl _) (vstr [105]) (vstr []) (vstr []) (.int .i64 0) (.int .i64 0) (.slice na 2 nc) (vstr []) (.slice la 2 lc)
          have r0 := k5.cell0
          have r1 := k5.cell1
          have r2 := k5.cell2
          obtain ⟨r3, r4, r5, r6, r7⟩ := k5.cells
          unfold put8 at r0 r1 r2 r3 r4 r5 r6 r7 x5
          have X5 := Lib.hid x5
          have Q0 := Lib.hid (And.intro r0 (And.intro r1 (And.intro r2 (And.intro r3 (And.intro r4 (And.intro r5 (And.intro r6 r7)))))))
          clear r0 r1 r2 r3 r4 r5 r6 r7 x5 k5 k4
          go_wp2
          obtain ⟨r0, r1, r2, r3, r4, r5, r6, r7⟩ := Q0.out
          clear g0 g1 g2 g3 g4 g5 g6 g7 z0 z1 z2 z3 z4 z5 z6 z7 v0 v1 v2 v3 v4 v5 v6 v7
          refine bodyPost_ret (v := .tuple #[viewR la na lc nc, .bool true]) (by simp [viewR, results, Tryz.results27, go_sem, r0, r1, r2, r3, r4, r5, r6, r7]) rfl ?_
          exact ⟨⟨_, _, _, _, rfl⟩, X5.out⟩
end Go.Proofs.YtfkjjhfoncckcaaGreatDoor
