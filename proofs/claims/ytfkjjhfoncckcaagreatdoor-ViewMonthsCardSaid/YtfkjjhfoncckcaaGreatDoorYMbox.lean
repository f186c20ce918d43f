/- view.Mbox of one view. -/
import Derived.Test.YtfkjjhfoncckcaaGreatDoorYText
import Derived.Test.YtfkjjhfoncckcaaGreatDoorVReadA
import Derived.Deep.AppendLies
import Derived.Deep.RegionHeldLaw
import Derived.Deep.DeepCutAuto
namespace Go.Proofs.YtfkjjhfoncckcaaGreatDoor
open Go.RowKit Go.Sort

theorem Tryz.info50 : (Tryz.prog.info? 50).map (fun i => (i.zero, i.size, i.bytes)) = some (some (.agg #[.string ByteArray.empty, .int .i64 0, .string ByteArray.empty]), 3, 40) := by kernel_rfl
/-- A view's date, without its milliseconds. -/
def secI (d : Int) : Int := if d.tmod 1000 < 0 then IntKind.i64.wrap (d.tmod 1000 + 1000) else d.tmod 1000
def mdate (d : Int) : Int := IntKind.i64.wrap (d - secI d)
set_option maxHeartbeats 1000000 in
set_option maxRecDepth 100000 in
theorem mbox_one (q : ViewT) (v : Value) (w : World) (h : ViewsAt w [q] v) (hl : q.lines.length ≤ 1073741824) (ht : (textB q.lines).length ≤ 1073741824) :
    Calls Tryz.prog 15 #[v] w fun e w' => (∃ g cap, e = .returned (.slice (some ⟨g, 0, none⟩) 1 cap) ∧ w'.cell? ⟨g, 0, none⟩ = some (vstr q.sender) ∧ w'.cell? ⟨g, 1, none⟩ = some (.int .i64 (mdate q.date)) ∧ w'.cell? ⟨g, 2, none⟩ = some (vstr (textB q.lines))) ∧ Ext w w' := by
  obtain ⟨a, c, rfl, hc, hr⟩ := h
  obtain ⟨b, o, ha, hrow⟩ : ∃ b o, a = some ⟨b, o, none⟩ ∧ ViewAt w q b o := by
    rcases hr with h0 | ⟨b, o, ha, hrow⟩
    · cases h0
    · exact ⟨b, o, ha, by have := hrow 0 Nat.one_pos Nat.one_pos; simpa using this⟩
  subst ha
  have Hr := Lib.hid hrow
  clear hr hrow
  have e1 : ([q] : List ViewT).length = 1 := rfl
  rw [e1] at hc ⊢
  clear e1
  go_enter Tryz.func15, Tryz.ntmps15
  go_wp2_with fail
  go_loopw [3, 9] (fun ov i wr => (i = .int .i64 0 ∧ (∃ oa oc, ov = .slice oa 0 oc ∧ oa = none ∧ oc = 0) ∧ wr = w) ∨ (i = .int .i64 1 ∧ (∃ g cap, ov = .slice (some ⟨g, 0, none⟩) 1 cap ∧ wr.cell? ⟨g, 0, none⟩ = some (vstr q.sender) ∧ wr.cell? ⟨g, 1, none⟩ = some (.int .i64 (mdate q.date)) ∧ wr.cell? ⟨g, 2, none⟩ = some (vstr (textB q.lines))) ∧ Ext w wr)) (fun _ i _ => 1 - (intOf i).toNat)
  case atStart => exact .inl ⟨rfl, ⟨none, 0, rfl, rfl, rfl⟩, rfl⟩
  case round =>
    rcases hrel with ⟨rfl, ⟨oa, oc, rfl, ho1, ho2⟩, rfl⟩ | ⟨rfl, ⟨g, cap, rfl, k0, k1, k2⟩, hx⟩
    · obtain ⟨la, ln, lc, ma, mn, mc, h0, h1, h2, h3, h4, h5, h6, h7, hS, hI⟩ := Hr.out
      have HS := Lib.hid hS
      have HO : Hid (∀ (W : World) (base : Nat) (e : TypeId) (size : Nat), W.ownsRow base e size (.slice oa 0 oc) 0 []) := Lib.hid fun W base e size => by rw [ho1, ho2]; exact World.ownsRow_nil _ _ _ _
      have HN : Hid ((Value.slice oa 0 oc).ownBlock = none) := Lib.hid (by rw [ho1]; rfl)
      clear hI hS ho1 ho2
      go_upto_if 17 with fail
      obtain ⟨W1, hW1⟩ : ∃ W1, W1 = wr.alloc (.cells #[vstr q.id, vstr q.sender, vstr q.subject, .int .i64 q.date, .int .i64 q.state, .slice la ln lc, vstr q.commit, .slice ma mn mc] 43) := ⟨_, rfl⟩
      rw [show wr.alloc (.cells #[.string ⟨q.id.toArray⟩, .string ⟨q.sender.toArray⟩, .string ⟨q.subject.toArray⟩, .int .i64 q.date, .int .i64 q.state, .slice la ln lc, .string ⟨q.commit.toArray⟩, .slice ma mn mc] 43) = W1 from hW1.symm]
      obtain ⟨B, hB⟩ : ∃ B, B = wr.heap.size := ⟨_, rfl⟩
      have e8 : Eight W1 B (vstr q.id) (vstr q.sender) (vstr q.subject) (.int .i64 q.date) (.int .i64 q.state) (.slice la ln lc) (vstr q.commit) (.slice ma mn mc) := by rw [hW1, hB]; exact heap_new wr _
      have x1 : Ext wr W1 := by rw [hW1]; exact (Ext.refl wr).alloc _
      rw [← hB]
      have HB := Lib.hid hB
      have X1 := Lib.hid x1
      have HS1 := Lib.hid (HS.out.ext x1)
      clear hW1 h0 h1 h2 h3 h4 h5 h6 h7 hB x1
      go_cut [6, 17] (fun s _ wx => s = .int .i64 (secI q.date) ∧ wx = W1)
      case first =>
        by_cases h : q.date.tmod 1000 < 0
        · have e : secI q.date = IntKind.i64.wrap (q.date.tmod 1000 + 1000) := if_pos h
          have HE := Lib.hid e
          clear e
          go_wp2_with fail
          go_meet
          exact ⟨by rw [HE.out, IntKind.wrap_i64, wrap64], rfl⟩
        · have e : secI q.date = q.date.tmod 1000 := if_neg h
          have HE := Lib.hid e
          clear e
          go_wp2_with fail
          go_meet
          exact ⟨by rw [HE.out], rfl⟩
      case rest =>
        obtain ⟨rfl, rfl⟩ := hcut
        obtain ⟨S, hS⟩ : ∃ S, S = secI q.date := ⟨_, rfl⟩
        have hD : mdate q.date = IntKind.i64.wrap (q.date - S) := by rw [mdate, hS]
        rw [← hS]
        have HD := Lib.hid hD
        clear hS hD
        have c1 := e8.cell1
        obtain ⟨c3, _, c5, _, _⟩ := e8.cells
        have E8 := Lib.hid e8
        obtain ⟨aS, cS, hvS, _, _⟩ := HS1.out
        obtain ⟨rfl, rfl, rfl⟩ : la = aS ∧ ln = q.lines.length ∧ lc = cS := by cases hvS; exact ⟨rfl, rfl, rfl⟩
        clear hvS e8
        go_upto_region 8 with fail
        obtain ⟨i1, hi, hz0, hz1, hz2⟩ := info_parts Tryz.info50
        have mixed : Tryz.prog.follows .mixedOrders = true := by kernel_rfl
        go_region_law (first
          | (refine step_append_lies _ rfl (.tmp 20) (.tmp 31) 46 rfl 0 50 i1 (.agg #[.string ByteArray.empty, .int .i64 0, .string ByteArray.empty]) 3 40 Tryz.underlying46 hi hz0 hz1 hz2 rfl (by decide) (.slice oa 0 oc) 0 [] rfl (HO.out _ _ _ _) ⟨w4.heap.size, 0, none⟩ 1 1 [vstr q.sender, .int .i64 (IntKind.i64.wrap (q.date - S)), vstr (textB q.lines)] rfl rfl (by intro j u hj; rw [addr_add0, World.cell?_alloc_mark]; simpa using hj) (by simp [Value.oneCell']) (by decide) (by unfold maxLen; omega) (by omega) (Nat.zero_le _) (w4.heap.size + 1) (by simp) ?_; intro g' cap' w5 hown5 hgrow hat hlt5)
          | (go_simp; go_at_call 40; refine (text_any q.lines _ _ (HS1.out.ext (Ext.refl _).drew) hl ht).mono ?_; rintro e w4 ⟨rfl, x4⟩; have x4' := ((Ext.refl _).drew).trans x4; have d1 := x4'.holds c1; have d3 := x4'.holds c3; have d5 := x4'.holds c5))
        all_goals
          have hown := hown5
          have xx : Ext wr w5 := (X1.out.trans (x4'.trans ((Ext.refl w4).alloc (.cells #[vstr q.sender, .int .i64 (IntKind.i64.wrap (q.date - S)), vstr (textB q.lines)] 50)))).trans ⟨hgrow.os, hgrow.tape, hgrow.output, hgrow.size, fun k hk => hgrow.block k hk (by rw [HN.out]; simp)⟩
          have k0 := World.ownsRow.cellAt hown 0 (by decide)
          have k1 := World.ownsRow.cellAt hown 1 (by decide)
          have k2 := World.ownsRow.cellAt hown 2 (by decide)
          have K := Lib.hid (And.intro k0 (And.intro k1 (And.intro k2 xx)))
          clear k0 k1 k2 xx hown hown5 hgrow hat hlt5 x4 x4' d1 d3 d5 c1 c3 c5
          go_wp2
          go_roundw
          case rel => exact .inr ⟨rfl, ⟨_, _, rfl, K.out.1, K.out.2.1.trans (by rw [HD.out]; rfl), K.out.2.2.1⟩, K.out.2.2.2⟩
          case measure => simp [intOf]
    · have K := Lib.hid (And.intro k0 (And.intro k1 (And.intro k2 hx)))
      clear k0 k1 k2 hx
      go_wp2
      go_ret
      exact ⟨⟨g, cap, rfl, K.out.1, K.out.2.1, K.out.2.2.1⟩, K.out.2.2.2⟩
end Go.Proofs.YtfkjjhfoncckcaaGreatDoor
