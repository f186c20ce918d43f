/- view.Month: the walk. -/
import Derived.Test.YtfkjjhfoncckcaaGreatDoorYMonth
import Derived.Test.YtfkjjhfoncckcaaGreatDoorZName
namespace Go.Proofs.YtfkjjhfoncckcaaGreatDoor
open Go.RowKit Go.Sort

theorem month_lens (nm : List UInt8) (x : ListT) (m : MonthT) (h : nm.length ≤ 60) (hx : x.name.length ≤ 100000) (hr : m.root.length ≤ 100000) (hc : I64 m.count) :
    (monthE1 nm x).length ≤ 1000000 ∧ (monthE2 nm x m).length ≤ 1100000 ∧ (monthE3 nm x m).length ≤ 2000000 := by
  have h1 := escapeB_le x.name
  have h2 := hexB_len m.root
  have h3 := Lib.itoa_length_le m.count hc.1 hc.2
  unfold monthE3 monthE2 monthE1
  simp only [putL_len, List.flatten_cons, List.flatten_nil, List.length_append, List.length_nil, List.length_cons]
  omega

set_option maxHeartbeats 2000000 in
set_option maxRecDepth 100000 in
theorem month_any (nm : List UInt8) (hcl : Cl nm) (hnl : nm.length ≤ 60) (x : ListT) (m : MonthT) (hnm : ∀ w, Tab w → Calls Tryz.prog 25 #[.int .i64 m.month] w fun e w' => e = .returned (vstr nm) ∧ Ext w w') (qs : List ViewT) (v : Value) (w : World) (hv : ViewsAt w qs v) (hl : qs.length ≤ 19) (him : I64 m.month ∧ I64 m.count) (hn : x.name.length ≤ 100000) (hr : m.root.length ≤ 100000) (hq : ∀ q ∈ qs, q.commit.length ≤ 100000 ∧ q.id.length ≤ 100000) (hT : Tab w) :
    Calls Tryz.prog 12 #[.agg #[.int .i64 x.id, .int .i64 x.into, .int .i64 x.parent, vstr x.name, vstr x.remote], .agg #[.int .i64 m.list, .int .i64 m.month, .int .i64 m.count, vstr m.root], v] w fun e w' =>
      (∃ d : Array VC, d.toList.map VC.q = qs ∧ e = .returned (vstr (linesE monthL (monthE3 nm x m) ((sortV d).toList.map VC.q))) ∧ (linesE monthL (monthE3 nm x m) ((sortV d).toList.map VC.q)).length ≤ 1073741824) ∧ Ext w w' := by
  obtain ⟨wa, hwa⟩ : ∃ wa, wa = w.alloc (.cells #[.int .i64 x.id, .int .i64 x.into, .int .i64 x.parent, vstr x.name, vstr x.remote] 25) := ⟨_, rfl⟩
  obtain ⟨wb, hwb⟩ : ∃ wb, wb = wa.alloc (.cells #[.int .i64 m.list, .int .i64 m.month, .int .i64 m.count, vstr m.root] 27) := ⟨_, rfl⟩
  have xa : Ext w wa := by rw [hwa]; exact (Ext.refl w).alloc _
  have xb : Ext w wb := by rw [hwb]; exact xa.alloc _
  obtain ⟨W0, hW0⟩ : ∃ W0, W0 = wb.alloc (.cells #[.pointer none, .slice none 0 0] 72) := ⟨_, rfl⟩
  have x0 : Ext w W0 := by rw [hW0]; exact xb.alloc _
  have k0 := Pq.new (hT.ext xb)
  rw [← hW0] at k0
  obtain ⟨bl, hbl⟩ : ∃ bl, bl = w.heap.size := ⟨_, rfl⟩
  have has : wa.heap.size = bl + 1 := by rw [hwa, hbl]; simp
  have hbs : wb.heap.size = bl + 1 + 1 := by rw [hwb]; simp [has]
  rw [hbs] at k0
  have hbw : w.heap.size ≤ bl + 1 + 1 := by omega
  have ca : W0.heap[bl]? = some (.cells #[.int .i64 x.id, .int .i64 x.into, .int .i64 x.parent, vstr x.name, vstr x.remote] 25 (0, 0)) := by
    rw [hW0]
    refine ((Ext.refl wb).alloc _).heap (by omega) |>.trans ?_
    rw [hwb]
    refine ((Ext.refl wa).alloc _).heap (by omega) |>.trans ?_
    rw [hwa, hbl]
    exact heap_new w _
  have cb : W0.heap[bl + 1]? = some (.cells #[.int .i64 m.list, .int .i64 m.month, .int .i64 m.count, vstr m.root] 27 (0, 0)) := by
    rw [hW0]
    refine ((Ext.refl wb).alloc _).heap (by omega) |>.trans ?_
    rw [hwb, ← has]
    exact heap_new wa _
  have c3 : W0.cell? ⟨bl, 3, none⟩ = some (vstr x.name) := by rw [Lib.cell_of_heap ca]; rfl
  have d1 : W0.cell? ⟨bl + 1, 1, none⟩ = some (.int .i64 m.month) := by rw [Lib.cell_of_heap cb]; rfl
  have d2 : W0.cell? ⟨bl + 1, 2, none⟩ = some (.int .i64 m.count) := by rw [Lib.cell_of_heap cb]; rfl
  have d3 : W0.cell? ⟨bl + 1, 3, none⟩ = some (vstr m.root) := by rw [Lib.cell_of_heap cb]; rfl
  obtain ⟨⟨i0, i1⟩, hic⟩ := him
  have D := Lib.hid (And.intro d2 d3)
  have HW := Lib.hid hW0
  have Hwa := Lib.hid hwa
  have Hwb := Lib.hid hwb
  have Hb := Lib.hid hbl
  have K0 := Lib.hid k0
  have X0 := Lib.hid x0
  have Hv := Lib.hid hv
  have Hq := Lib.hid hq
  have Hic := Lib.hid hic
  have Hnm := Lib.hid hnm
  clear ca cb hW0 hwa hwb hbl k0 x0 hv hq hT xa xb d2 d3 has hic hnm
  go_enter Tryz.func12, Tryz.ntmps12
  go_upto_region 2 with fail
  rw [show ((w.alloc (.cells #[.int .i64 x.id, .int .i64 x.into, .int .i64 x.parent, .string ⟨x.name.toArray⟩, .string ⟨x.remote.toArray⟩] 25)).alloc (.cells #[.int .i64 m.list, .int .i64 m.month, .int .i64 m.count, .string ⟨m.root.toArray⟩] 27)).alloc (.cells #[.pointer none, .slice none 0 0] 72) = W0 from by rw [HW.out, Hwb.out, Hwa.out], ← Hb.out]
  go_cut [] (fun wx => Pq W0 wx (bl + 1 + 1) (monthE1 nm x))
  case first =>
    go_region_with (first
      | (go_at_call 25; (with_reducible refine (Hnm.out _ (K0.out.tab.ext (Ext.refl _).drew)).mono ?_); rintro e wa ⟨rfl, ya⟩; have ya' : Ext W0 wa := ((Ext.refl W0).drew).trans ya; have e3 := ya'.holds c3)
      | (go_at_call 26; (with_reducible refine (escape_any x.name _ (by omega) (K0.out.mono ya').tab).mono ?_); rintro e wb ⟨rfl, yb⟩; have yb' : Ext W0 wb := ya'.trans yb)
      | (go_at_call 29; (refine (K0.out.line yb' [[109, 111, 110, 116, 104, 32], nm, [32, 111, 102, 32], escapeB x.name] (Nat.le_of_ble_eq_true rfl) (Nat.le_trans (month_lens nm x m hnl hn hr Hic.out).1 (by decide))).mono ?_); rintro e wz ⟨rfl, Pz⟩))
    all_goals
      go_wp2_with fail
      go_meet
      exact Pz
  case rest =>
    have hp := hcut
    obtain ⟨l1, l2, l3⟩ := month_lens nm x m hnl hn hr Hic.out
    have P1 := Lib.hid hp
    clear hcut hp c3 d1
    have d2 := P1.out.cell (by omega) D.out.1
    go_wp2_with fail
    refine (decimal_any m.count Hic.out.1 Hic.out.2 _ P1.out.tab).mono ?_
    rintro e w3 ⟨rfl, x3⟩
    go_wp2_with fail
    refine (P1.out.line x3 [[109, 101, 115, 115, 97, 103, 101, 115, 32], Lib.itoa m.count] (Nat.le_of_ble_eq_true rfl) (Nat.le_trans l2 (by decide))).mono ?_
    rintro e w4 ⟨rfl, hp⟩
    have P2 : Hid (Pq W0 w4 (bl + 1 + 1) (monthE2 nm x m)) := Lib.hid hp
    clear hp x3 d2
    have d3 := P2.out.cell (by omega) D.out.2
    go_wp2_with fail
    refine (hex_any m.root _ (by omega)).mono ?_
    rintro e w5 ⟨rfl, x5⟩
    go_wp2_with fail
    refine (P2.out.line x5 [[114, 111, 111, 116, 32], hexB m.root] (Nat.le_of_ble_eq_true rfl) (Nat.le_trans l3 (by decide))).mono ?_
    rintro e w6 ⟨rfl, hp⟩
    have P3 : Hid (Pq W0 w6 (bl + 1 + 1) (monthE3 nm x m)) := Lib.hid hp
    clear hp x5 d3
    go_wp2_with fail
    refine (clone_any qs v w6 (Hv.out.ext (P3.out.ext X0.out hbw)) (by omega)).mono ?_
    rintro e w7 ⟨x7, hcase⟩
    have P4 := Lib.hid (P3.out.mono x7)
    rcases hcase with ⟨rfl, a, c, rfl⟩ | ⟨d, g, cap, hd, rfl, hH, hg1, hg2⟩
    · go_wp2_with fail
      refine (sort_call a 0 c _ w7 (fun w' => w' = w7) (by decide) (ins_none a c _ w7)).mono ?_
      rintro e w8 ⟨rfl, rfl⟩
      go_wp2_with fail
      go_loopw [35] (fun i wr => i = .int .i64 0 ∧ wr = w8) (fun _ _ => 0)
      case atStart => exact ⟨rfl, rfl⟩
      case round =>
        obtain ⟨rfl, rfl⟩ := hrel
        go_wp2_with fail
        refine (builder_string _ _ _ _ P4.out.bld (Nat.le_of_lt P4.out.sz)).mono ?_
        rintro e w9 ⟨rfl, _, h9, _⟩
        have x9 := (P4.out.ext X0.out hbw).upon (Below.mono h9 hbw)
        go_wp2
        go_ret
        have e0 : sortV #[] = #[] := Array.eq_empty_of_size_eq_zero (sortV_size #[])
        exact ⟨⟨#[], rfl, by rw [e0]; rfl, by rw [e0]; exact Nat.le_trans l3 (by decide)⟩, x9⟩
    · have hds : d.size = qs.length := by rw [← hd, List.length_map, Array.length_toList]
      have hall : ∀ i, i < d.size → (fun y : VC => y.q.commit.length ≤ 100000 ∧ y.q.id.length ≤ 100000) d[i]! := by
        intro i hi
        rw [getElem!_pos d i hi]
        refine Hq.out _ ?_
        rw [← hd]
        exact List.mem_map.2 ⟨d[i], by rw [← Array.getElem_toList]; exact List.getElem_mem _, rfl⟩
      have hall2 := sortV_all d (fun y : VC => y.q.commit.length ≤ 100000 ∧ y.q.id.length ≤ 100000) hall
      obtain ⟨D, hD⟩ : ∃ D, D = sortV d := ⟨_, rfl⟩
      have hDs : D.size = d.size := by rw [hD]; exact sortV_size d
      rw [← hD] at hall2
      have hins := ins_any g 0 cap d w7 hH.2 hg2 (by omega)
      rw [← hD] at hins
      have hn19 : d.size ≤ 19 := by omega
      have Hd := Lib.hid hd
      have HD := Lib.hid hD
      have Hds := Lib.hid hds
      have HDs := Lib.hid hDs
      have Hin := Lib.hid hins
      have Hall := Lib.hid hall2
      have HH := Lib.hid hH
      have X7 := Lib.hid x7
      clear hall hall2 hd hD hins hH x7 hds hDs
      go_wp2_with fail
      refine (sort_call (some ⟨g, 0, none⟩) d.size cap _ w7 _ hn19 Hin.out).mono ?_
      rintro e w8 ⟨rfl, n, os, hw8⟩
      have x8 : Ext w6 w8 := by rw [hw8]; exact sort_ext X7.out hg1 hg2 n D os
      have v8 : VRow w8 g D := by rw [hw8]; exact HH.out.sorted HDs.out n os
      have P8 := Lib.hid (P3.out.mono x8)
      have V8 := Lib.hid v8
      obtain ⟨L, hL⟩ : ∃ L, L = D.toList.map VC.q := ⟨_, rfl⟩
      have hLl : L.length = d.size := by rw [hL, List.length_map, Array.length_toList, HDs.out]
      have hLq : ∀ q ∈ L, (monthL q).flatten.length ≤ 1000000 := by
        intro q hq
        rw [hL] at hq
        obtain ⟨y, hy, rfl⟩ := List.mem_map.1 hq
        obtain ⟨i, hi, rfl⟩ := List.getElem_of_mem hy
        have h1 := Hall.out i (by rw [← HDs.out]; simpa using hi)
        rw [getElem!_pos D i (by simpa using hi), ← Array.getElem_toList] at h1
        have h2 := escapeB_le (D.toList[i].q.id)
        have h3 := hexB_len (D.toList[i].q.commit)
        simp only [monthL, List.flatten_cons, List.flatten_nil, List.length_append, List.length_nil, List.length_cons]
        omega
      have hLt : (linesE monthL (monthE3 nm x m) L).length ≤ 1073741824 := by
        have := linesE_le monthL 1000000 L hLq (monthE3 nm x m)
        have h5 : L.length * (1000000 + 1) ≤ 19 * 1000001 := Nat.mul_le_mul_right _ (by omega)
        omega
      have hgb : g ≠ bl + 1 + 1 := by have := P3.out.sz; omega
      have HL := Lib.hid hL
      have HLl := Lib.hid hLl
      have HLt := Lib.hid hLt
      clear hw8 x8 v8 hL hLq hLt hLl Hin HH Hall P4 X7
      go_wp2_with fail
      go_loopw [35] (fun i wr => ∃ k : Nat, k ≤ d.size ∧ i = .int .i64 k ∧ Pq W0 wr (bl + 1 + 1) (linesE monthL (monthE3 nm x m) (L.take k)) ∧ VRow wr g D) (fun i _ => d.size - (intOf i).toNat)
      case atStart => exact ⟨0, Nat.zero_le _, rfl, P8.out, V8.out⟩
      case round =>
        obtain ⟨k, hk, rfl, hp, hv⟩ := hrel
        have HP := Lib.hid hp
        have HV := Lib.hid hv
        clear hp hv
        by_cases hlt : k < d.size
        · have hkL : k < L.length := by rw [HLl.out]; exact hlt
          have hkD : k < D.size := by rw [HDs.out]; exact hlt
          have hDk : L[k] = (D[k]!).q := by
            rw [getElem!_pos D k hkD]
            exact (List.getElem_of_eq HL.out hkL).trans (by rw [List.getElem_map, Array.getElem_toList])
          have hcs := fun j hj => holds_cells HV.out.2 k hkD j hj
          obtain ⟨y, hy⟩ : ∃ y, y = D[k]! := ⟨_, rfl⟩
          rw [← hy] at hDk hcs
          have c0 : wr.cell? ⟨g, 0 + k * 8 + 0, none⟩ = some (vstr y.q.id) := hcs 0 (by decide)
          have c1 : wr.cell? ⟨g, 0 + k * 8 + 1, none⟩ = some (vstr y.q.sender) := hcs 1 (by decide)
          have c2 : wr.cell? ⟨g, 0 + k * 8 + 2, none⟩ = some (vstr y.q.subject) := hcs 2 (by decide)
          have c3 : wr.cell? ⟨g, 0 + k * 8 + 3, none⟩ = some (.int .i64 y.q.date) := hcs 3 (by decide)
          have c4 : wr.cell? ⟨g, 0 + k * 8 + 4, none⟩ = some (.int .i64 y.q.state) := hcs 4 (by decide)
          have c5 : wr.cell? ⟨g, 0 + k * 8 + 5, none⟩ = some (.slice y.la y.q.lines.length y.lc) := hcs 5 (by decide)
          have c6 : wr.cell? ⟨g, 0 + k * 8 + 6, none⟩ = some (vstr y.q.commit) := hcs 6 (by decide)
          have c7 : wr.cell? ⟨g, 0 + k * 8 + 7, none⟩ = some (.slice y.ma y.q.lists.length y.mc) := hcs 7 (by decide)
          simp only [Nat.zero_add, Nat.add_zero] at c0 c1 c2 c3 c4 c5 c6 c7
          have hsn := linesE_snoc monthL L (monthE3 nm x m) k hkL
          have hle := Nat.le_trans (linesE_take monthL L (monthE3 nm x m) (k + 1)) HLt.out
          obtain ⟨E, hE⟩ : ∃ E, E = linesE monthL (monthE3 nm x m) (L.take k) := ⟨_, rfl⟩
          rw [← hE, hDk] at hsn
          rw [← hE] at HP
          rw [hsn] at hle
          have Hsn := Lib.hid hsn
          have Hle := Lib.hid hle
          clear hcs hy hDk hsn hE
          have hle2 := Hle.out
          simp only [putL_len, monthL, List.flatten_cons, List.flatten_nil, List.length_append, List.length_nil, List.length_cons] at hle2
          have k2 := hexB_len y.q.commit
          have k3 := escapeB_len y.q.id
          have k4 : y.q.commit.length ≤ 1073741824 := by omega
          have k5 : y.q.id.length ≤ 1073741824 := by omega
          clear hle2 k2 k3 hle
          obtain ⟨bs, hbs2⟩ : ∃ bs, bs = wr.heap.size := ⟨_, rfl⟩
          obtain ⟨V1, hV1⟩ : ∃ V1, V1 = wr.alloc (.cells #[vstr y.q.id, vstr y.q.sender, vstr y.q.subject, .int .i64 y.q.date, .int .i64 y.q.state, .slice y.la y.q.lines.length y.lc, vstr y.q.commit, .slice y.ma y.q.lists.length y.mc] 43) := ⟨_, rfl⟩
          have xv : Ext wr V1 := by rw [hV1]; exact (Ext.refl wr).alloc _
          have e8 : Eight V1 bs (vstr y.q.id) (vstr y.q.sender) (vstr y.q.subject) (.int .i64 y.q.date) (.int .i64 y.q.state) (.slice y.la y.q.lines.length y.lc) (vstr y.q.commit) (.slice y.ma y.q.lists.length y.mc) := by rw [hV1, hbs2]; exact heap_new wr _
          have f0 := e8.cell0
          obtain ⟨_, _, _, f6, _⟩ := e8.cells
          have QV := Lib.hid (HP.out.mono xv)
          have VV := Lib.hid (HV.out.ext xv)
          have HV1 := Lib.hid hV1
          have Hbs := Lib.hid hbs2
          clear hV1 hbs2 xv e8
          go_upto_region 10 with fail
          rw [show wr.alloc (.cells #[.string ⟨y.q.id.toArray⟩, .string ⟨y.q.sender.toArray⟩, .string ⟨y.q.subject.toArray⟩, .int .i64 y.q.date, .int .i64 y.q.state, .slice y.la y.q.lines.length y.lc, .string ⟨y.q.commit.toArray⟩, .slice y.ma y.q.lists.length y.mc] 43) = V1 from HV1.out.symm, ← Hbs.out]
          clear c0 c1 c2 c3 c4 c5 c6 c7
          go_region_with (first
            | (go_at_call 24; (with_reducible refine (hex_any y.q.commit _ k4).mono ?_); rintro e wa ⟨rfl, ya⟩; have ya' : Ext V1 wa := ((Ext.refl V1).drew).trans ya; have e2 := ya'.holds f0)
            | (go_at_call 26; (with_reducible refine (escape_any y.q.id _ k5 (QV.out.mono ya').tab).mono ?_); rintro e wb ⟨rfl, yb⟩; have yb' : Ext V1 wb := ya'.trans yb)
            | (go_at_call 29; (refine (QV.out.line2 yb' (monthL y.q) (Nat.le_of_ble_eq_true rfl) Hle.out).mono ?_); rintro e wz ⟨rfl, Pz, Oz⟩))
          all_goals
            have KQ := Lib.hid (And.intro Pz (VV.out.others Oz hgb))
            clear Pz Oz ya yb ya' yb' e2 f0 f6
            go_wp2
            go_roundw
            case rel => exact ⟨k + 1, by omega, by go_num, by rw [Hsn.out]; exact KQ.out.1, KQ.out.2⟩
            case measure => simp [intOf]; omega
        · obtain rfl : k = d.size := by omega
          rw [← HLl.out, List.take_length] at HP
          go_wp2_with fail
          refine (builder_string _ _ _ _ HP.out.bld (Nat.le_of_lt HP.out.sz)).mono ?_
          rintro e w9 ⟨rfl, _, h9, _⟩
          have x9 := (HP.out.ext X0.out hbw).upon (Below.mono h9 hbw)
          go_wp2
          go_ret
          refine ⟨⟨d, Hd.out, ?_, ?_⟩, x9⟩
          · rw [← HD.out, ← HL.out]
            rfl
          · rw [← HD.out, ← HL.out]
            exact HLt.out
theorem month_some (x : ListT) (m : MonthT) (qs : List ViewT) (v : Value) (w : World) (hv : ViewsAt w qs v) (hl : qs.length ≤ 19) (him : I64 m.month ∧ I64 m.count) (hn : x.name.length ≤ 100000) (hr : m.root.length ≤ 100000) (hq : ∀ q ∈ qs, q.commit.length ≤ 100000 ∧ q.id.length ≤ 100000) (hT : Tab w) :
    Calls Tryz.prog 12 #[.agg #[.int .i64 x.id, .int .i64 x.into, .int .i64 x.parent, vstr x.name, vstr x.remote], .agg #[.int .i64 m.list, .int .i64 m.month, .int .i64 m.count, vstr m.root], v] w fun e w' =>
      (∃ s, e = .returned (vstr s) ∧ Lns s (3 + qs.length) ∧ s.length ≤ 1073741824) ∧ Ext w w' := by
  obtain ⟨nm, ⟨hcl, hnl⟩, hnm⟩ := name_fn m.month him.1.1 him.1.2
  refine (month_any nm hcl hnl x m hnm qs v w hv hl him hn hr hq hT).mono ?_
  rintro e w' ⟨⟨d, hd, rfl, hlt⟩, hx⟩
  refine ⟨⟨_, rfl, ?_, hlt⟩, hx⟩
  have h := Lns.month nm hcl x m ((sortV d).toList.map VC.q)
  have e : ((sortV d).toList.map VC.q).length = qs.length := by rw [List.length_map, Array.length_toList, sortV_size, ← hd, List.length_map, Array.length_toList]
  rw [e] at h
  exact h
end Go.Proofs.YtfkjjhfoncckcaaGreatDoor
