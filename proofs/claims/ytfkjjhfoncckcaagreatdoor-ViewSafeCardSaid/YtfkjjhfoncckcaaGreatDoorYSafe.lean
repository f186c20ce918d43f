/- ViewSafe returns true. -/
import Derived.Test.YtfkjjhfoncckcaaGreatDoorYSafe1
import Derived.Test.YtfkjjhfoncckcaaGreatDoorVSmall
namespace Go.Proofs.YtfkjjhfoncckcaaGreatDoor
open Go.RowKit Go.Sort

def more1 (x : ListT) : Int := 1 + (if 0 < x.into then 1 else 0)
def more2 (x : ListT) : Int := more1 x + (if x.remote = [] then 0 else 1)
def more3 (x : ListT) : Int := more2 x + (if 0 < x.parent then 1 else 0)
theorem more3_eq (x : ListT) : more3 x = (listN x : Int) := by
  unfold more3 more2 more1 listN
  split <;> split <;> split <;> rfl
set_option maxHeartbeats 4000000 in
set_option maxRecDepth 100000 in
theorem safe_walk (qs : List ViewT) (ns : List NodeT) (x : ListT) (m : MonthT) (us : List SubT) (ids : List (List UInt8)) (s : List UInt8) (v0 nv uv iv : Value) (w : World)
    (hv : ViewsAt w qs v0) (hn : NodesAt w ns nv) (hu : SubsAt w us uv) (hi : IdsAt w ids iv) (hl : qs.length ≤ 9223372036854775807 ∧ ns.length ≤ 9223372036854775807 ∧ us.length ≤ 9223372036854775807 ∧ ids.length ≤ 9223372036854775807)
    (hx : I64 x.id ∧ I64 x.into ∧ I64 x.parent) (hm : I64 m.month ∧ I64 m.count) (hd : ∀ q ∈ qs, I64 q.date ∧ I64 q.state ∧ ∀ n ∈ q.lists, I64 n) (hT : Tab w) :
    Calls Tryz.prog 3 #[v0, nv, .agg #[.int .i64 x.id, .int .i64 x.into, .int .i64 x.parent, vstr x.name, vstr x.remote], .agg #[.int .i64 m.list, .int .i64 m.month, .int .i64 m.count, vstr m.root], uv, iv, vstr s] w fun e w' => e = .returned (.bool true) ∧ Ext w w' := by
  obtain ⟨wa, hwa⟩ : ∃ wa, wa = w.alloc (.cells #[.int .i64 x.id, .int .i64 x.into, .int .i64 x.parent, vstr x.name, vstr x.remote] 25) := ⟨_, rfl⟩
  have xa : Ext w wa := by rw [hwa]; exact (Ext.refl w).alloc _
  obtain ⟨W0, hW0⟩ : ∃ W0, W0 = wa.alloc (.cells #[.int .i64 m.list, .int .i64 m.month, .int .i64 m.count, vstr m.root] 27) := ⟨_, rfl⟩
  have x0 : Ext w W0 := by rw [hW0]; exact xa.alloc _
  obtain ⟨bl, hbl⟩ : ∃ bl, bl = w.heap.size := ⟨_, rfl⟩
  have has : wa.heap.size = bl + 1 := by rw [hwa, hbl]; simp
  have ca : W0.heap[bl]? = some (.cells #[.int .i64 x.id, .int .i64 x.into, .int .i64 x.parent, vstr x.name, vstr x.remote] 25 (0, 0)) := by
    rw [hW0]
    refine ((Ext.refl wa).alloc _).heap (by omega) |>.trans ?_
    rw [hwa, hbl]
    exact heap_new w _
  have cb : W0.heap[bl + 1]? = some (.cells #[.int .i64 m.list, .int .i64 m.month, .int .i64 m.count, vstr m.root] 27 (0, 0)) := by
    rw [hW0, ← has]
    exact heap_new wa _
  have c0 : W0.cell? ⟨bl, 0, none⟩ = some (.int .i64 x.id) := by rw [Lib.cell_of_heap ca]; rfl
  have c1 : W0.cell? ⟨bl, 1, none⟩ = some (.int .i64 x.into) := by rw [Lib.cell_of_heap ca]; rfl
  have c2 : W0.cell? ⟨bl, 2, none⟩ = some (.int .i64 x.parent) := by rw [Lib.cell_of_heap ca]; rfl
  have c3 : W0.cell? ⟨bl, 3, none⟩ = some (vstr x.name) := by rw [Lib.cell_of_heap ca]; rfl
  have c4 : W0.cell? ⟨bl, 4, none⟩ = some (vstr x.remote) := by rw [Lib.cell_of_heap ca]; rfl
  have d0 : W0.cell? ⟨bl + 1, 0, none⟩ = some (.int .i64 m.list) := by rw [Lib.cell_of_heap cb]; rfl
  have d1 : W0.cell? ⟨bl + 1, 1, none⟩ = some (.int .i64 m.month) := by rw [Lib.cell_of_heap cb]; rfl
  have d2 : W0.cell? ⟨bl + 1, 2, none⟩ = some (.int .i64 m.count) := by rw [Lib.cell_of_heap cb]; rfl
  have d3 : W0.cell? ⟨bl + 1, 3, none⟩ = some (vstr m.root) := by rw [Lib.cell_of_heap cb]; rfl
  obtain ⟨va, vc, rfl, hvc, hvr⟩ := hv
  obtain ⟨na, nc, rfl, hnc, hnr⟩ := hn
  obtain ⟨ua, uc, rfl, huc, hur⟩ := hu
  obtain ⟨ia, ic, rfl, hic, hir⟩ := hi
  obtain ⟨hl1, hl2, hl3, hl4⟩ := hl
  have C := Lib.hid (And.intro c0 (And.intro c1 (And.intro c2 (And.intro c3 (And.intro c4 (And.intro d0 (And.intro d1 (And.intro d2 d3))))))))
  have HV : Hid (ViewsAt W0 qs (.slice va qs.length vc)) := Lib.hid (ViewsAt.ext x0 ⟨va, vc, rfl, hvc, hvr⟩)
  have HN : Hid (NodesAt W0 ns (.slice na ns.length nc)) := Lib.hid (NodesAt.ext x0 ⟨na, nc, rfl, hnc, hnr⟩)
  have HU : Hid (SubsAt W0 us (.slice ua us.length uc)) := Lib.hid (SubsAt.ext x0 ⟨ua, uc, rfl, huc, hur⟩)
  have HI : Hid (IdsAt W0 ids (.slice ia ids.length ic)) := Lib.hid (IdsAt.ext x0 ⟨ia, ic, rfl, hic, hir⟩)
  have HW := Lib.hid hW0
  have Hwa := Lib.hid hwa
  have Hb := Lib.hid hbl
  have X0 := Lib.hid x0
  have T0 := Lib.hid (hT.ext x0)
  have Hx := Lib.hid hx
  have Hm := Lib.hid hm
  have Hd := Lib.hid hd
  clear ca cb hW0 hwa hbl x0 hvr hnr hur hir hT xa has hx hm hd c0 c1 c2 c3 c4 d0 d1 d2 d3
  go_enter Tryz.func3, Tryz.ntmps3
  go_wp2_with fail
  rw [show (w.alloc (.cells #[.int .i64 x.id, .int .i64 x.into, .int .i64 x.parent, .string ⟨x.name.toArray⟩, .string ⟨x.remote.toArray⟩] 25)).alloc (.cells #[.int .i64 m.list, .int .i64 m.month, .int .i64 m.count, .string ⟨m.root.toArray⟩] 27) = W0 from by rw [HW.out, Hwa.out], ← Hb.out]
  refine (small_true W0 T0.out).mono ?_
  rintro e w1 ⟨rfl, x1⟩
  have X1 := Lib.hid x1
  clear x1
  go_wp2_with fail
  refine (light_chk qs _ w1 (HV.out.ext X1.out) hl1).mono ?_
  rintro e w2 ⟨rfl, x2⟩
  have X2 := Lib.hid (X1.out.trans x2)
  clear x2
  cases hL : lightOk qs with
  | false =>
    clear hL
    go_wp2
    go_ret
    exact ⟨rfl, X0.out.trans X2.out⟩
  | true =>
  obtain ⟨hq8, hq⟩ := light_good hL
  have Hq := Lib.hid hq
  clear hL hq hl1
  go_wp2_with fail
  refine (nodes_chk ns _ w2 (HN.out.ext X2.out) hl2).mono ?_
  rintro e w3 ⟨rfl, rfl⟩
  cases hL : nodesOk ns with
  | false =>
    clear hL
    go_wp2
    go_ret
    exact ⟨rfl, X0.out.trans X2.out⟩
  | true =>
  obtain ⟨hn12, hq⟩ := nodes_good hL
  have Hnq := Lib.hid hq
  clear hL hq hl2
  go_wp2_with fail
  refine (subs_chk us _ w3 (HU.out.ext X2.out) hl3).mono ?_
  rintro e w4 ⟨rfl, rfl⟩
  cases hL : subsOk us with
  | false =>
    clear hL
    go_wp2
    go_ret
    exact ⟨rfl, X0.out.trans X2.out⟩
  | true =>
  obtain ⟨hu12, hq⟩ := subs_good hL
  have Huq := Lib.hid hq
  clear hL hq hl3
  go_wp2_with fail
  refine (ids_chk ids _ w4 (HI.out.ext X2.out) hl4).mono ?_
  rintro e w5 ⟨rfl, rfl⟩
  cases hL : idsOk ids with
  | false =>
    clear hL
    go_wp2
    go_ret
    exact ⟨rfl, X0.out.trans X2.out⟩
  | true =>
  obtain ⟨hi12, hq⟩ := ids_good hL
  have Hiq := Lib.hid hq
  clear hL hq hl4
  have c0 := X2.out.holds C.out.1
  have c1 := X2.out.holds C.out.2.1
  have c2 := X2.out.holds C.out.2.2.1
  have c3 := X2.out.holds C.out.2.2.2.1
  have c4 := X2.out.holds C.out.2.2.2.2.1
  have d0 := X2.out.holds C.out.2.2.2.2.2.1
  have d1 := X2.out.holds C.out.2.2.2.2.2.2.1
  have d2 := X2.out.holds C.out.2.2.2.2.2.2.2.1
  have d3 := X2.out.holds C.out.2.2.2.2.2.2.2.2
  by_cases g1 : (200 : Int) < x.name.length
  · go_wp2
    go_ret
    exact ⟨rfl, X0.out.trans X2.out⟩
  by_cases g2 : (200 : Int) < x.remote.length
  · go_wp2
    go_ret
    exact ⟨rfl, X0.out.trans X2.out⟩
  by_cases g3 : (200 : Int) < m.root.length
  · go_wp2
    go_ret
    exact ⟨rfl, X0.out.trans X2.out⟩
  by_cases g4 : (1500 : Int) < s.length
  · go_wp2
    go_ret
    exact ⟨rfl, X0.out.trans X2.out⟩
  go_upto_if 68 with fail
  go_cut [16, 68] (fun t _ wx => t = .int .i64 (more1 x) ∧ wx = w5)
  case first =>
    by_cases h : 0 < x.into
    · have e : more1 x = 2 := by rw [more1, if_pos h]; rfl
      have HE := Lib.hid e
      clear e
      go_wp2_with fail
      go_meet
      exact ⟨by rw [HE.out], rfl⟩
    · have e : more1 x = 1 := by rw [more1, if_neg h]; rfl
      have HE := Lib.hid e
      clear e
      go_wp2_with fail
      go_meet
      exact ⟨by rw [HE.out], rfl⟩
  case rest =>
  obtain ⟨rfl, rfl⟩ := hcut
  have b1 : 1 ≤ more1 x ∧ more1 x ≤ 2 := by unfold more1; split <;> decide
  obtain ⟨M1, hM1⟩ : ∃ M1, M1 = more1 x := ⟨_, rfl⟩
  rw [← hM1] at b1 ⊢
  have HM1 := Lib.hid hM1
  clear hM1
  go_upto_if 73 with fail
  go_cut [16, 73] (fun t _ wx => t = .int .i64 (more2 x) ∧ wx = wc)
  case first =>
    by_cases h : x.remote = []
    · have e : more2 x = M1 := by rw [more2, if_pos h, ← HM1.out]; omega
      have HE := Lib.hid e
      have HH := Lib.hid h
      clear e h
      go_wp2_with fail
      · exfalso
        have hc := ‹(!x.remote.isEmpty) = true›
        rw [HH.out] at hc
        exact absurd hc (by decide)
      · go_meet
        exact ⟨by rw [HE.out], rfl⟩
    · have e : more2 x = M1 + 1 := by rw [more2, if_neg h, ← HM1.out]
      have HE := Lib.hid e
      clear e
      go_wp2_with fail
      · go_meet
        exact ⟨by rw [HE.out], rfl⟩
      · exfalso
        have hc := ‹(!x.remote.isEmpty) = false›
        rw [Bool.not_eq_false'] at hc
        exact h (List.isEmpty_iff.1 hc)
  case rest =>
  obtain ⟨rfl, rfl⟩ := hcut
  have b2 : 1 ≤ more2 x ∧ more2 x ≤ 3 := by unfold more2; rw [← HM1.out]; split <;> omega
  obtain ⟨M2, hM2⟩ : ∃ M2, M2 = more2 x := ⟨_, rfl⟩
  rw [← hM2] at b2 ⊢
  have HM2 := Lib.hid hM2
  clear hM2
  go_upto_if 78 with fail
  go_cut [16, 78] (fun t _ wx => t = .int .i64 (more3 x) ∧ wx = wc)
  case first =>
    by_cases h : 0 < x.parent
    · have e : more3 x = M2 + 1 := by rw [more3, if_pos h, ← HM2.out]
      have HE := Lib.hid e
      clear e
      go_wp2_with fail
      go_meet
      exact ⟨by rw [HE.out], rfl⟩
    · have e : more3 x = M2 := by rw [more3, if_neg h, ← HM2.out]; omega
      have HE := Lib.hid e
      clear e
      go_wp2_with fail
      go_meet
      exact ⟨by rw [HE.out], rfl⟩
  case rest =>
  obtain ⟨rfl, rfl⟩ := hcut
  have b3 : 1 ≤ more3 x ∧ more3 x ≤ 4 := by unfold more3; rw [← HM2.out]; split <;> omega
  obtain ⟨M3, hM3⟩ : ∃ M3, M3 = more3 x := ⟨_, rfl⟩
  rw [← hM3] at b3 ⊢
  have HM3 : Hid (M3 = (listN x : Int)) := Lib.hid (by rw [hM3, more3_eq])
  clear hM3 HM1 HM2 b1 b2 M1 M2
  have hs1 : s.length ≤ 1500 := by omega
  have hn1 : x.name.length ≤ 200 := by omega
  have hr1 : x.remote.length ≤ 200 := by omega
  have ht1 : m.root.length ≤ 200 := by omega
  have hsh : ∀ q ∈ qs, q.sender.length ≤ 200 ∧ q.subject.length ≤ 200 := fun q h => ⟨(Hq.out q h).2.1, (Hq.out q h).2.2.1⟩
  have hShort : ∀ q ∈ qs, ShortV 100000000 q := fun q h => by
    obtain ⟨a, b, c, _⟩ := Hq.out q h
    exact ⟨by omega, by omega, by omega⟩
  have HSh := Lib.hid hsh
  have HSV := Lib.hid hShort
  clear hsh hShort g1 g2 g3 g4
  have T2 := Lib.hid (T0.out.ext X2.out)
  go_wp2_with fail
  refine (thread_any ns qs _ _ wc (HN.out.ext X2.out) (HV.out.ext X2.out) (by omega) (by omega) HSV.out (fun q h => by have := Hnq.out q h; omega) (thread_le HSh.out Hnq.out hn12) T2.out).mono ?_
  rintro e w6 ⟨rfl, x6⟩
  have X6 := Lib.hid (X2.out.trans x6)
  have f0 := x6.holds c0
  have f1 := x6.holds c1
  have f2 := x6.holds c2
  have f3 := x6.holds c3
  have f4 := x6.holds c4
  have h0 := x6.holds d0
  have h1 := x6.holds d1
  have h2 := x6.holds d2
  have h3 := x6.holds d3
  clear x6 c0 c1 c2 c3 c4 d0 d1 d2 d3
  go_wp2_with fail
  refine (feeds_ok _ ns.length w6 (Lns.thread qs ns) (thread_le HSh.out Hnq.out hn12)).mono ?_
  rintro e w7 ⟨rfl, rfl⟩
  go_wp2_with fail
  refine (month_some x m qs _ w7 (HV.out.ext X6.out) (by omega) Hm.out (by omega) (by omega) (fun q h => by obtain ⟨a, b, c, d, _⟩ := Hq.out q h; omega) (T0.out.ext X6.out)).mono ?_
  rintro e w8 ⟨⟨t1, rfl, ln1, ll1⟩, x8⟩
  have X8 := Lib.hid (X6.out.trans x8)
  have L1 := Lib.hid ln1
  have c0 := x8.holds f0
  have c1 := x8.holds f1
  have c2 := x8.holds f2
  have c3 := x8.holds f3
  have c4 := x8.holds f4
  clear x8 ln1 f0 f1 f2 f3 f4 h0 h1 h2 h3
  go_wp2_with fail
  have hf1 : Calls Tryz.prog 10 #[vstr t1] w8 fun e w' => e = .returned (.int .i64 (3 + (qs.length : Int))) ∧ w' = w8 := by
    have := feeds_ok t1 (3 + qs.length) w8 L1.out ll1
    rwa [Int.natCast_add] at this
  refine hf1.mono ?_
  rintro e w9 ⟨rfl, rfl⟩
  clear hf1
  go_wp2_with fail
  refine (list_any x us ids _ _ w9 (HU.out.ext X8.out) (HI.out.ext X8.out) (by omega) (by omega) Hx.out ⟨by omega, by omega⟩ (fun q h => by have := Huq.out q h; omega) (fun q h => by have := Hiq.out q h; omega) (list_le Hx.out ⟨hn1, hr1⟩ Huq.out Hiq.out hu12 hi12) (T0.out.ext X8.out)).mono ?_
  rintro e w10 ⟨rfl, x10⟩
  have X10 := Lib.hid (X8.out.trans x10)
  clear x10 c0 c1 c2 c3 c4
  have hf2 : Calls Tryz.prog 10 #[vstr (listB x us ids)] w10 fun e w' => e = .returned (.int .i64 (M3 + (ids.length : Int) + (us.length : Int))) ∧ w' = w10 := by
    have := feeds_ok (listB x us ids) _ w10 (Lns.list x us ids) (list_le Hx.out ⟨hn1, hr1⟩ Huq.out Hiq.out hu12 hi12)
    rw [Int.natCast_add, Int.natCast_add, ← HM3.out] at this
    exact this
  have HF2 := Lib.hid hf2
  clear hf2
  go_wp2_with fail
  refine HF2.out.mono ?_
  rintro e w11 ⟨rfl, rfl⟩
  go_wp2_with fail
  refine (search_any s ids qs _ _ w11 (HI.out.ext X10.out) (HV.out.ext X10.out) (by omega) (by omega) HSV.out (fun q h => by have := Hiq.out q h; omega) (by omega) (search_le s HSh.out Hiq.out hi12 hs1) (T0.out.ext X10.out)).mono ?_
  rintro e w12 ⟨rfl, x12⟩
  have X12 := Lib.hid (X10.out.trans x12)
  clear x12
  have hf3 : Calls Tryz.prog 10 #[vstr (searchB s ids qs)] w12 fun e w' => e = .returned (.int .i64 (2 + (ids.length : Int))) ∧ w' = w12 := by
    have := feeds_ok (searchB s ids qs) _ w12 (Lns.search s ids qs) (search_le s HSh.out Hiq.out hi12 hs1)
    rw [Int.natCast_add] at this
    exact this
  have HF3 := Lib.hid hf3
  clear hf3
  go_wp2_with fail
  refine HF3.out.mono ?_
  rintro e w13 ⟨rfl, rfl⟩
  go_wp2_with fail
  go_loopw [17] (fun iv wr => ∃ k : Nat, k ≤ qs.length ∧ iv = .int .i64 k ∧ Ext W0 wr) (fun i _ => qs.length - (intOf i).toNat)
  case atStart => exact ⟨0, Nat.zero_le _, rfl, X12.out⟩
  case round =>
    obtain ⟨k, hk, rfl, hxr⟩ := hrel
    have XR := Lib.hid hxr
    clear hxr
    by_cases hlt : k < qs.length
    · obtain ⟨va2, vc2, hve, _, hvr⟩ := HV.out
      obtain ⟨rfl, rfl⟩ : va = va2 ∧ vc = vc2 := by cases hve; exact ⟨rfl, rfl⟩
      clear hve
      rcases hvr with h0 | ⟨b, o, ha, hrow⟩
      · omega
      subst ha
      have hex : ∃ q : ViewT, ViewAt wr q b (o + k * 8) ∧ (q.id.length ≤ 200 ∧ q.sender.length ≤ 200 ∧ q.subject.length ≤ 200 ∧ q.commit.length ≤ 200 ∧ q.lines.length ≤ 12 ∧ q.lists.length ≤ 12 ∧ ∀ y ∈ q.lines, y.salt.length ≤ 200 ∧ y.text.length ≤ 200 ∧ y.hash.length ≤ 200) ∧ (I64 q.date ∧ I64 q.state ∧ ∀ n ∈ q.lists, I64 n) :=
        ⟨qs[k], (hrow k hlt hlt).ext XR.out, Hq.out _ (List.getElem_mem hlt), Hd.out _ (List.getElem_mem hlt)⟩
      obtain ⟨q, hva, hqq, hdd⟩ := hex
      obtain ⟨la, ln, lc, ma, mn, mc, h0, h1, h2, h3, h4, h5, h6, h7, hS, hI⟩ := hva
      clear hrow
      obtain ⟨aS, cS, hvS, hcS, hrS⟩ := hS
      obtain ⟨aI, cI, hvI, hcI, hrI⟩ := hI
      obtain ⟨rfl, rfl, rfl⟩ : la = aS ∧ ln = q.lines.length ∧ lc = cS := by cases hvS; exact ⟨rfl, rfl, rfl⟩
      obtain ⟨rfl, rfl, rfl⟩ : ma = aI ∧ mn = q.lists.length ∧ mc = cI := by cases hvI; exact ⟨rfl, rfl, rfl⟩
      have HS : Hid (ShownsAt wr q.lines (.slice la q.lines.length lc)) := Lib.hid ⟨_, _, rfl, hcS, hrS⟩
      have HIq : Hid (IntsAt wr q.lists (.slice ma q.lists.length mc)) := Lib.hid ⟨_, _, rfl, hcI, hrI⟩
      have HrS := Lib.hid hrS
      have HQQ := Lib.hid hqq
      have HDD := Lib.hid hdd
      have hn12 : q.lines.length ≤ 12 := hqq.2.2.2.2.1
      have hn13 : q.lists.length ≤ 12 := hqq.2.2.2.2.2.1
      clear hvS hvI hrS hrI hcI hqq hdd
      obtain ⟨B, hB⟩ : ∃ B, B = wr.heap.size := ⟨_, rfl⟩
      obtain ⟨V1, hV1⟩ : ∃ V1, V1 = wr.alloc (.cells #[vstr q.id, vstr q.sender, vstr q.subject, .int .i64 q.date, .int .i64 q.state, .slice la q.lines.length lc, vstr q.commit, .slice ma q.lists.length mc] 43) := ⟨_, rfl⟩
      have sV1 : V1.heap.size = B + 1 := by rw [hV1, hB]; simp
      obtain ⟨V2, hV2⟩ : ∃ V2, V2 = V1.alloc (.cells #[vstr q.id, vstr q.sender, vstr q.subject, .int .i64 q.date, .int .i64 q.state, .slice la q.lines.length lc, vstr q.commit, .slice ma q.lists.length mc] 43) := ⟨_, rfl⟩
      have sV2 : V2.heap.size = B + 1 + 1 := by rw [hV2]; simp [sV1]
      have y1 : Ext wr V1 := by rw [hV1]; exact (Ext.refl wr).alloc _
      have y2 : Ext V1 V2 := by rw [hV2]; exact (Ext.refl V1).alloc _
      have e1 : Eight V2 B (vstr q.id) (vstr q.sender) (vstr q.subject) (.int .i64 q.date) (.int .i64 q.state) (.slice la q.lines.length lc) (vstr q.commit) (.slice ma q.lists.length mc) := by
        refine Eight.ext y2 ?_
        rw [hV1, hB]
        exact heap_new wr _
      have e2 : Eight V2 (B + 1) (vstr q.id) (vstr q.sender) (vstr q.subject) (.int .i64 q.date) (.int .i64 q.state) (.slice la q.lines.length lc) (vstr q.commit) (.slice ma q.lists.length mc) := by
        rw [hV2, ← sV1]
        exact heap_new V1 _
      have Y2 := Lib.hid (y1.trans y2)
      have E1 := Lib.hid e1
      have E2 := Lib.hid e2
      have HV1 := Lib.hid hV1
      have HV2 := Lib.hid hV2
      have HB := Lib.hid hB
      have c5 := e1.cell5
      have SV2 := Lib.hid sV2
      clear hV1 hV2 hB y1 y2 e1 e2 sV1 sV2
      go_upto_region 18 with fail
      rw [show (wr.alloc (.cells #[.string ⟨q.id.toArray⟩, .string ⟨q.sender.toArray⟩, .string ⟨q.subject.toArray⟩, .int .i64 q.date, .int .i64 q.state, .slice la q.lines.length lc, .string ⟨q.commit.toArray⟩, .slice ma q.lists.length mc] 43)).alloc (.cells #[.string ⟨q.id.toArray⟩, .string ⟨q.sender.toArray⟩, .string ⟨q.subject.toArray⟩, .int .i64 q.date, .int .i64 q.state, .slice la q.lines.length lc, .string ⟨q.commit.toArray⟩, .slice ma q.lists.length mc] 43) = V2 from by rw [HV2.out, HV1.out], ← HB.out]
      clear h0 h1 h2 h3 h4 h5 h6 h7
      have c5a := ((Ext.refl V2).alloc (.cells #[] 45)).holds c5
      have E2a := E2.out.ext ((Ext.refl V2).alloc (.cells #[] 45))
      have z5 := E2a.frozen 5
      have k5 := E2a.cell5
      have HE2a := Lib.hid E2a
      have HE1a := Lib.hid (E1.out.ext ((Ext.refl V2).alloc (.cells #[] 45)))
      clear E2a
      go_cut [] (fun wx => ∃ v', Eight wx B (vstr q.id) (vstr q.sender) (vstr q.subject) (.int .i64 q.date) (.int .i64 q.state) (.slice la q.lines.length lc) (vstr q.commit) (.slice ma q.lists.length mc) ∧ Eight wx (B + 1) (vstr q.id) (vstr q.sender) (vstr q.subject) (.int .i64 q.date) (.int .i64 q.state) v' (vstr q.commit) (.slice ma q.lists.length mc) ∧ LRow wx (B + 1) q.lines v' ∧ Ext wr wx)
      case first =>
        cases la with
        | none =>
          have hl0 : q.lines = [] := by
            rcases HrS.out with h0 | ⟨bS, oS, ha, _⟩
            · exact List.length_eq_zero_iff.1 h0
            · cases ha
          have HL0 := Lib.hid hl0
          clear hl0
          go_wp2_with fail
          go_meet
          exact ⟨_, HE1a.out.other 5 _ (by omega), HE2a.out.set5 _, .inl ⟨HL0.out, _, _, rfl⟩, (Y2.out.alloc _).setCell (p := ⟨B + 1, 5, none⟩) (by show _ ≤ B + 1; have := HB.out; omega) _⟩
        | some a =>
          have hcells : ∀ j u, (shownCells q.lines)[j]? = some u → V2.cell? (a.add j) = some u := by
            intro j u hu
            rcases HrS.out with h0 | ⟨bS, oS, ha, hrow⟩
            · rw [List.length_eq_zero_iff.1 h0] at hu
              simp [shownCells] at hu
            · cases ha
              rw [Addr.add_lit]
              exact Y2.out.holds (showns_cells hrow j u hu)
          obtain ⟨F, hF⟩ : ∃ F, F = shownCells q.lines := ⟨_, rfl⟩
          have hlen : F.length = q.lines.length * 4 := by rw [hF]; exact shownCells_length _
          have hone : ∀ u ∈ F, u.oneCell' = true := by rw [hF]; exact shownCells_one _
          rw [← hF] at hcells
          have HF := Lib.hid hF
          have HC := Lib.hid hcells
          have H1 := Lib.hid hone
          clear hF hcells hone
          obtain ⟨i1, hi, hz0, hz1, hz2⟩ := info_parts Tryz.info45
          go_wp2_with (at_builtin; refine wpList_append_own _ rfl _ _ 40 rfl V2.heap.size 45 i1 (.agg #[.bool false, .string ByteArray.empty, .string ByteArray.empty, .string ByteArray.empty]) 4 56 Tryz.underlying40 hi hz0 hz1 hz2 rfl (by decide) _ _ _ rfl (World.ownsRow_made V2 #[] 0 (Nat.le_refl _) (Nat.zero_le _) rfl) a q.lines.length lc F rfl hlen (fun j u hj => Lib.cell?_alloc_some _ (HC.out j u hj)) H1.out (by unfold maxLen; omega) (by omega) (by simp) ?_; intro v' w3 hown hgrow _; (obtain ⟨ao, co, rfl⟩ := own_slice hown); have hne : ∀ k, k < B + 1 + 1 → some k ≠ (Value.slice (some ⟨V2.heap.size, 0, none⟩) 0 0).ownBlock := fun k hk e => (by have := SV2.out; simp [Value.ownBlock] at e; omega); have e1 := (hgrow.block B (by have := SV2.out; simp; omega) (hne B (by omega))).trans HE1a.out; have e2 := (hgrow.block (B + 1) (by have := SV2.out; simp; omega) (hne (B + 1) (by omega))).trans HE2a.out; have kk5 := Eight.cell5 e2; have zz5 := Eight.frozen e2 5)
          have x3 : Ext V2 w3 := ((Below.refl _ V2).alloc (Nat.le_refl _) _).grown hgrow (by simp) (by intro k hk; have h2 : some V2.heap.size = some k := hk; exact Nat.le_of_eq (Option.some.inj h2))
          have R := Lib.hid (And.intro e1 (And.intro e2 (And.intro hown x3)))
          clear e1 e2 hown x3 hgrow hne
          go_wp2_with fail
          go_meet
          have hown2 := R.out.2.2.1
          rw [HF.out] at hown2
          refine ⟨_, Eight.other 5 _ R.out.1 (by omega), Eight.set5 R.out.2.1 _, LRow.of_own (base := V2.heap.size) ?_ (by have := SV2.out; omega), (Y2.out.trans R.out.2.2.2).setCell (p := ⟨B + 1, 5, none⟩) (by show _ ≤ B + 1; have := HB.out; omega) _⟩
          exact ownsRow_setCell_below (by simpa using hown2) (by show B + 1 < _; have := SV2.out; omega) _
      case rest =>
      obtain ⟨v', e1, e2, hLR, hxc⟩ := hcut
      have XC := Lib.hid hxc
      have HE1 := Lib.hid e1
      have HE2 := Lib.hid e2
      have HLR := Lib.hid hLR
      clear e1 e2 hLR hxc c5 c5a z5 k5 HE1a HE2a E1 E2
      obtain ⟨a', c', rfl⟩ : ∃ a' c', v' = .slice a' q.lines.length c' := by
        rcases HLR.out with ⟨h0, a, c, rfl⟩ | ⟨g, cap, rfl, _⟩
        · exact ⟨a, c, by rw [h0]; rfl⟩
        · exact ⟨_, _, rfl⟩
      go_wp2_with fail
      go_loopw [20] (fun jv wq => ∃ j : Nat, j ≤ q.lines.length ∧ jv = .int .i64 j ∧ Eight wq B (vstr q.id) (vstr q.sender) (vstr q.subject) (.int .i64 q.date) (.int .i64 q.state) (.slice la q.lines.length lc) (vstr q.commit) (.slice ma q.lists.length mc) ∧ Eight wq (B + 1) (vstr q.id) (vstr q.sender) (vstr q.subject) (.int .i64 q.date) (.int .i64 q.state) (.slice a' q.lines.length c') (vstr q.commit) (.slice ma q.lists.length mc) ∧ LRow wq (B + 1) (hidJ s q.lines j) (.slice a' q.lines.length c') ∧ Below B wc wq) (fun i _ => q.lines.length - (intOf i).toNat)
      case atStart => exact ⟨0, Nat.zero_le _, rfl, HE1.out, HE2.out, by rw [hidJ_zero]; exact HLR.out, Below.refl _ _⟩
      case round =>
        obtain ⟨j, hj, rfl, e1, e2, hLR, hbw⟩ := hrel
        have F1 := Lib.hid e1
        have F2 := Lib.hid e2
        have FL := Lib.hid hLR
        have FB := Lib.hid hbw
        have c5 := e2.cell5
        clear e1 e2 hLR hbw
        by_cases hjl : j < q.lines.length
        · obtain ⟨g, rfl, hr, hg, hcap⟩ : ∃ g, a' = some ⟨g, 0, none⟩ ∧ SRow wr g (hidJ s q.lines j) ∧ B + 1 < g ∧ q.lines.length ≤ c' := by
            rcases FL.out with ⟨h0, _⟩ | ⟨g, cap, he, hr, hg, hc⟩
            · have := hidJ_len s q.lines j
              rw [h0] at this
              have h9 : (0 : Nat) = q.lines.length := this
              omega
            · simp only [Value.slice.injEq] at he
              obtain ⟨rfl, _, rfl⟩ := he
              rw [hidJ_len] at hc
              exact ⟨g, rfl, hr, hg, hc⟩
          have hlj : j < (hidJ s q.lines j).length := by rw [hidJ_len]; exact hjl
          obtain ⟨s0, s1, s2, s3⟩ := hr.cells j hlj
          have hget := hidJ_get s q.lines j hjl hlj
          rw [hget] at s0 s1 s2 s3
          have z1 := hr.frozen (j * 4 + 1)
          have z2 := hr.frozen (j * 4 + 2)
          have HG := Lib.hid hget
          have HR := Lib.hid hr
          have n1 : ¬ g = B + 1 := by omega
          have n2 : ¬ B + 1 = g := by omega
          clear hr hget
          cases hh : q.lines[j].hid with
          | false =>
            rw [hh] at s0
            have hnext : Hid (hidJ s q.lines (j + 1) = hidJ s q.lines j) := Lib.hid (by rw [hidJ_succ s q.lines j hjl, hideS_plain s _ hh]; exact set_same _ _ _ hlj HG.out)
            clear hh
            go_wp2
            go_roundw
            case rel => exact ⟨j + 1, by omega, by go_num, F1.out, F2.out, by rw [hnext.out]; exact FL.out, FB.out⟩
            case measure => simp [intOf]; omega
          | true =>
            rw [hh] at s0
            have hput := SRow.put HR.out j hlj (by rw [HG.out]; exact hh) s
            rw [HG.out, ← hidJ_succ s q.lines j hjl] at hput
            have HPut := Lib.hid hput
            clear hh hput
            have t1 : (wr.setCell ⟨g, j * 4 + 2, none⟩ (vstr s)).cell? ⟨g, j * 4 + 1, none⟩ = some (vstr q.lines[j].salt) := by
              refine Eq.trans (World.cell?_setCell_other (h := ?_) ..) s1
              intro h
              have h2 : j * 4 + 2 = j * 4 + 1 := congrArg Addr.off h
              omega
            go_wp2
            go_roundw
            case rel => exact ⟨j + 1, by omega, by go_num, (F1.out.other _ _ (by omega)).other _ _ (by omega), (F2.out.other _ _ (by omega)).other _ _ (by omega), .inr ⟨g, c', by rw [hidJ_len], HPut.out, hg, by rw [hidJ_len]; exact hcap⟩, (FB.out.setCell (p := ⟨g, j * 4 + 2, none⟩) (by show B ≤ g; omega) _).setCell (p := ⟨g, j * 4 + 1, none⟩) (by show B ≤ g; omega) _⟩
            case measure => simp [intOf]; omega
        · obtain rfl : j = q.lines.length := by omega
          have hLR2 := FL.out
          rw [hidJ_all] at hLR2
          have FL2 := Lib.hid hLR2
          clear hLR2 FL
          have XQ := Lib.hid (XC.out.upon (show Below _ wc wr from by have h9 := FB.out; rw [HB.out] at h9; exact h9))
          have p0 := F1.out.cell0
          have p1 := F1.out.cell1
          have p2 := F1.out.cell2
          obtain ⟨p3, p4, p5, p6, p7⟩ := F1.out.cells
          go_wp2_with fail
          refine (mbox_one q _ _ (view_one (HS.out.ext XQ.out) (HIq.out.ext XQ.out)) (by omega) (text_le (fun y hy => (HQQ.out.2.2.2.2.2.2 y hy).2.1) hn12)).mono ?_
          rintro e w21 ⟨⟨g1, cap1, rfl, r0, r1, r2⟩, x21⟩
          have x21w := ((Ext.refl _).alloc _).trans x21
          have G1 := Lib.hid (F1.out.ext x21w)
          have G2 := Lib.hid (F2.out.ext x21w)
          have GL := Lib.hid (FL2.out.ext x21w)
          have XQ2 := Lib.hid (XQ.out.trans x21w)
          have R1 := Lib.hid (And.intro r0 (And.intro r1 r2))
          have q0 := G2.out.cell0
          have q1 := G2.out.cell1
          have q2 := G2.out.cell2
          obtain ⟨q3, q4, q5, q6, q7⟩ := G2.out.cells
          clear r0 r1 r2 x21 x21w p0 p1 p2 p3 p4 p5 p6 p7 c5 F1 F2 FL2
          go_wp2_with fail
          refine (mbox_one (hidV s q) _ _ (view_hid (s := s) GL.out.at (HIq.out.ext XQ2.out)) (by show (q.lines.map _).length ≤ _; rw [List.length_map]; omega) (by show (textB (q.lines.map (hideS s))).length ≤ _; rw [hide_text]; exact text_le (fun y hy => (HQQ.out.2.2.2.2.2.2 y hy).2.1) hn12)).mono ?_
          rintro e w22 ⟨⟨g2, cap2, rfl, r0, r1, r2⟩, x22⟩
          have x22w := ((Ext.refl _).alloc _).trans x22
          have J1 := Lib.hid (G1.out.ext x22w)
          have J2 := Lib.hid (G2.out.ext x22w)
          have JL := Lib.hid (GL.out.ext x22w)
          have XQ3 := Lib.hid (XQ2.out.trans x22w)
          have R1a := Lib.hid (And.intro (x22w.holds R1.out.1) (And.intro (x22w.holds R1.out.2.1) (x22w.holds R1.out.2.2)))
          have R2 := Lib.hid (And.intro r0 (And.intro r1 r2))
          clear r0 r1 r2 x22 x22w q0 q1 q2 q3 q4 q5 q6 q7 G1 G2 GL
          go_upto_region 27 with fail
          obtain ⟨M, hM⟩ : ∃ M, M = messageB q := ⟨_, rfl⟩
          obtain ⟨Q, hQ⟩ : ∃ Q, Q = (8 : Int) + (q.lines.length : Int) := ⟨_, rfl⟩
          have hle := message_le HDD.out HQQ.out
          have hM1 : ∀ W, Ext w22 W → Calls Tryz.prog 16 #[.agg #[vstr q.id, vstr q.sender, vstr q.subject, .int .i64 q.date, .int .i64 q.state, .slice la q.lines.length lc, vstr q.commit, .slice ma q.lists.length mc]] W fun e w' => e = .returned (vstr M) ∧ Ext W w' := fun W xw => by
            rw [hM]
            exact message_any q _ W ⟨_, _, _, _, _, _, rfl, HS.out.ext (XQ3.out.trans xw), HIq.out.ext (XQ3.out.trans xw)⟩ (by omega) (by omega) (by omega) HDD.out.1 HDD.out.2.1 HDD.out.2.2 (T0.out.ext (XR.out.trans (XQ3.out.trans xw)))
          have hM2 : ∀ W, Ext w22 W → Calls Tryz.prog 16 #[.agg #[vstr q.id, vstr q.sender, vstr q.subject, .int .i64 q.date, .int .i64 q.state, .slice a' q.lines.length c', vstr q.commit, .slice ma q.lists.length mc]] W fun e w' => e = .returned (vstr M) ∧ Ext W w' := fun W xw => by
            have hh : messageB (hidV s q) = messageB q := hide_message s q
            rw [hM, ← hh]
            exact message_any (hidV s q) _ W ⟨_, _, _, _, _, _, rfl, JL.out.at.ext xw, HIq.out.ext (XQ3.out.trans xw)⟩ (by rw [hh]; omega) (by show (q.lines.map _).length ≤ _; rw [List.length_map]; omega) (by show q.lists.length ≤ _; omega) HDD.out.1 HDD.out.2.1 HDD.out.2.2 (T0.out.ext (XR.out.trans (XQ3.out.trans xw)))
          have hF1 : ∀ W, Calls Tryz.prog 10 #[vstr M] W fun e w' => e = .returned (.int .i64 Q) ∧ Ext W w' := fun W => by
            refine (feeds_ok M (8 + q.lines.length) W (by rw [hM]; exact Lns.message q) (by rw [hM]; omega)).mono ?_
            rintro e w' ⟨rfl, rfl⟩
            rw [hQ, Int.natCast_add]
            exact ⟨rfl, Ext.refl _⟩
          have hwr : IntKind.i64.wrap Q = Q := wrap_small _ (by omega) (by omega)
          have hws : (8 : Int) + (q.lines.length : Int) = Q := hQ.symm
          have HMM1 := Lib.hid hM1
          have HMM2 := Lib.hid hM2
          have HFF := Lib.hid hF1
          have p0 := J1.out.cell0
          have p1 := J1.out.cell1
          have p2 := J1.out.cell2
          obtain ⟨p3, p4, p5, p6, p7⟩ := J1.out.cells
          have q0 := J2.out.cell0
          have q1 := J2.out.cell1
          have q2 := J2.out.cell2
          obtain ⟨q3, q4, q5, q6, q7⟩ := J2.out.cells
          clear hM hQ hle hM1 hM2 hF1
          go_cut [196] (fun t wx => t = .bool false ∧ Ext w22 wx)
          case first =>
            go_region_held3 (fun w' => (w'.cell? ⟨B, 0, none⟩ = some (vstr q.id) ∧ w'.cell? ⟨B, 1, none⟩ = some (vstr q.sender) ∧ w'.cell? ⟨B, 2, none⟩ = some (vstr q.subject) ∧ w'.cell? ⟨B, 3, none⟩ = some (.int .i64 q.date) ∧ w'.cell? ⟨B, 4, none⟩ = some (.int .i64 q.state) ∧ w'.cell? ⟨B, 5, none⟩ = some (.slice la q.lines.length lc) ∧ w'.cell? ⟨B, 6, none⟩ = some (vstr q.commit) ∧ w'.cell? ⟨B, 7, none⟩ = some (.slice ma q.lists.length mc)) ∧
                (w'.cell? ⟨B + 1, 0, none⟩ = some (vstr q.id) ∧ w'.cell? ⟨B + 1, 1, none⟩ = some (vstr q.sender) ∧ w'.cell? ⟨B + 1, 2, none⟩ = some (vstr q.subject) ∧ w'.cell? ⟨B + 1, 3, none⟩ = some (.int .i64 q.date) ∧ w'.cell? ⟨B + 1, 4, none⟩ = some (.int .i64 q.state) ∧ w'.cell? ⟨B + 1, 5, none⟩ = some (.slice a' q.lines.length c') ∧ w'.cell? ⟨B + 1, 6, none⟩ = some (vstr q.commit) ∧ w'.cell? ⟨B + 1, 7, none⟩ = some (.slice ma q.lists.length mc)) ∧ Ext w22 w')
              (first
                | exact ⟨⟨p0, p1, p2, p3, p4, p5, p6, p7⟩, ⟨q0, q1, q2, q3, q4, q5, q6, q7⟩, Ext.drew (Ext.refl _)⟩
                | (go_split_ands
                   exact ⟨⟨xx.holds (by assumption), xx.holds (by assumption), xx.holds (by assumption), xx.holds (by assumption), xx.holds (by assumption), xx.holds (by assumption), xx.holds (by assumption), xx.holds (by assumption)⟩, ⟨xx.holds (by assumption), xx.holds (by assumption), xx.holds (by assumption), xx.holds (by assumption), xx.holds (by assumption), xx.holds (by assumption), xx.holds (by assumption), xx.holds (by assumption)⟩, Ext.trans (by assumption) xx⟩))
              (first
                | (go_at_call 16; go_split_ands; ((with_reducible refine (HMM1.out _ (by assumption)).mono ?_); rintro e w' ⟨rfl, xx⟩))
                | (go_at_call 16; go_split_ands; ((with_reducible refine (HMM2.out _ (by assumption)).mono ?_); rintro e w' ⟨rfl, xx⟩))
                | (go_at_call 10; go_split_ands; ((with_reducible refine (HFF.out _).mono ?_); rintro e w' ⟨rfl, xx⟩)))
            all_goals (go_wp2_with fail; go_meet; go_split_ands; exact ⟨rfl, by assumption⟩)
          case rest =>
            obtain ⟨rfl, x23⟩ := hcut
            have s0 := x23.holds R1a.out.1
            have s1 := x23.holds R1a.out.2.1
            have s2 := x23.holds R1a.out.2.2
            have t0 : World.cell? _ ⟨g2, 0, none⟩ = some (vstr q.sender) := x23.holds R2.out.1
            have t1 : World.cell? _ ⟨g2, 1, none⟩ = some (.int .i64 (mdate q.date)) := x23.holds R2.out.2.1
            have t2 := x23.holds R2.out.2.2
            rw [show textB (hidV s q).lines = textB q.lines from hide_text s q.lines] at t2
            have XF := Lib.hid (XR.out.trans (XQ3.out.trans x23))
            have hes := fun w => entry_same q.sender (textB q.lines) (mdate q.date) w
            have heg : Tryz.prog.eqGuardType Tryz.prog.depth 50 = false := by kernel_rfl
            clear x23
            go_upto_region 29 with fail
            go_quiet (fail)
            go_wp2_with fail
            go_roundw
            case rel => exact ⟨k + 1, by omega, by go_num, XF.out.drewN _⟩
            case measure => simp [intOf]; omega
    · obtain rfl : k = qs.length := by omega
      go_wp2
      go_ret
      exact ⟨rfl, X0.out.trans XR.out⟩
end Go.Proofs.YtfkjjhfoncckcaaGreatDoor
